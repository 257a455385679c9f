/- Settings, rows of settings, nodes: plain, and how they lie in memory. -/
import Derived.Test.YtehdddilcakmlaaDoorBase
import Derived.Test.YtehdddilcakmlaaDoorField
import Derived.Sort.Grow
import Derived.Deep.Cut
import Derived.Deep.RegionHeld3
import Derived.Laws.StructEq
import Derived.OwnWalk
import Derived.Laws.MakeOwn
namespace Go.Proofs.YtehdddilcakmlaaDoor
open Go.RowKit Go.Sort

/-- a setting -/
structure AcD where
  d : Int
  f : Int
  n : Int
  deriving DecidableEq
abbrev RowD := List AcD
def AcD.cs (x : AcD) : List Value := [.int .i8 x.d, .int .i8 x.f, .int .u64 x.n]
def AcD.ok (x : AcD) : Prop := (-128 ≤ x.d ∧ x.d ≤ 127) ∧ (-128 ≤ x.f ∧ x.f ≤ 127) ∧ (0 ≤ x.n ∧ x.n ≤ 18446744073709551615)
instance : Inhabited AcD := ⟨⟨0, 0, 0⟩⟩
theorem AcD.len_cs (x : AcD) : x.cs.length = 3 := rfl
theorem AcD.one (x : AcD) : ∀ v ∈ x.cs, v.oneCell' = true := by
  intro v hv
  simp [AcD.cs] at hv
  rcases hv with rfl | rfl | rfl <;> rfl
def flatA (r : RowD) : List Value := r.flatMap AcD.cs
theorem flatA_len (r : RowD) : (flatA r).length = r.length * 3 := by
  induction r with
  | nil => rfl
  | cons x xs ih => simp only [flatA, List.flatMap_cons, List.length_append, AcD.len_cs, List.length_cons] at *; omega
theorem flatA_app (l m : RowD) : flatA (l ++ m) = flatA l ++ flatA m := by simp [flatA]
/-- a node -/
structure NdD where
  f : Int
  n : Int
  hi : Int
  lo : Int
  leaf : List RowD
  deriving DecidableEq
def NdD.cs (x : NdD) (lv : Value) : List Value := [.int .i8 x.f, .int .u64 x.n, .int .i64 x.hi, .int .i64 x.lo, lv]

/-- a row of settings, read in blocks that B lets -/
def RowOn (B : Nat → Prop) (w : World) (r : RowD) (v : Value) : Prop :=
  ∃ p len cap, v = .slice p len cap ∧ len = r.length ∧ len ≤ cap ∧ cap ≤ 9223372036854775807 ∧ (∀ x ∈ r, x.ok) ∧ (r = [] ∨ ∃ b o, p = some ⟨b, o, none⟩ ∧ B b ∧ b < w.heap.size ∧ w.rangeAt b o (flatA r))
/-- rows of settings -/
def RowsOn (B : Nat → Prop) (w : World) (l : List RowD) (v : Value) : Prop :=
  ∃ p len cap, v = .slice p len cap ∧ len = l.length ∧ len ≤ cap ∧ cap ≤ 9223372036854775807 ∧ (l = [] ∨ ∃ b o vs, p = some ⟨b, o, none⟩ ∧ B b ∧ b < w.heap.size ∧ vs.length = l.length ∧ w.rangeAt b o vs ∧ ∀ i (h : i < l.length) (h' : i < vs.length), RowOn B w (l[i]) (vs[i]))
def AnyB : Nat → Prop := fun _ => True
theorem RowOn.keep {B : Nat → Prop} {w w' : World} {r : RowD} {v : Value} (h : RowOn B w r v) (hs : w.heap.size ≤ w'.heap.size) (hk : ∀ b, B b → b < w.heap.size → w'.heap[b]? = w.heap[b]?) : RowOn B w' r v := by
  obtain ⟨p, len, cap, e1, e2, e3, e4, e5, e6⟩ := h
  refine ⟨p, len, cap, e1, e2, e3, e4, e5, e6.imp id fun ⟨b, o, hp, hb, hlt, hr⟩ => ⟨b, o, hp, hb, by omega, fun j u hu => ?_⟩⟩
  rw [World.cell?_of_block (a := ⟨b, o + j, none⟩) (hk b hb hlt)]
  exact hr j u hu
theorem RowsOn.keep {B : Nat → Prop} {w w' : World} {l : List RowD} {v : Value} (h : RowsOn B w l v) (hs : w.heap.size ≤ w'.heap.size) (hk : ∀ b, B b → b < w.heap.size → w'.heap[b]? = w.heap[b]?) : RowsOn B w' l v := by
  obtain ⟨p, len, cap, e1, e2, e3, e4, e6⟩ := h
  refine ⟨p, len, cap, e1, e2, e3, e4, e6.imp id fun ⟨b, o, vs, hp, hb, hlt, hl, hr, hrow⟩ => ⟨b, o, vs, hp, hb, by omega, hl, fun j u hu => ?_, fun i h h' => (hrow i h h').keep hs hk⟩⟩
  rw [World.cell?_of_block (a := ⟨b, o + j, none⟩) (hk b hb hlt)]
  exact hr j u hu
theorem RowOn.mono {B C : Nat → Prop} {w : World} {r : RowD} {v : Value} (h : RowOn B w r v) (hBC : ∀ b, b < w.heap.size → B b → C b) : RowOn C w r v := by
  obtain ⟨p, len, cap, e1, e2, e3, e4, e5, e6⟩ := h
  exact ⟨p, len, cap, e1, e2, e3, e4, e5, e6.imp id fun ⟨b, o, hp, hb, hlt, hr⟩ => ⟨b, o, hp, hBC b hlt hb, hlt, hr⟩⟩
theorem RowsOn.mono {B C : Nat → Prop} {w : World} {l : List RowD} {v : Value} (h : RowsOn B w l v) (hBC : ∀ b, b < w.heap.size → B b → C b) : RowsOn C w l v := by
  obtain ⟨p, len, cap, e1, e2, e3, e4, e6⟩ := h
  exact ⟨p, len, cap, e1, e2, e3, e4, e6.imp id fun ⟨b, o, vs, hp, hb, hlt, hl, hr, hrow⟩ => ⟨b, o, vs, hp, hBC b hlt hb, hlt, hl, hr, fun i h h' => (hrow i h h').mono hBC⟩⟩
theorem RowOn.ext {B : Nat → Prop} {w w' : World} {r : RowD} {v : Value} (h : RowOn B w r v) (hx : Ext w w') : RowOn B w' r v := h.keep hx.size fun b _ hlt => Below.block hx b hlt
theorem RowsOn.ext {B : Nat → Prop} {w w' : World} {l : List RowD} {v : Value} (h : RowsOn B w l v) (hx : Ext w w') : RowsOn B w' l v := h.keep hx.size fun b _ hlt => Below.block hx b hlt
theorem RowOn.nil {B : Nat → Prop} {w : World} : RowOn B w [] (.slice none 0 0) := ⟨none, 0, 0, rfl, rfl, Nat.le_refl _, by omega, (fun _ h => by cases h), .inl rfl⟩
theorem RowsOn.nil {B : Nat → Prop} {w : World} : RowsOn B w [] (.slice none 0 0) := ⟨none, 0, 0, rfl, rfl, Nat.le_refl _, by omega, .inl rfl⟩
theorem RowOn.form {B : Nat → Prop} {w : World} {r : RowD} {v : Value} (h : RowOn B w r v) : ∃ p cap, v = .slice p r.length cap ∧ r.length ≤ cap ∧ cap ≤ 9223372036854775807 := by
  obtain ⟨p, len, cap, rfl, rfl, e3, e4, -⟩ := h
  exact ⟨p, cap, rfl, e3, e4⟩

/-- w' is w, draws, new blocks -/
def Grown (w w' : World) : Prop := ∃ (q : Nat) (os : Array Obj), w' = grow (w.drewN q) os
theorem Grown.refl (w : World) : Grown w w := ⟨0, #[], by simp [World.drewN]⟩
theorem grow_drewN (w : World) (os : Array Obj) (q : Nat) : (grow w os).drewN q = grow (w.drewN q) os := rfl
theorem Grown.alloc {a w : World} (h : Grown a w) (o : Obj) : Grown a (w.alloc o) := by
  obtain ⟨q, os, rfl⟩ := h
  exact ⟨q, os ++ #[o], by rw [alloc_eq_grow, grow_grow]⟩
theorem drewN_drewN (w : World) (p q : Nat) : (w.drewN p).drewN q = w.drewN (p + q) := by simp [World.drewN, Nat.add_assoc]
theorem Grown.drewN {a w : World} (h : Grown a w) (n : Nat) : Grown a (w.drewN n) := by
  obtain ⟨q, os, rfl⟩ := h
  exact ⟨q + n, os, by rw [grow_drewN, drewN_drewN]⟩
theorem Grown.drew {a w : World} (h : Grown a w) : Grown a w.drew := h.drewN 1
theorem Grown.trans {a b c : World} (h : Grown a b) (k : Grown b c) : Grown a c := by
  obtain ⟨q, os, rfl⟩ := h
  obtain ⟨q', os', rfl⟩ := k
  exact ⟨q + q', os ++ os', by rw [grow_drewN, drewN_drewN, grow_grow]⟩
theorem grow_below (w : World) (os : Array Obj) : Below w.heap.size w (grow w os) := ⟨rfl, rfl, rfl, by simp [grow], fun i hi => by simp [grow, Array.getElem?_append, hi]⟩
theorem Grown.ext {a b : World} (h : Grown a b) : Ext a b := by
  obtain ⟨q, os, rfl⟩ := h
  exact (Ext.drewN a q).trans (grow_below _ _)
end Go.Proofs.YtehdddilcakmlaaDoor
