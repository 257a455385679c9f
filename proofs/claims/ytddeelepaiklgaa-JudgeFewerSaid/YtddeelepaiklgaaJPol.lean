/- Policies with queries, as values. -/
import Derived.Test.YtddeelepaiklgaaPol
import Derived.Test.YtddeelepaiklgaaRange
import Derived.Test.YtddeelepaiklgaaSet
import Derived.Test.YtddeelepaiklgaaJName
import Derived.StringKeys
namespace Go.Proofs.Ytddeelepaiklgaa
open Go.RowKit Go.Maps

/-- a string that fits memory -/
instance decB : DecidableEq ByteArray := fun a b => decidable_of_iff (a.data = b.data) ⟨fun h => ByteArray.ext h, fun h => by rw [h]⟩
abbrev Str := { s : ByteArray // s.size ≤ maxLen }
abbrev Qr := Str × Tm
def kvS (s : Str) : Value := .string s.1
def vvI (n : Nat) : Value := .int .i64 n
theorem codedS : Coded Try.prog 9 kvS where
  keyed := string_keyed Try.underlying9
  key := fun s => ⟨_, WideMaps.keyOf_string_mk Try.underlying9 s.2⟩
  inj := fun h => Subtype.ext (by simpa [kvS] using h)

/-- the five cells from ⟨b, o⟩ on read as a query -/
def QAt (w : World) (q : Qr) (b o : Nat) : Prop := w.cell? ⟨b, o, none⟩ = some (.string q.1.1) ∧ q.2.At w b (o + 1)
def QsAt (w : World) : List Qr → Nat → Nat → Prop
  | [], _, _ => True
  | q :: qs, b, o => QAt w q b o ∧ QsAt w qs b (o + 5)
theorem QsAt_get {w : World} : ∀ {qs : List Qr} {b o : Nat}, QsAt w qs b o → ∀ i (h : i < qs.length), QAt w (qs[i]) b (o + i * 5)
  | q :: qs, b, o, h, 0, _ => by simpa using h.1
  | q :: qs, b, o, h, i + 1, hi => by
    have := QsAt_get h.2 i (by simpa using hi)
    simpa [Nat.add_mul, Nat.add_assoc, Nat.add_comm 5] using this
theorem QAt.later {w w' : World} {q : Qr} {b o : Nat} (hl : Later w w') (h : QAt w q b o) : QAt w' q b o := ⟨hl _ _ h.1, h.2.later hl⟩
theorem QsAt.later {w w' : World} (hl : Later w w') : ∀ {qs : List Qr} {b o : Nat}, QsAt w qs b o → QsAt w' qs b o
  | [], _, _, _ => trivial
  | _ :: _, _, _, h => ⟨h.1.later hl, QsAt.later hl h.2⟩
/-- a slice of queries -/
def Qs (w : World) (qs : List Qr) (v : Value) : Prop :=
  ∃ p len cap, v = .slice p len cap ∧ len = qs.length ∧ len ≤ cap ∧ cap ≤ 9223372036854775807 ∧ (qs = [] ∨ ∃ b o, p = some ⟨b, o, none⟩ ∧ QsAt w qs b o)
theorem Qs.later {w w' : World} (hl : Later w w') {qs : List Qr} {v : Value} (h : Qs w qs v) : Qs w' qs v := by
  obtain ⟨p, len, cap, rfl, h1, h2, h3, h4⟩ := h
  exact ⟨p, len, cap, rfl, h1, h2, h3, h4.imp id fun ⟨b, o, hp, hq⟩ => ⟨b, o, hp, hq.later hl⟩⟩
/-- a policy by value -/
def PVal (w : World) (t : Tm) (qs : List Qr) (v : Value) : Prop :=
  ∃ p len cap qv, v = .agg #[.int .i8 t.op, .int .i8 t.fld, .int .u64 t.n, .slice p len cap, qv] ∧ t.Val w (.agg #[.int .i8 t.op, .int .i8 t.fld, .int .u64 t.n, .slice p len cap]) ∧ Qs w qs qv
theorem PVal.later {w w' : World} (hl : Later w w') {t : Tm} {qs : List Qr} {v : Value} (h : PVal w t qs v) : PVal w' t qs v := by
  obtain ⟨p, len, cap, qv, rfl, h1, h2⟩ := h
  exact ⟨p, len, cap, qv, rfl, h1.later hl, h2.later hl⟩

theorem infoT : (Try.prog.info? 31).map (fun i => (i.zero, i.size, i.bytes)) = some (some (.agg #[.int .i8 0, .int .i8 0, .int .u64 0, .slice none 0 0]), 4, 40) := by kernel_rfl
def encT (p : Tm × Value) : List Value := [.int .i8 p.1.op, .int .i8 p.1.fld, .int .u64 p.1.n, p.2]
def flatT (l : List (Tm × Value)) : List Value := l.flatMap encT
theorem length_encT (p : Tm × Value) : (encT p).length = 4 := rfl
theorem encT_one {w : World} {p : Tm × Value} (h : p.1.Val w (.agg (encT p).toArray)) : ∀ v ∈ encT p, v.oneCell' = true := by
  obtain ⟨cs, he, s, rfl, -, -, -, a, b, c, rfl, -⟩ := h
  have : p.2 = .slice a b c := by simp [encT] at he; exact he
  intro v hv
  simp only [encT, this, List.mem_cons, List.not_mem_nil, or_false] at hv
  rcases hv with rfl | rfl | rfl | rfl <;> rfl

/-- append(l, t) of terms, to a slice that the call owns -/
theorem wpList_append_T {ops : Array Oper} {rest : List Oper} {o : Oper} {a : Act} {w : World} {Q : Exit → Act → World → Prop} (hgd : o.guard = none) (s x : Operand)
    (ho : o.op = .call { callee := .builtin .append, args := #[s, x], argTypes := #[29, 29] }) (base : Nat) (v : Value) (l : List (Tm × Value)) (hs : a.eval s = v) (hown : w.ownsRow base 31 4 v l.length (flatT l))
    (b : Nat) (y : Tm × Value) (hx : a.eval x = .slice (some ⟨b, 0, none⟩) 1 1) (hc : w.rangeAt b 0 (encT y)) (hy : ∀ v ∈ encT y, v.oneCell' = true) (hlen : l.length < 1000000000) (hbase : base ≤ w.heap.size)
    (hK : ∀ v' w', w'.ownsRow base 31 4 v' (l ++ [y]).length (flatT (l ++ [y])) → w.grownBy w' v.ownBlock → wpList Try.prog ops Q rest (a.put o.dst v') w') : wpList Try.prog ops Q (o :: rest) a w := by
  obtain ⟨i0, hi0, hz0, hz1, hz2⟩ := info_parts infoT
  refine wpList_append_own w hgd s x 29 ho base 31 i0 _ 4 40 Try.underlying29 hi0 hz0 hz1 hz2 rfl (by omega) v l.length (flatT l) hs hown ⟨b, 0, none⟩ 1 1 (encT y) hx (by rw [length_encT])
    (fun j u hu => by rw [Addr.add_mid]; exact hc j u hu) hy (by unfold maxLen; omega) (by omega) hbase ?_
  intro v' w' hown' hg _
  refine hK v' w' ?_ hg
  have e : flatT (l ++ [y]) = flatT l ++ encT y := by simp [flatT]
  rw [e, List.length_append]
  exact hown'

/-- a row of terms of one's own reads as terms -/
theorem tms_of_owns {w : World} {base : Nat} {v : Value} {l : List (Tm × Value)} (h : w.ownsRow base 31 4 v l.length (flatT l)) (hv : ∀ p ∈ l, p.1.Val w (.agg (encT p).toArray)) : Tms w (l.map (·.1)) v := by
  rcases h.2 with ⟨rfl, h0⟩ | ⟨g, cap, cur, rfl, hb, hc, hle, hcm, hrest⟩
  · exact ⟨none, 0, 0, rfl, by rw [List.length_map]; exact h0.symm, Nat.le_refl _, by omega, .inl (by rw [List.length_eq_zero_iff.1 h0]; rfl)⟩
  · refine ⟨some ⟨g, 0, none⟩, _, cap, rfl, by rw [List.length_map], hle, hcm, .inr ⟨g, 0, rfl, Tm.AllAt_of fun i hi => ?_⟩⟩
    have hi' : i < l.length := by simpa using hi
    have hr := rangeAt_get (enc := encT) (k := 4) length_encT (ownsRow_range h) i hi'
    rw [List.getElem_map]
    exact (hv _ (List.getElem_mem hi')).at (by simpa using hr)

theorem Ext.grow' {w a c : World} {v : Value} (h : Ext w a) (g : a.grownBy c v.ownBlock) (hb : ∀ i, v.ownBlock = some i → w.heap.size ≤ i) : Ext w c :=
  h.trans' ⟨g.os, g.tape, g.output, g.size, fun i hi => g.block i (Nat.lt_of_lt_of_le hi h.size) (fun e => by have := hb i e.symm; omega)⟩

/-- policy.Check, in plain words -/
def qsB : List Str → List Qr → Bool
  | _, [] => true
  | seen, q :: qs => nameB q.1.1 && (!seen.any (fun s => decide (s = q.1)) && (q.2.right true && qsB (seen ++ [q.1]) qs))
def checkP (t : Tm) (qs : List Qr) : Int := if 32 < qs.length then 200 else if bigB (t :: qs.map (·.2)) then 200 else if t.right false then (if qsB [] qs then 0 else 170) else 170
theorem checkP_zero {t : Tm} {qs : List Qr} (h : checkP t qs = 0) : qs.length ≤ 32 ∧ bigB (t :: qs.map (·.2)) = false ∧ t.right false = true ∧ qsB [] qs = true := by
  unfold checkP at h
  split at h
  · cases h
  split at h
  · cases h
  split at h
  · split at h
    · rename_i h1 h2 h3 h4
      exact ⟨by omega, by simpa using h2, h3, h4⟩
    · cases h
  · cases h
end Go.Proofs.Ytddeelepaiklgaa
