/- law 20's act; a store beside two rows of answers. -/
import Derived.Test.YtehdddilcakmlaaDoorNAgainP
import Derived.Test.YtehdddilcakmlaaDoorNOwn
namespace Go.Proofs.YtehdddilcakmlaaDoor
open Go.RowKit Go.Sort Go.Maps Go.Lib
set_option linter.unusedSimpArgs false

def actArg (x : ActD) (rv : Value) : Value := .agg #[.int .i64 x.d, rv, .int .i8 x.f, .int .u64 x.n, .int .i64 x.hi, .int .i64 x.lo]
theorem OpPost.from {F : Nat → Prop} {w w1 w' : World} {p : Nat} {R : (Int × Int) × List NdD} {e : Ending} (hx : Ext w w1) (h : OpPost F w1 p R e w') : OpPost F w p R e w' := by
  obtain ⟨he, F', hto⟩ := h
  exact ⟨he, F', hto.st, fun b hb => (hto.sub b hb).imp id fun h2 => Nat.le_trans hx.size h2, (hx.keep F).trans hto.kp⟩

set_option maxHeartbeats 8000000 in
set_option maxRecDepth 100000 in
theorem act_any {F : Nat → Prop} (p : Nat) (L : List NdD) (x : ActD) (rv : Value) (w : World) (h : St F w p L) (hv : RowsOn AnyB w x.rows rv) (hok : x.ok) (hs : Sm x) (ht : Tb w) :
    Calls Tryd.prog 20 #[.pointer (some ⟨p, 0, none⟩), actArg x rv] w (OpPost F w p (actP L x)) := by
  unfold actArg
  obtain ⟨wA, hA⟩ : ∃ W : World, w.alloc (.cells #[.int .i64 x.d, rv, .int .i8 x.f, .int .u64 x.n, .int .i64 x.hi, .int .i64 x.lo] 35) = W := ⟨_, rfl⟩
  have xA : Ext w wA := hA ▸ Ext.alloc _ _
  obtain ⟨q, m, c, rfl⟩ : ∃ q m c, rv = .slice q m c := by obtain ⟨q, m, c, e, -⟩ := hv; exact ⟨q, m, c, e⟩
  have a0 : wA.cell? ⟨w.heap.size, 0, none⟩ = some (.int .i64 x.d) := by rw [← hA]; simp [go_sem]
  have a1 : wA.cell? ⟨w.heap.size, 1, none⟩ = some (.slice q m c) := by rw [← hA]; simp [go_sem]
  have a2 : wA.cell? ⟨w.heap.size, 2, none⟩ = some (.int .i8 x.f) := by rw [← hA]; simp [go_sem]
  have a3 : wA.cell? ⟨w.heap.size, 3, none⟩ = some (.int .u64 x.n) := by rw [← hA]; simp [go_sem]
  have a4 : wA.cell? ⟨w.heap.size, 4, none⟩ = some (.int .i64 x.hi) := by rw [← hA]; simp [go_sem]
  have a5 : wA.cell? ⟨w.heap.size, 5, none⟩ = some (.int .i64 x.lo) := by rw [← hA]; simp [go_sem]
  have HSX := Lib.hid (fun W (hW : Ext wA W) => show (fun W => W.cell? ⟨w.heap.size, 2, none⟩ = some (.int .i8 x.f) ∧ W.cell? ⟨w.heap.size, 3, none⟩ = some (.int .u64 x.n) ∧ W.cell? ⟨w.heap.size, 4, none⟩ = some (.int .i64 x.hi) ∧ W.cell? ⟨w.heap.size, 5, none⟩ = some (.int .i64 x.lo)) W from
    ⟨hW.later _ _ a2, hW.later _ _ a3, hW.later _ _ a4, hW.later _ _ a5⟩)
  have HLV := Lib.hid (leafS_any p L x.rows (.slice q m c) wA (h.ext xA) (hv.ext xA) (by have := hs.1; omega) (fun r hr => by have := hs.2 r hr; omega) (ht.ext xA))
  have HTV := Lib.hid (fun W (hW : Ext wA W) => testS_any p L x.f x.n x.hi x.lo W (h.ext (xA.trans hW)) hok.2.1 hok.2.2.1 hok.2.2.2.1 hok.2.2.2.2.1)
  have HX := Lib.hid xA
  have HEQ := Lib.hid hA
  have HRE := Lib.hid (show actP L x = if x.d = 0 then leafP L x.rows else testP L x.f x.n x.hi x.lo from rfl)
  generalize actP L x = R at *
  clear h hv hok hs ht xA hA
  go_enter Tryd.func20, Tryd.ntmps20
  go_upto_region 1 with fail
  rw [HEQ.out]
  clear HEQ
  by_cases h0 : x.d = 0
  · have HN := Lib.hid (show R = leafP L x.rows from by rw [HRE.out, if_pos h0])
    rw [h0] at a0
    clear h0 HRE HTV
    go_wp2_with fail
    refine HLV.out.mono ?_
    intro e w2 hp
    rw [← HN.out] at hp
    have HP := Lib.hid hp
    obtain ⟨rfl, -⟩ := hp
    go_wp2_with fail
    go_ret2
    exact HP.out.from HX.out
  · have HN := Lib.hid (show R = testP L x.f x.n x.hi x.lo from by rw [HRE.out, if_neg h0])
    clear HRE HLV
    go_wp2_with fail
    refine (HTV.out wA (Ext.refl _)).mono ?_
    intro e w2 hp
    rw [← HN.out] at hp
    have HP := Lib.hid hp
    obtain ⟨rfl, -⟩ := hp
    go_wp2_with fail
    go_ret2
    exact HP.out.from HX.out

structure AgS (w0 w : World) (p : Nat) (L : List NdD) (iv ev : Value) (I E : List Int) : Prop where
  st : ∃ F, St F w p L ∧ ∀ b, F b → w0.heap.size ≤ b ∧ iv.ownBlock ≠ some b ∧ ev.ownBlock ≠ some b
  io : w.ownsRow w0.heap.size 3 1 iv I.length (I.map (Value.int .i64 ·))
  eo : w.ownsRow w0.heap.size 36 1 ev E.length (E.map (Value.int .i64 ·))
  ne : ∀ b, iv.ownBlock = some b → ev.ownBlock ≠ some b
  ex : Ext w0 w
theorem owns_keep {w w' : World} {e : TypeId} {k base : Nat} {v : Value} {n : Nat} {xs : List Value} (h : w.ownsRow base e k v n xs) (hb : ∀ i, v.ownBlock = some i → w'.heap[i]? = w.heap[i]?) : w'.ownsRow base e k v n xs := by
  refine ⟨h.1, h.2.imp id fun ⟨g, cap, cur, hv, hb', hg, hn⟩ => ⟨g, cap, cur, hv, hb', ?_, hn⟩⟩
  rw [hb g (by rw [hv]; rfl)]; exact hg
theorem AgS.ext {w0 w w' : World} {p : Nat} {L : List NdD} {iv ev : Value} {I E : List Int} (h : AgS w0 w p L iv ev I E) (hx : Ext w w') : AgS w0 w' p L iv ev I E := by
  obtain ⟨F, h1, h2⟩ := h.st
  exact ⟨⟨F, h1.ext hx, h2⟩, owns_ext h.io hx, owns_ext h.eo hx, h.ne, h.ex.trans hx⟩
theorem AgS.op {w0 w w' : World} {p : Nat} {L L' : List NdD} {iv ev : Value} {I E : List Int} (h : AgS w0 w p L iv ev I E) {F F' : Nat → Prop} (hF : ∀ b, F b → w0.heap.size ≤ b ∧ iv.ownBlock ≠ some b ∧ ev.ownBlock ≠ some b) (hto : StTo F w w' p L' F') : AgS w0 w' p L' iv ev I E := by
  have hk := hto.kp
  have li := fun i hi => owns_lt h.io i hi
  have le := fun i hi => owns_lt h.eo i hi
  refine ⟨⟨F', hto.st, fun b hb => ?_⟩, owns_keep h.io fun i hi => ?_, owns_keep h.eo fun i hi => ?_, h.ne, ?_⟩
  · rcases hto.sub b hb with h1 | h1
    · exact hF b h1
    · exact ⟨Nat.le_trans h.ex.size h1, fun e => by have := (li b e).2; omega, fun e => by have := (le b e).2; omega⟩
  · exact hk.block i (li i hi).2 fun hb => (hF i hb).2.1 hi
  · exact hk.block i (le i hi).2 fun hb => (hF i hb).2.2 hi
  · refine h.ex.trans' ⟨hk.os, hk.tape, hk.output, hk.size, fun i hi => hk.block i (Nat.lt_of_lt_of_le hi h.ex.size) (fun hb => by have := (hF i hb).1; omega)⟩
theorem AgS.pushI {w0 w w' : World} {p : Nat} {L : List NdD} {iv ev iv' : Value} {I E : List Int} (h : AgS w0 w p L iv ev I E) {a : Int} (o : w'.ownsRow w0.heap.size 3 1 iv' (I.length + 1) (I.map (Value.int .i64 ·) ++ [.int .i64 a])) (g : w.grownBy w' iv.ownBlock) (t : iv'.ownBlock = iv.ownBlock ∨ iv'.ownBlock = some w.heap.size) : AgS w0 w' p L iv' ev (I ++ [a]) E := by
  obtain ⟨F, h1, h2⟩ := h.st
  have li := fun i hi => owns_lt h.io i hi
  have le := fun i hi => owns_lt h.eo i hi
  refine ⟨⟨F, h1.keep g.size fun b hb => g.block b (h1.lt b hb) fun e => (h2 b hb).2.1 e.symm, fun b hb => ⟨(h2 b hb).1, ?_, (h2 b hb).2.2⟩⟩, ?_, owns_keep h.eo fun i hi => g.block i (le i hi).2 fun e => h.ne i e.symm hi, fun b hb => ?_, h.ex.grownV g fun i hi => (li i hi).1⟩
  · rcases t with e | e
    · rw [e]; exact (h2 b hb).2.1
    · rw [e]; intro e2; injection e2 with e2; have := h1.lt b hb; omega
  · rw [List.length_append, List.map_append]; exact o
  · rcases t with e | e
    · exact h.ne b (e ▸ hb)
    · rw [e] at hb; injection hb with hb; intro e2; have := (le b e2).2; omega
theorem AgS.pushE {w0 w w' : World} {p : Nat} {L : List NdD} {iv ev ev' : Value} {I E : List Int} (h : AgS w0 w p L iv ev I E) {a : Int} (o : w'.ownsRow w0.heap.size 36 1 ev' (E.length + 1) (E.map (Value.int .i64 ·) ++ [.int .i64 a])) (g : w.grownBy w' ev.ownBlock) (t : ev'.ownBlock = ev.ownBlock ∨ ev'.ownBlock = some w.heap.size) : AgS w0 w' p L iv ev' I (E ++ [a]) := by
  obtain ⟨F, h1, h2⟩ := h.st
  have li := fun i hi => owns_lt h.io i hi
  have le := fun i hi => owns_lt h.eo i hi
  refine ⟨⟨F, h1.keep g.size fun b hb => g.block b (h1.lt b hb) fun e => (h2 b hb).2.2 e.symm, fun b hb => ⟨(h2 b hb).1, (h2 b hb).2.1, ?_⟩⟩, owns_keep h.io fun i hi => g.block i (li i hi).2 fun e => h.ne i hi e.symm, ?_, fun b hb => ?_, h.ex.grownV g fun i hi => (le i hi).1⟩
  · rcases t with e | e
    · rw [e]; exact (h2 b hb).2.2
    · rw [e]; intro e2; injection e2 with e2; have := h1.lt b hb; omega
  · rw [List.length_append, List.map_append]; exact o
  · rcases t with e | e
    · rw [e]; exact h.ne b hb
    · rw [e]; intro e2; injection e2 with e2; have := (li b hb).2; omega
theorem AgS.new {w w1 : World} {p : Nat} (h : Did w w1 p []) : AgS w w1 p [] (.slice none 0 0) (.slice none 0 0) [] [] := by
  obtain ⟨⟨F, h1, h2⟩, h3⟩ := h
  exact ⟨⟨F, h1, fun b hb => ⟨h2 b hb, by simp [Value.ownBlock], by simp [Value.ownBlock]⟩⟩, World.ownsRow_nil _ _ _ _, World.ownsRow_nil _ _ _ _, (fun b hb => by simp [Value.ownBlock] at hb), h3⟩
theorem AgS.cellI {w0 w : World} {p : Nat} {L : List NdD} {iv ev : Value} {I E : List Int} (h : AgS w0 w p L iv ev I E) {k : Nat} {a : Int} (hk : I[k]? = some a) : ∃ g c, iv = .slice (some ⟨g, 0, none⟩) I.length c ∧ w.cell? ⟨g, k, none⟩ = some (.int .i64 a) := by
  rcases owns_range h.io with ⟨h0, -⟩ | ⟨g, c, he, -, -, hr⟩
  · rw [List.getElem?_eq_none (by omega)] at hk; cases hk
  · refine ⟨g, c, he, ?_⟩
    have := hr k (.int .i64 a) (by rw [List.getElem?_map, hk]; rfl)
    simpa using this
theorem AgS.cellE {w0 w : World} {p : Nat} {L : List NdD} {iv ev : Value} {I E : List Int} (h : AgS w0 w p L iv ev I E) {k : Nat} {a : Int} (hk : E[k]? = some a) : ∃ g c, ev = .slice (some ⟨g, 0, none⟩) E.length c ∧ w.cell? ⟨g, k, none⟩ = some (.int .i64 a) := by
  rcases owns_range h.eo with ⟨h0, -⟩ | ⟨g, c, he, -, -, hr⟩
  · rw [List.getElem?_eq_none (by omega)] at hk; cases hk
  · refine ⟨g, c, he, ?_⟩
    have := hr k (.int .i64 a) (by rw [List.getElem?_map, hk]; rfl)
    simpa using this
theorem elemI : Elem Tryd.prog 48 3 1 8 :=
  ⟨Tryd.underlying48, by obtain ⟨i, h1, h2, h3, h4⟩ := info_parts (show (Tryd.prog.info? 3).map (fun i => (i.zero, i.size, i.bytes)) = some (some (.int .i64 0), 1, 8) from by kernel_rfl); exact ⟨i, _, h1, h2, h3, h4, rfl⟩, by omega, fun w => by kernel_rfl, by omega⟩
theorem elemE : Elem Tryd.prog 49 36 1 8 :=
  ⟨Tryd.underlying49, by obtain ⟨i, h1, h2, h3, h4⟩ := info_parts (show (Tryd.prog.info? 36).map (fun i => (i.zero, i.size, i.bytes)) = some (some (.int .i64 0), 1, 8) from by kernel_rfl); exact ⟨i, _, h1, h2, h3, h4, rfl⟩, by omega, fun w => by kernel_rfl, by omega⟩
end Go.Proofs.YtehdddilcakmlaaDoor
