/- meaning.Of: what is too big leaves the work by a panic that the deferred closure recovers. -/
import Derived.Test.YtddeelepaiklgaaOf5
import Derived.Defers
import Derived.Recover
import Derived.Laws.EntriesVeiled
namespace Go.Proofs.Ytddeelepaiklgaa
open Go.RowKit

theorem checkT_zero {t : Tm} (h : checkT t = 0) : t.right false = true ∧ t.sz ≤ 4096 ∧ bigB [t] = false := by
  unfold checkT at h
  split at h
  · cases h
  · rename_i hb
    split at h
    · rename_i hr
      refine ⟨hr, ?_, by simpa using hb⟩
      have hb' : ¬ Tm.downAll [t] 4096 < 0 := fun h => hb (by simp [bigB, h])
      have := Tm.downAll_eq [t] 4096 (by omega)
      simp only [Tm.szAll] at this
      omega
    · cases h

set_option maxHeartbeats 1000000 in
theorem ofCatch_idle (a b : Addr) (w : World) :
    CallsD Try.prog 35 #[.pointer (some a), .pointer (some b)] .returning w fun e u' w' => e = .returned (.tuple #[]) ∧ u' = .returning ∧ w' = w := by
  refine callsD_of_wpS Try.func35 rfl fun c₀ cs hu => ?_
  apply wpS_seq
  apply wpS_region
  simp [wpOpsS, go_sem, recoverD, hu, Try.ntmps35, Exit.thenS]
  refine wpS_of_wp ?_
  go_wp2_with fail
  cases c₀
  simp_all [bodyPostS, results, Try.results35]

theorem assertBig (w : World) : (Instr.typeAssert (.iface 71 (.agg #[])) 20 71 true).run Try.prog w = .ok (.tuple #[.agg #[], .bool true]) w := by kernel_rfl
set_option maxRecDepth 100000 in
set_option maxHeartbeats 1000000 in
theorem ofCatch_panicking (a b : Nat) (x y : Value) (older : List PanicEntry) (w : World) (ha : w.cell? ⟨a, 0, none⟩ = some x) (hb : w.cell? ⟨b, 0, none⟩ = some y) (hfa : w.frozen? ⟨a, 0, none⟩ = false) (hfb : w.frozen? ⟨b, 0, none⟩ = false) (hab : a ≠ b) :
    CallsD Try.prog 35 #[.pointer (some ⟨a, 0, none⟩), .pointer (some ⟨b, 0, none⟩)] (.panicking ({ v := .iface 71 (.agg #[]), recovered := false } :: older)) w fun e u' w' =>
      e = .returned (.tuple #[]) ∧ u' = .panicking ({ v := .iface 71 (.agg #[]), recovered := true } :: older) ∧
      Keep (fun i => i = a ∨ i = b) w w' ∧ w'.cell? ⟨a, 0, none⟩ = some (.slice none 0 0) ∧ w'.cell? ⟨b, 0, none⟩ = some (.int .i64 200) := by
  have hba : b ≠ a := fun e => hab e.symm
  have hxa : Ext w (w.alloc (.cells #[] 71)) := Ext.alloc _ _
  have hca := hxa.later _ _ ha
  have hcb := hxa.later _ _ hb
  have hla := World.block_lt_of_cell? w _ ha
  have hlb := World.block_lt_of_cell? w _ hb
  have hga : (w.alloc (.cells #[] 71)).frozen? ⟨a, 0, none⟩ = false := by rw [Below.frozen hxa hla]; exact hfa
  have hgb : (w.alloc (.cells #[] 71)).frozen? ⟨b, 0, none⟩ = false := by rw [Below.frozen hxa hlb]; exact hfb
  refine callsD_of_wpS Try.func35 rfl fun c₀ cs hu => ?_
  apply wpS_seq
  apply wpS_region
  simp [wpOpsS, go_sem, recoverD, hu, Try.ntmps35, Exit.thenS]
  refine wpS_of_wp ?_
  simp only [Array.replicate_succ, Array.replicate_zero, List.push_toArray, List.append_toArray, List.nil_append, List.cons_append, List.setIfInBounds_toArray, List.set_cons_succ, List.set_cons_zero]
  have hta := assertBig
  go_wp2_with fail
  simp [bodyPostS, results, Try.results35]
  refine ⟨((Keep.set w _ _ (.inl rfl)).trans (Keep.set _ _ _ (.inr rfl))).trans ((Ext.alloc _ _).keep _), (Ext.alloc _ _).later _ _ ?_, (Ext.alloc _ _).later _ _ ?_⟩
  · rw [World.cell?_setCell_other _ _ _ _ (fun e => by injection e; omega)]
    exact World.cell?_setCell_same _ _ _ ha
  · exact World.cell?_setCell_same _ _ _ (by rw [World.cell?_setCell_other _ _ _ _ (fun e => by injection e; omega)]; exact hb)

/-- P19.2 -/
def ofC (t : Tm) (x : Hdr) : Int × List Hdr :=
  if checkT t = 0 then (match t.ofT x 0 with | some r => (0, r.1) | none => (200, [])) else (checkT t, [])

set_option maxRecDepth 100000 in
set_option maxHeartbeats 2000000 in
theorem meaningOf_any (t : Tm) (v : Value) (x : Hdr) (w : World) (hv : t.Val w v) :
    Calls Try.prog 18 #[v, .agg x.cs] w fun e w' => Ext w w' ∧ (ofC t x).2.length ≤ 64 ∧ ∃ s, e = .returned (.tuple #[s, .int .i64 (ofC t x).1]) ∧ w'.ownsRow w.heap.size 24 11 s (ofC t x).2.length (flatH (ofC t x).2) := by
  have HV := Lib.hid hv
  obtain ⟨cs, rfl, s, rfl, -, -, -, p, len, cap, rfl, -⟩ := hv
  have hmf : ∀ (fn : Fn) (first cap : Array Value) (w : World), (Instr.makeFunc fn first cap).run Try.prog w = .ok (.func fn first cap) w := fun _ _ _ _ => rfl
  have hxa : Ext w ((((w.alloc (.cells #[.int .i8 t.op, .int .i8 t.fld, .int .u64 t.n, .slice p len cap] 31)).alloc (.cells x.cs 24)).alloc (.cells #[.slice none 0 0] 25)).alloc (.cells #[.int .i64 0] 42)) := (((Ext.alloc _ _).andAlloc _).andAlloc _).andAlloc _
  have HP := Lib.hid (check_any t _ _ _ _ _ (HV.out.later hxa.later))
  have HA := Lib.hid hxa
  have HAT := Lib.hid ((HV.out.later hxa.later).at (World.rangeAt.later ((((Ext.alloc _ _).andAlloc _).andAlloc _)).later (rangeAt_new w #[.int .i8 t.op, .int .i8 t.fld, .int .u64 t.n, .slice p len cap] 31)))
  clear hxa
  go_enter_defers Try.func18, Try.ntmps18
  go_wp2_with fail
  refine HP.out.mono ?_
  rintro e w1 ⟨rfl, hx1⟩
  have hc2 : w1.cell? ⟨w.heap.size + 2, 0, none⟩ = some (.slice none 0 0) := hx1.later _ _ (by simp [go_sem])
  have hc3 : w1.cell? ⟨w.heap.size + 3, 0, none⟩ = some (.int .i64 0) := hx1.later _ _ (by simp [go_sem])
  have hf2 : w1.frozen? ⟨w.heap.size + 2, 0, none⟩ = false := by rw [Below.frozen hx1 (by simp)]; simp [go_sem]
  have hf3 : w1.frozen? ⟨w.heap.size + 3, 0, none⟩ = false := by rw [Below.frozen hx1 (by simp)]; simp [go_sem]
  have hl2 := World.block_lt_of_cell? w1 _ hc2
  have hl3 := World.block_lt_of_cell? w1 _ hc3
  have HX1 := Lib.hid hx1
  clear hx1
  by_cases h0 : checkT t = 0
  · obtain ⟨hr, hsz, -⟩ := checkT_zero h0
    have HPre := Lib.hid (show OfPre t w1.heap.size 0 w.heap.size 0 w1 (w1.alloc (.cells #[.int .i64 0] 75)) from ⟨hr, hsz, HAT.out.later HX1.out.later, Ext.alloc _ _, Nat.le_refl _, by omega, by simp [go_sem], by simp [go_sem]⟩)
    have hrx : w1.rangeAt (w.heap.size + 1) 0 x.cs.toList := World.rangeAt.later HX1.out.later (World.rangeAt.later ((Ext.alloc _ _).andAlloc _).later (by
      have := rangeAt_new (w.alloc (.cells #[.int .i8 t.op, .int .i8 t.fld, .int .u64 t.n, .slice p len cap] 31)) x.cs 24
      rwa [World.size_alloc] at this))
    have HRX := Lib.hid (World.rangeAt.later (Ext.alloc w1 (.cells #[.int .i64 0] 75)).later hrx)
    have hC0 : checkT t = 0 := h0
    clear hrx h0 hr hsz
    rw [hC0]
    go_wp2_with (first | (refine wpList_load_H rfl _ rfl (w.heap.size + 1) 0 rfl x HRX.out ?_))
    refine (of_any t x _ _ _ _ _ _ HPre.out).mono ?_
    rintro e w2 ⟨hk, hrest⟩
    have hx2 : Ext w1 w2 := (Ext.alloc w1 _).andKeep hk (fun i hi => by rw [hi]; exact Nat.le_refl _)
    have hd2 : w2.cell? ⟨w.heap.size + 2, 0, none⟩ = some (.slice none 0 0) := hx2.later _ _ hc2
    have hd3 : w2.cell? ⟨w.heap.size + 3, 0, none⟩ = some (.int .i64 0) := hx2.later _ _ hc3
    have hg2 : w2.frozen? ⟨w.heap.size + 2, 0, none⟩ = false := by rw [Below.frozen hx2 hl2]; exact hf2
    have hg3 : w2.frozen? ⟨w.heap.size + 3, 0, none⟩ = false := by rw [Below.frozen hx2 hl3]; exact hf3
    have HX2 := Lib.hid hx2
    have HT := Lib.hid (show ofC t x = match t.ofT x 0 with | some r => (0, r.1) | none => (200, []) from if_pos hC0)
    have hle2 := hx2.size
    clear hc2 hc3 hf2 hf3 hk hx2 hC0
    cases hT : t.ofT x 0 with
    | none =>
      rw [hT] at hrest HT
      have he : e = .panicked tooBig := hrest
      subst he
      clear hrest hT
      go_wp2_with fail
      refine leaves_cons (f := 35) (args := #[.pointer (some ⟨w.heap.size + 2, 0, none⟩), .pointer (some ⟨w.heap.size + 3, 0, none⟩)]) (by simp) (by simp [go_sem]) ?_
      refine (ofCatch_panicking _ _ _ _ [] w2 hd2 hd3 hg2 hg3 (by omega)).mono ?_
      rintro e u' w3 ⟨rfl, rfl, hk3, h2, h3⟩
      simp [Leaves, settle, results, Try.results18, go_sem, h2, h3]
      rw [HT.out]
      exact ⟨((HA.out.trans HX1.out).trans HX2.out).andKeep hk3 (fun i hi => by rcases hi with rfl | rfl <;> omega), by simp, _, ⟨rfl, rfl⟩, ⟨rfl, .inl ⟨rfl, rfl⟩⟩⟩
    | some r =>
      obtain ⟨l, c⟩ := r
      rw [hT] at hrest HT
      obtain ⟨⟨s', rfl, hown⟩, hl64, -, -, -⟩ := hrest
      obtain ⟨ps, ns, caps, rfl⟩ : ∃ ps ns caps, s' = .slice ps ns caps := by
        rcases hown.2 with ⟨rfl, _⟩ | ⟨g, cap, cur, rfl, _⟩
        · exact ⟨_, _, _, rfl⟩
        · exact ⟨_, _, _, rfl⟩
      have HO := Lib.hid hown
      clear hT hown
      go_wp2_with fail
      refine leaves_cons (f := 35) (args := #[.pointer (some ⟨w.heap.size + 2, 0, none⟩), .pointer (some ⟨w.heap.size + 3, 0, none⟩)]) (by simp) (by simp [go_sem]) ?_
      refine (ofCatch_idle _ _ _).mono ?_
      rintro e u' w3 ⟨rfl, rfl, rfl⟩
      have hcA : ((w2.setCell ⟨w.heap.size + 2, 0, none⟩ (.slice ps ns caps)).setCell ⟨w.heap.size + 3, 0, none⟩ (.int .i64 0)).cell? ⟨w.heap.size + 2, 0, none⟩ = some (.slice ps ns caps) := by
        rw [World.cell?_setCell_other _ _ _ _ (fun e => by injection e; omega)]
        exact World.cell?_setCell_same _ _ _ hd2
      have hcB : ((w2.setCell ⟨w.heap.size + 2, 0, none⟩ (.slice ps ns caps)).setCell ⟨w.heap.size + 3, 0, none⟩ (.int .i64 0)).cell? ⟨w.heap.size + 3, 0, none⟩ = some (.int .i64 0) :=
        World.cell?_setCell_same _ _ _ (by rw [World.cell?_setCell_other _ _ _ _ (fun e => by injection e; omega)]; exact hd3)
      simp [Leaves, settle, results, Try.results18, go_sem, hcA, hcB]
      rw [HT.out]
      have hk4 : Keep (fun i => i = w.heap.size + 2 ∨ i = w.heap.size + 3) w2 ((w2.setCell ⟨w.heap.size + 2, 0, none⟩ (.slice ps ns caps)).setCell ⟨w.heap.size + 3, 0, none⟩ (.int .i64 0)) := (Keep.set _ _ _ (.inl rfl)).trans (Keep.set _ _ _ (.inr rfl))
      exact ⟨((HA.out.trans HX1.out).trans HX2.out).andKeep hk4 (fun i hi => by rcases hi with rfl | rfl <;> omega), hl64, _, ⟨rfl, rfl⟩, ownsRow_base (hk4.owns HO.out (fun i hi e => by have hi2 : w1.heap.size + 1 ≤ i := by { rw [World.size_alloc] at hi; exact hi }; omega)) (by rw [World.size_alloc]; omega)⟩
  · have HF := Lib.hid (show ofC t x = (checkT t, []) from if_neg h0)
    have hd : (checkT t != 0) = true := by simpa using h0
    generalize checkT t = y at *
    clear h0
    go_wp2_with fail
    have hcA : ((w1.setCell ⟨w.heap.size + 2, 0, none⟩ (.slice none 0 0)).setCell ⟨w.heap.size + 3, 0, none⟩ (.int .i64 y)).cell? ⟨w.heap.size + 2, 0, none⟩ = some (.slice none 0 0) := by
      rw [World.cell?_setCell_other _ _ _ _ (fun e => by injection e; omega)]
      exact World.cell?_setCell_same _ _ _ hc2
    have hcB : ((w1.setCell ⟨w.heap.size + 2, 0, none⟩ (.slice none 0 0)).setCell ⟨w.heap.size + 3, 0, none⟩ (.int .i64 y)).cell? ⟨w.heap.size + 3, 0, none⟩ = some (.int .i64 y) :=
      World.cell?_setCell_same _ _ _ (by rw [World.cell?_setCell_other _ _ _ _ (fun e => by injection e; omega)]; exact hc3)
    simp [bodyPostD, Leaves, results, Try.results18, go_sem, hcA, hcB]
    rw [HF.out]
    exact ⟨((HA.out.trans HX1.out).andSet (by simp; omega) _).andSet (by simp; omega) _, by simp, _, ⟨rfl, rfl⟩, ⟨rfl, .inl ⟨rfl, rfl⟩⟩⟩
end Go.Proofs.Ytddeelepaiklgaa
