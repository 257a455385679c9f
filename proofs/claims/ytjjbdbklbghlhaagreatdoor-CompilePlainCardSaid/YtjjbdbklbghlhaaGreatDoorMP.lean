/- compile in plain words: what a term becomes; what it keeps. -/
import Derived.Test.YtjjbdbklbghlhaaGreatDoorMM
import Derived.Test.YtjjbdbklbghlhaaGreatDoorMN
import Derived.Test.YtjjbdbklbghlhaaGreatDoorMO
import Derived.Test.YtjjbdbklbghlhaaGreatDoorMA
namespace Go.Proofs.YtjjbdbklbghlhaaGreatDoor
open Go.RowKit Go.Sort Go.Maps Go.Lib
set_option linter.unusedSimpArgs false

/-- one join -/
def joinP (j : Bool) (L : List NdD) (a b : Nat) : Out := if j then thenP (a + 1) L a b else unionP (a + b + 1) L a b
mutual
/-- what a term becomes -/
def termC : Tm → List NdD → Out
 | .mk op f n ks, L =>
  if op = 0 then leafR L []
  else if op = 1 then leafR L [[]]
  else if op = 2 then bindR (leafR L [[]]) fun h L1 => bindR (leafR L1 []) fun l L2 => testR L2 (f, n) h l
  else if op = 3 then bindR (headC ks L) fun a L1 => notP (a + 1) L1 a
  else if op = 4 ∨ op = 9 then foldC true ks L
  else if op = 5 ∨ op = 8 then foldC false ks L
  else if op = 6 then headC ks L
  else if op = 10 then bindR (headC ks L) fun a L1 => starP L1 a
  else leafR L [[⟨0, f, n⟩]]
def headC : List Tm → List NdD → Out
 | [], L => ((1, 0), L)
 | t :: _, L => termC t L
def foldC (j : Bool) : List Tm → List NdD → Out
 | [], L => ((1, 0), L)
 | t :: ts, L => bindR (termC t L) fun o L1 => restC j ts o L1
def restC (j : Bool) : List Tm → Nat → List NdD → Out
 | [], o, L => ((0, o), L)
 | t :: ts, o, L => bindR (termC t L) fun c L1 => bindR (joinP j L1 o c) fun o' L2 => restC j ts o' L2
end
theorem one_fine {L : List NdD} (h : InvO L) : Fine L ((1, 0), L) := ⟨List.prefix_refl _, h, fun e => absurd e (by show ¬ (1 : Int) = 0; decide)⟩
theorem joinP_fine {j : Bool} {L : List NdD} {a b : Nat} (h : InvO L) (ha : a < L.length) (hb : b < L.length) : Fine L (joinP j L a b) := by
 unfold joinP
 cases j
 ·exact unionP_fine h ha hb
 ·exact thenP_fine h ha hb
theorem joinP_steps (j : Bool) (L : List NdD) (a b : Nat) : Steps L (joinP j L a b).2 := by
 unfold joinP
 cases j
 ·exact unionP_steps _ _ _ _
 ·exact thenP_steps _ _ _ _
theorem starLoop_fine : ∀ {k : Nat} {L : List NdD} {id a out : Nat}, InvO L → id < L.length → a < L.length → out < L.length → Fine L (starLoop k L id a out)
 | 0, L, _, _, _, h, _, _, _ => ⟨List.prefix_refl _, h, fun e => absurd e (by show ¬ (200 : Int) = 0; decide)⟩
 | k + 1, L, id, a, out, h, hi, ha, ho => by
  rw [starLoop]
  have hf := starR_fine h hi ha ho
  have hl := hf.pre.length_le
  refine bindR_fine hf fun e => ?_
  split
  ·exact ⟨List.prefix_refl _, hf.inv, fun _ => by dsimp only; omega⟩
  ·exact starLoop_fine hf.inv (by omega) (by omega) (hf.lt e)
theorem starP_fine {L : List NdD} {a : Nat} (h : InvO L) (ha : a < L.length) : Fine L (starP L a) := by
 unfold starP
 have hf := leafR_fine h [[]]
 have hl := hf.pre.length_le
 exact bindR_fine hf fun e => starLoop_fine hf.inv (hf.lt e) (by omega) (hf.lt e)
mutual
theorem termC_fine : ∀ (t : Tm) {L : List NdD}, InvO L → Fine L (termC t L)
 | .mk op f n ks, L, h => by
  rw [termC]
  split
  ·exact leafR_fine h _
  split
  ·exact leafR_fine h _
  split
  ·have h1 := leafR_fine h [[]]
   refine bindR_fine h1 fun e1 => ?_
   have h2 := leafR_fine h1.inv []
   exact bindR_fine h2 fun e2 => testR_fine h2.inv _ _ _
  split
  ·have h1 := headC_fine ks h
   exact bindR_fine h1 fun e1 => notP_fine h1.inv (h1.lt e1)
  split
  ·exact foldC_fine true ks h
  split
  ·exact foldC_fine false ks h
  split
  ·exact headC_fine ks h
  split
  ·have h1 := headC_fine ks h
   exact bindR_fine h1 fun e1 => starP_fine h1.inv (h1.lt e1)
  ·exact leafR_fine h _
theorem headC_fine : ∀ (ks : List Tm) {L : List NdD}, InvO L → Fine L (headC ks L)
 | [], L, h => by rw [headC]; exact one_fine h
 | t :: _, L, h => by rw [headC]; exact termC_fine t h
theorem foldC_fine (j : Bool) : ∀ (ks : List Tm) {L : List NdD}, InvO L → Fine L (foldC j ks L)
 | [], L, h => by rw [foldC]; exact one_fine h
 | t :: ts, L, h => by
  rw [foldC]
  have h1 := termC_fine t h
  exact bindR_fine h1 fun e1 => restC_fine j ts h1.inv (h1.lt e1)
theorem restC_fine (j : Bool) : ∀ (ks : List Tm) {o : Nat} {L : List NdD}, InvO L → o < L.length → Fine L (restC j ks o L)
 | [], o, L, h, ho => by rw [restC]; exact ⟨List.prefix_refl _, h, fun _ => ho⟩
 | t :: ts, o, L, h, ho => by
  rw [restC]
  have h1 := termC_fine t h
  have hl := h1.pre.length_le
  refine bindR_fine h1 fun e1 => ?_
  have h2 := joinP_fine (j := j) (a := o) (b := (termC t L).1.2) h1.inv (by omega) (h1.lt e1)
  exact bindR_fine h2 fun e2 => restC_fine j ts h2.inv (h2.lt e2)
end
mutual
theorem termC_steps : ∀ (t : Tm) (L : List NdD), Steps L (termC t L).2
 | .mk op f n ks, L => by
  rw [termC]
  split
  ·exact leafR_steps _ _
  split
  ·exact leafR_steps _ _
  split
  ·exact bindR_steps (leafR_steps _ _) (bindR_steps (leafR_steps _ _) (testR_steps _ _ _ _))
  split
  ·exact bindR_steps (headC_steps ks L) (notP_steps _ _ _)
  split
  ·exact foldC_steps true ks L
  split
  ·exact foldC_steps false ks L
  split
  ·exact headC_steps ks L
  split
  ·exact bindR_steps (headC_steps ks L) (starP_steps _ _)
  ·exact leafR_steps _ _
theorem headC_steps : ∀ (ks : List Tm) (L : List NdD), Steps L (headC ks L).2
 | [], L => by rw [headC]; exact .refl L
 | t :: _, L => by rw [headC]; exact termC_steps t L
theorem foldC_steps (j : Bool) : ∀ (ks : List Tm) (L : List NdD), Steps L (foldC j ks L).2
 | [], L => by rw [foldC]; exact .refl L
 | t :: ts, L => by rw [foldC]; exact bindR_steps (termC_steps t L) (restC_steps j ts _ _)
theorem restC_steps (j : Bool) : ∀ (ks : List Tm) (o : Nat) (L : List NdD), Steps L (restC j ks o L).2
 | [], o, L => by rw [restC]; exact .refl L
 | t :: ts, o, L => by rw [restC]; exact bindR_steps (termC_steps t L) (bindR_steps (joinP_steps j _ _ _) (restC_steps j ts _ _))
end
/-- why a term can't be compiled -/
def wrongT (t : Tm) : Int := if 0 ≤ t.op ∧ t.op < 6 then predT t else checkT t
/-- Of -/
def ofS (L : List NdD) (t : Tm) : (Int × Int) × List NdD := if wrongT t ≠ 0 then ((0, wrongT t), L) else outD (termC t L)
end Go.Proofs.YtjjbdbklbghlhaaGreatDoor
/- compile: the error that it is left by, must, leaf. -/
namespace Go.Proofs.YtjjbdbklbghlhaaGreatDoor
open Go.RowKit Go.Sort Go.Maps Go.Lib
set_option linter.unusedSimpArgs false

/-- the error that something is left by -/
def wrongC (e : Int) : List PanicEntry := [{ v := .iface 72 (.agg #[.int .i64 e]), recovered := false }]
def endC (er : Int) (v : Value) : Ending := if er = 0 then .returned v else .panicked (wrongC er)
theorem endC_ok (v : Value) : endC 0 v = .returned v := if_pos rfl
theorem endC_no {er : Int} (h : er ≠ 0) (v : Value) : endC er v = .panicked (wrongC er) := if_neg h
set_option maxHeartbeats 2000000 in
theorem cmust_any (id e0 : Int) (w : World) :
  Calls Tryz.prog 42 #[.int .i64 id, .int .i64 e0] w fun e w' => e = endC e0 (.int .i64 id) ∧ w = w' := by
 by_cases h : e0 = 0
 ·subst h
  go_enter Tryz.func42, Tryz.ntmps42
  go_wp2_with fail
  go_ret
  exact ⟨(endC_ok _).symm, rfl⟩
 ·have hne : (e0 != 0) = true := by rw [bne_iff_ne]; exact h
  go_enter Tryz.func42, Tryz.ntmps42
  go_wp2_with fail
  exact ⟨rfl, (endC_no h _).symm, rfl⟩
/-- how a compiler's function ends -/
def CPost (F : Nat → Prop) (w : World) (p : Nat) (R : Out) (e : Ending) (w' : World) : Prop :=
 e = endC R.1.1 (.int .i64 R.1.2) ∧ ∃ F', SD F' w' p R.2 ∧ (∀ b, F' b → F b ∨ w.heap.size ≤ b) ∧ Keep F w w'
/-- what stands while the store goes on -/
def WentC (F : Nat → Prop) (w : World) (F' : Nat → Prop) (w' : World) : Prop := (∀ b, F' b → F b ∨ w.heap.size ≤ b) ∧ Keep F w w'
theorem WentC.trans {F F1 F2 : Nat → Prop} {w w1 w2 : World} (h : WentC F w F1 w1) (k : WentC F1 w1 F2 w2) : WentC F w F2 w2 := by
 refine ⟨fun b hb => ?_, ?_⟩
 ·rcases k.1 b hb with h6 | h6
  ·exact h.1 b h6
  ·exact .inr (Nat.le_trans h.2.size h6)
 ·exact h.2.past k.2 h.1
theorem WentC.ofExt {F : Nat → Prop} {w w' : World} (h : Ext w w') : WentC F w F w' := ⟨fun _ hb => .inl hb, h.keep _⟩
theorem WentC.cell {F F' : Nat → Prop} {w w' : World} (h : WentC F w F' w') {a : Addr} {v : Value} (hc : w.cell? a = some v) (hn : ¬ F a.block) : w'.cell? a = some v := h.2.cell hc hn
theorem WentC.not {F F' : Nat → Prop} {w w' : World} (h : WentC F w F' w') {b : Nat} (hb : b < w.heap.size) (hn : ¬ F b) : ¬ F' b := fun e => (h.1 b e).elim hn (fun h => by omega)
theorem WentC.ext {F F' : Nat → Prop} {w0 w w' : World} (h : WentC F w F' w') (hx : Ext w0 w) (hF : ∀ b, F b → w0.heap.size ≤ b) : Ext w0 w' ∧ ∀ b, F' b → w0.heap.size ≤ b :=
 ⟨hx.andKeep h.2 hF, fun b hb => (h.1 b hb).elim (hF b) (fun e => Nat.le_trans hx.size e)⟩
theorem CPost.then {F F1 : Nat → Prop} {w w1 w' : World} {p : Nat} {R : Out} {e : Ending} (hw : WentC F w F1 w1) (h : CPost F1 w1 p R e w') : CPost F w p R e w' := by
 obtain ⟨he, F', h1, h2, h3⟩ := h
 have := hw.trans (show WentC F1 w1 F' w' from ⟨h2, h3⟩)
 exact ⟨he, F', h1, this.1, this.2⟩
/-- what an operation told is handed on -/
theorem CPost.ofD {F : Nat → Prop} {w w' : World} {p : Nat} {R : Out} {e e2 : Ending} (h : DPost F w p (outD R) e w') (he : e2 = endC (outD R).1.2 (.int .i64 (outD R).1.1)) : CPost F w p R e2 w' := by
 refine ⟨?_, h.2⟩
 rw [he]
 unfold outD endC
 dsimp only
 by_cases h0 : R.1.1 = 0
 ·rw [if_pos h0, if_pos h0, if_pos h0]
 ·rw [if_neg h0, if_neg h0]
theorem DPost.went {F : Nat → Prop} {w w' : World} {p : Nat} {R : (Int × Int) × List NdD} {e : Ending} (h : DPost F w p R e w') : ∃ F', SD F' w' p R.2 ∧ WentC F w F' w' := by
 obtain ⟨-, F', h1, h2, h3⟩ := h
 exact ⟨F', h1, h2, h3⟩
theorem putN_nn (L : List NdD) (x : NdD) : 0 ≤ (putN L x).1.1 := by
 unfold putN
 split
 ·dsimp only; omega
 ·unfold addN
  split
  ·exact Int.le_refl 0
  ·dsimp only; omega
theorem leafP_nn0 (L : List NdD) (r : List RowD) : 0 ≤ (leafP L r).1.1 := by
 unfold leafP
 split
 ·exact Int.le_refl 0
 ·split
  ·exact Int.le_refl 0
  ·exact putN_nn _ _
theorem testP_nn0 (L : List NdD) (f n : Int) (hi lo : Nat) : 0 ≤ (testP L f n hi lo).1.1 := by
 unfold testP
 split
 ·split
  ·split
   ·exact Int.le_refl 0
   ·split
    ·dsimp only; omega
    ·exact putN_nn _ _
  ·exact Int.le_refl 0
 ·exact Int.le_refl 0
theorem putN_no {L : List NdD} {x : NdD} (h : (putN L x).1.2 ≠ 0) : (putN L x).1.1 = 0 := by
 unfold putN at *
 split
 ·rename_i hf
  rw [hf] at h
  exact absurd rfl h
 ·rename_i hf
  rw [hf] at h
  dsimp only at h
  unfold addN at *
  split
  ·rfl
  ·rename_i hb
   rw [if_neg hb] at h
   exact absurd rfl h
theorem leafP_outD (L : List NdD) (r : List RowD) : leafP L r = outD (leafR L r) := by
 have h1 := leafP_nn0 L r
 unfold outD leafR
 dsimp only
 by_cases h : (leafP L r).1.2 = 0
 ·rw [if_pos h]
  exact Prod.ext (Prod.ext (by dsimp only; omega) rfl) rfl
 ·rw [if_neg h]
  refine Prod.ext (Prod.ext ?_ rfl) rfl
  dsimp only
  unfold leafP at *
  split
  ·rfl
  ·rename_i s hs
   rw [hs] at h
   dsimp only at h
   split
   ·rfl
   ·rename_i hb
    rw [if_neg hb] at h
    exact putN_no h
theorem testP_outD (L : List NdD) (f n : Int) (hi lo : Nat) : testP L f n hi lo = outD (testR L (f, n) hi lo) := by
 have h1 := testP_nn0 L f n hi lo
 unfold outD testR
 dsimp only
 by_cases h : (testP L f n hi lo).1.2 = 0
 ·rw [if_pos h]
  exact Prod.ext (Prod.ext (by dsimp only; omega) rfl) rfl
 ·rw [if_neg h]
  refine Prod.ext (Prod.ext ?_ rfl) rfl
  dsimp only
  unfold testP at *
  split
  ·rename_i hc
   rw [if_pos hc] at h
   split
   ·rename_i x y hx hy
    rw [hx, hy] at h
    dsimp only at h
    split
    ·rfl
    ·rename_i hb
     rw [if_neg hb] at h
     split
     ·rename_i he
      rw [if_pos he] at h
      exact absurd rfl h
     ·rename_i he
      rw [if_neg he] at h
      exact putN_no h
   ·rfl
  ·rfl

set_option maxHeartbeats 4000000 in
theorem cleaf_any {F B : Nat → Prop} (p m : Nat) (L : List NdD) (l : List RowD) (v : Value) (w : World) (h : SD F w p L) (hm : w.cell? ⟨m, 0, none⟩ = some (.pointer (some ⟨p, 0, none⟩))) (hv : RowsOn B w l v) (hl : l.length ≤ 5864062014634) (hrl : ∀ r ∈ l, r.length ≤ 8796093021952) :
  Calls Tryz.prog 41 #[.pointer (some ⟨m, 0, none⟩), v] w (CPost F w p (leafR L l)) := by
 have HC := Hd (leafD_any p L l v w h hv hl hrl)
 rw [leafP_outD] at HC
 generalize leafR L l = R at *
 clear h hv hl hrl
 go_enter Tryz.func41, Tryz.ntmps41
 go_wp2_with fail
 refine HC.out.mono ?_
 intro e w1 hp
 have HP := Hd hp
 obtain rfl := hp.1
 have HMU := Hd (cmust_any (outD R).1.1 (outD R).1.2 w1)
 clear hp hm
 go_wp2_with fail
 refine HMU.out.mono ?_
 rintro e w2 ⟨he, rfl⟩
 have HFIN := Hd (CPost.ofD HP.out he)
 clear HP HC HMU
 by_cases hr : (outD R).1.2 = 0
 ·rw [hr, endC_ok] at he
  subst he
  clear hr
  generalize (outD R).1.1 = x at *
  go_wp2_with fail
  go_ret
  exact HFIN.out
 ·rw [endC_no hr] at he
  subst he
  clear hr
  go_wp2_with fail
  exact ⟨rfl, HFIN.out⟩
end Go.Proofs.YtjjbdbklbghlhaaGreatDoor
/- compile.Of's deferred closure. -/
namespace Go.Proofs.YtjjbdbklbghlhaaGreatDoor
open Go.RowKit Go.Sort Go.Maps Go.Lib
set_option linter.unusedSimpArgs false

set_option maxHeartbeats 1000000 in
theorem cCatch_idle (a b : Addr) (w : World) :
  CallsD Tryz.prog 27 #[.pointer (some a), .pointer (some b)] .returning w fun e u' w' => e = .returned (.tuple #[]) ∧ u' = .returning ∧ w' = w := by
 refine callsD_of_wpS Tryz.func27 rfl fun c₀ cs hu => ?_
 apply wpS_seq
 apply wpS_region
 simp [wpOpsS, go_sem, recoverD, hu, Tryz.ntmps27, Exit.thenS]
 refine wpS_of_wp ?_
 go_wp2_with fail
 cases c₀
 simp_all [bodyPostS, results, Tryz.results27]

theorem assertWrong (er : Int) (w : World) : (Instr.typeAssert (.iface 72 (.agg #[.int .i64 er])) 20 72 true).run Tryz.prog w = .ok (.tuple #[.agg #[.int .i64 er], .bool true]) w := by kernel_rfl
set_option maxRecDepth 100000 in
set_option maxHeartbeats 2000000 in
theorem cCatch_panicking (a b : Nat) (x y : Value) (er : Int) (older : List PanicEntry) (w : World) (ha : w.cell? ⟨a, 0, none⟩ = some x) (hb : w.cell? ⟨b, 0, none⟩ = some y) (hfa : w.frozen? ⟨a, 0, none⟩ = false) (hfb : w.frozen? ⟨b, 0, none⟩ = false) (hab : a ≠ b) :
  CallsD Tryz.prog 27 #[.pointer (some ⟨a, 0, none⟩), .pointer (some ⟨b, 0, none⟩)] (.panicking ({ v := .iface 72 (.agg #[.int .i64 er]), recovered := false } :: older)) w fun e u' w' =>
   e = .returned (.tuple #[]) ∧ u' = .panicking ({ v := .iface 72 (.agg #[.int .i64 er]), recovered := true } :: older) ∧
   Keep (fun i => i = a ∨ i = b) w w' ∧ w'.cell? ⟨a, 0, none⟩ = some (.int .i64 0) ∧ w'.cell? ⟨b, 0, none⟩ = some (.int .i64 er) := by
 have hba : b ≠ a := fun e => hab e.symm
 obtain ⟨wA, hA⟩ : ∃ W : World, w.alloc (.cells #[.int .i64 er] 72) = W := ⟨_, rfl⟩
 have hxa : Ext w wA := hA ▸ Ext.alloc _ _
 have hcx : wA.cell? ⟨w.heap.size, 0, none⟩ = some (.int .i64 er) := by rw [← hA]; simp [go_sem]
 have hca := hxa.later _ _ ha
 have hcb := hxa.later _ _ hb
 have hla := World.block_lt_of_cell? w _ ha
 have hlb := World.block_lt_of_cell? w _ hb
 have hga : wA.frozen? ⟨a, 0, none⟩ = false := by rw [Below.frozen hxa hla]; exact hfa
 have hgb : wA.frozen? ⟨b, 0, none⟩ = false := by rw [Below.frozen hxa hlb]; exact hfb
 have HEQ := Hd hA
 have HXA := Hd hxa
 refine callsD_of_wpS Tryz.func27 rfl fun c₀ cs hu => ?_
 apply wpS_seq
 apply wpS_region
 simp [wpOpsS, go_sem, recoverD, hu, Tryz.ntmps27, Exit.thenS]
 refine wpS_of_wp ?_
 simp only [Array.replicate_succ, Array.replicate_zero, List.push_toArray, List.append_toArray, List.nil_append, List.cons_append, List.setIfInBounds_toArray, List.set_cons_succ, List.set_cons_zero]
 have hta := assertWrong er
 go_wp2_with fail
 try rw [HEQ.out]
 clear HEQ
 go_region
 all_goals (
  go_wp2_with fail
  simp [bodyPostS, results, Tryz.results27]
  refine ⟨(HXA.out.keep _).trans (((Keep.set wA _ _ (.inl rfl)).trans (Keep.set _ _ _ (.inr rfl))).trans ((Ext.drew _).keep _)), ?_, ?_⟩
  ·rw [World.cell?_setCell_other _ _ _ _ (fun e => by injection e; omega)]
   exact World.cell?_setCell_same _ _ _ hca
  ·exact World.cell?_setCell_same _ _ _ (by rw [World.cell?_setCell_other _ _ _ _ (fun e => by injection e; omega)]; exact hcb))
end Go.Proofs.YtjjbdbklbghlhaaGreatDoor
/- compile's fold: kids joined from the first one on. -/
namespace Go.Proofs.YtjjbdbklbghlhaaGreatDoor
open Go.RowKit Go.Sort Go.Maps Go.Lib
set_option linter.unusedSimpArgs false

theorem getP_inC {L : List NdD} {a : Nat} (h : a < L.length) : (getP L (a : Int)).isSome = true := by
 unfold getP
 rw [if_pos (by omega), Int.toNat_natCast, List.getElem?_eq_getElem h]
 rfl
/-- the compiler's one cell -/
def MAt (F : Nat → Prop) (w : World) (m p : Nat) : Prop := w.cell? ⟨m, 0, none⟩ = some (.pointer (some ⟨p, 0, none⟩)) ∧ ¬ F m
theorem MAt.went {F F' : Nat → Prop} {w w' : World} {m p : Nat} (h : MAt F w m p) (k : WentC F w F' w') : MAt F' w' m p := ⟨k.cell h.1 h.2, k.not (World.block_lt_of_cell? w _ h.1) h.2⟩
/-- a term that lay there ahead of the store -/
def TermIn (F : Nat → Prop) (w : World) (t : Tm) (v : Value) : Prop := ∃ w0, Ext w0 w ∧ (∀ b, F b → w0.heap.size ≤ b) ∧ t.Val w0 v
theorem TermIn.went {F F' : Nat → Prop} {w w' : World} {t : Tm} {v : Value} (h : TermIn F w t v) (k : WentC F w F' w') : TermIn F' w' t v := by
 obtain ⟨w0, h1, h2, h3⟩ := h
 have := k.ext h1 h2
 exact ⟨w0, this.1, this.2, h3⟩
/-- many -/
def TermsIn (F : Nat → Prop) (w : World) (ks : List Tm) (b o : Nat) : Prop := ∃ w0, Ext w0 w ∧ (∀ b, F b → w0.heap.size ≤ b) ∧ Tm.AllAt w0 ks b o
theorem TermsIn.went {F F' : Nat → Prop} {w w' : World} {ks : List Tm} {b o : Nat} (h : TermsIn F w ks b o) (k : WentC F w F' w') : TermsIn F' w' ks b o := by
 obtain ⟨w0, h1, h2, h3⟩ := h
 have := k.ext h1 h2
 exact ⟨w0, this.1, this.2, h3⟩
/-- the four cells of one of them -/
theorem TermsIn.at {F : Nat → Prop} {w : World} {ks : List Tm} {b o : Nat} (h : TermsIn F w ks b o) (i : Nat) (hi : i < ks.length) : ∃ op f n q len cap, w.cell? ⟨b, o + i * 4, none⟩ = some (.int .i8 op) ∧ w.cell? ⟨b, o + i * 4 + 1, none⟩ = some (.int .i8 f) ∧ w.cell? ⟨b, o + i * 4 + 2, none⟩ = some (.int .u64 n) ∧ w.cell? ⟨b, o + i * 4 + 3, none⟩ = some (.slice q len cap) ∧
  TermIn F w (ks[i]) (.agg #[.int .i8 op, .int .i8 f, .int .u64 n, .slice q len cap]) := by
 obtain ⟨w0, h1, h2, h3⟩ := h
 have h4 := Tm.AllAt_get h3 i hi
 obtain ⟨cs, hv, hr, hs⟩ := h4.val
 obtain ⟨cs', hcs, s, hq, r1, r2, r3, hx⟩ := id hv
 cases hcs
 subst hq
 obtain ⟨p, len, cap, hsl, hrest⟩ := hx
 subst hsl
 have hr' := World.rangeAt.later h1.later hr
 exact ⟨_, _, _, _, _, _, hr' 0 _ rfl, hr' 1 _ rfl, hr' 2 _ rfl, hr' 3 _ rfl, w0, h1, h2, hv⟩
/-- what compile makes of a term -/
def TermOf (t : Tm) : Prop := ∀ (r : Bool) (F : Nat → Prop) (p m : Nat) (L : List NdD) (v : Value) (w : World), t.right r = true → SD F w p L → TermIn F w t v → MAt F w m p →
 Calls Tryz.prog 28 #[.pointer (some ⟨m, 0, none⟩), v] w (CPost F w p (termC t L))
theorem joinT_of {j : Bool} {L : List NdD} {a b : Nat} (ha : a < L.length) (hb : b < L.length) : (if j then thenT L (a : Int) (b : Int) else unionT L (a : Int) (b : Int)) = outD (joinP j L a b) := by
 have h : okIds L [(a : Int), (b : Int)] = true := by
  unfold okIds
  simp [getP_inC ha, getP_inC hb]
 unfold joinP thenT unionT runIds
 cases j
 ·simp only [Bool.false_eq_true, if_false]
  rw [if_pos h, Int.toNat_natCast, Int.toNat_natCast]
 ·simp only [if_true]
  rw [if_pos h, Int.toNat_natCast, Int.toNat_natCast]
theorem joinD_then {F : Nat → Prop} (p : Nat) (L : List NdD) (a b : Nat) (w : World) (h : SD F w p L) (ha : a < L.length) (hb : b < L.length) :
  Calls Tryz.prog 46 #[.pointer (some ⟨p, 0, none⟩), .int .i64 a, .int .i64 b] w (DPost F w p (outD (joinP true L a b))) := by
 have hbd := h.st.inv.2.1
 have := dThen_any p L a b w h (by omega) (by omega)
 have e := joinT_of (j := true) ha hb
 rw [if_pos rfl] at e
 rwa [e] at this
theorem joinD_union {F : Nat → Prop} (p : Nat) (L : List NdD) (a b : Nat) (w : World) (h : SD F w p L) (ha : a < L.length) (hb : b < L.length) :
  Calls Tryz.prog 47 #[.pointer (some ⟨p, 0, none⟩), .int .i64 a, .int .i64 b] w (DPost F w p (outD (joinP false L a b))) := by
 have hbd := h.st.inv.2.1
 have := dUnion_any p L a b w h (by omega) (by omega)
 have e := joinT_of (j := false) ha hb
 rw [if_neg (by decide)] at e
 rwa [e] at this

set_option maxHeartbeats 8000000 in
set_option maxRecDepth 100000 in
theorem cfold_then (ks : List Tm) (IH : ∀ i (h : i < ks.length), TermOf (ks[i])) (r : Bool) (F : Nat → Prop) (p m : Nat) (L : List NdD) (b o cap : Nat) (w : World) (hr : Tm.rightAll ks r = true) (hk : 1 ≤ ks.length) (hcap : ks.length ≤ cap ∧ cap ≤ 9223372036854775807)
  (h : SD F w p L) (hm : MAt F w m p) (hks : TermsIn F w ks b o) :
  Calls Tryz.prog 45 #[.pointer (some ⟨m, 0, none⟩), .slice (some ⟨b, o, none⟩) ks.length cap, .func (.func 46) #[] #[]] w (CPost F w p (foldC true ks L)) := by
 have HIH := Hd IH
 have HRA := Hd hr
 have HM := Hd hm
 have HK := Hd hks
 have HS := Hd h
 obtain ⟨op0, f0, n0, q0, l0, e0, c0, c1, c2, c3, hv0⟩ := hks.at 0 (by omega)
 rw [Nat.zero_mul, Nat.add_zero] at c0 c1 c2 c3
 have HC0 := Hd (HIH.out 0 (by omega) r F p m L _ w (Tm.rightAll_get hr 0 (by omega)) h hv0 hm)
 obtain ⟨R0, hR0⟩ : ∃ R0, R0 = termC (ks[0]) L := ⟨_, rfl⟩
 rw [← hR0] at HC0
 have HF0 := Hd (show Fine L R0 from by rw [hR0]; exact termC_fine _ h.inv)
 obtain ⟨rest, hrest⟩ : ∃ rest, rest = ks.drop 1 := ⟨_, rfl⟩
 have hfold : foldC true ks L = bindR R0 fun o L1 => restC true rest o L1 := by
  rw [hR0, hrest]
  cases ks with
  | nil => simp at hk
  | cons t ts => rw [foldC]; rfl
 have HFO := Hd hfold
 obtain ⟨R, hR⟩ : ∃ R, R = foldC true ks L := ⟨_, rfl⟩
 rw [← hR] at HFO ⊢
 have HRL := Hd (show rest.length + 1 = ks.length from by rw [hrest, List.length_drop]; omega)
 have HRG := Hd (show ∀ I (hI : I < rest.length), ∃ hI' : I + 1 < ks.length, rest[I] = ks[I + 1] from fun I hI => by
  subst hrest
  rw [List.length_drop] at hI
  exact ⟨by omega, by rw [List.getElem_drop]; simp only [Nat.add_comm]⟩)
 obtain ⟨len, hlen⟩ : ∃ len, len = ks.length := ⟨_, rfl⟩
 have HLN := Hd hlen
 rw [← hlen] at hk hcap ⊢
 clear hr IH hks h hm hv0 hR0 hrest hfold hR hlen
 go_enter Tryz.func45, Tryz.ntmps45
 go_wp2_with fail
 refine HC0.out.mono ?_
 intro e w1 hp
 have HP1 := Hd hp
 obtain ⟨he, F1, hs1, hsub1, hkp1⟩ := hp
 have HW1 := Hd (show WentC F w F1 w1 from ⟨hsub1, hkp1⟩)
 have HS1 := Hd hs1
 clear hs1 hsub1 hkp1 c0 c1 c2 c3 HC0
 by_cases r0 : R0.1.1 = 0
 case neg =>
  rw [endC_no r0] at he
  subst he
  have HFIN := Hd (show CPost F w p R (.panicked (wrongC R0.1.1)) w1 from by
   rw [HFO.out]
   unfold bindR
   rw [if_neg r0]
   exact ⟨(endC_no r0 _).symm, HP1.out.2⟩)
  clear r0 HP1
  go_wp2_with fail
  exact ⟨rfl, HFIN.out⟩
 rw [r0, endC_ok] at he
 subst he
 have HR0 := Hd (show R = restC true (rest.drop 0) R0.1.2 R0.2 from by rw [HFO.out]; unfold bindR; rw [if_pos r0]; rfl)
 have HO0 := Hd (HF0.out.lt r0)
 obtain ⟨o0, ho0⟩ : ∃ o0, o0 = R0.1.2 := ⟨_, rfl⟩
 obtain ⟨L0, hL0⟩ : ∃ L0, L0 = R0.2 := ⟨_, rfl⟩
 rw [← ho0, ← hL0] at HR0 HO0
 rw [← hL0] at HS1
 rw [← ho0]
 clear r0 ho0 hL0 HP1 HFO HF0
 by_cases hc1 : cap = 1
 case pos =>
  obtain rfl : len = 1 := by omega
  have HFIN := Hd (show CPost F w p R (.returned (.int .i64 o0)) w1 from by
   rw [HR0.out, List.drop_of_length_le (by have := HRL.out; have := HLN.out; omega), restC]
   exact ⟨(endC_ok _).symm, F1, HS1.out, HW1.out.1, HW1.out.2⟩)
  subst hc1
  go_upto_region 3 with fail
  go_loopw [7, 18] (fun ov i wr => ov = .int .i64 o0 ∧ i = .int .i64 0 ∧ wr = w1) (fun _ _ _ => 0)
  case atStart => exact ⟨rfl, rfl, rfl⟩
  case round =>
   obtain ⟨rfl, rfl, rfl⟩ := hrel
   go_wp2_with fail
   go_ret
   exact HFIN.out
 go_upto_region 3 with fail
 go_loopw [7, 18] (fun ov i wr => ∃ (I o : Nat) (F' : Nat → Prop) (L' : List NdD), I + 1 ≤ len ∧ i = .int .i64 I ∧ ov = .int .i64 o ∧ Hid (R = restC true (rest.drop I) o L') ∧ Hid (o < L'.length) ∧ Hid (SD F' wr p L') ∧ Hid (WentC F w F' wr)) (fun _ i _ => len - (intOf i).toNat)
 case atStart => exact ⟨0, o0, F1, L0, by omega, rfl, rfl, HR0.out, HO0.out, HS1.out, HW1.out⟩
 case round =>
  obtain ⟨wo, rfl⟩ : ∃ wo : World, wo = wr := ⟨_, rfl⟩
  obtain ⟨I, o', F', L', hI, rfl, rfl, hRI, hoL, hS', hW'⟩ := hrel
  by_cases h1 : I + 1 < len
  case neg =>
   have HFIN := Hd (show CPost F w p R (.returned (.int .i64 o')) wo from by
    rw [hRI.out, List.drop_of_length_le (by have := HRL.out; have := HLN.out; omega), restC]
    exact ⟨(endC_ok _).symm, F', hS'.out, hW'.out.1, hW'.out.2⟩)
   go_wp2_with fail
   go_ret
   exact HFIN.out
  have hIr : I < rest.length := by have := HRL.out; have := HLN.out; omega
  obtain ⟨hI', hg⟩ := HRG.out I hIr
  obtain ⟨opk, fk, nk, qk, lk, ek, e0, e1, e2, e3, hvk⟩ := (HK.out.went hW'.out).at (I + 1) hI'
  rw [show o + (I + 1) * 4 = o + 4 + I * 4 from by omega] at e0 e1 e2 e3
  have hrk := Tm.rightAll_get HRA.out (I + 1) hI'
  have hih := HIH.out (I + 1) hI'
  rw [← hg] at hvk hrk hih
  obtain ⟨k, hkk⟩ : ∃ k, k = rest[I] := ⟨_, rfl⟩
  rw [← hkk] at hvk hrk hih
  obtain ⟨w4, h4⟩ : ∃ W : World, wo.alloc (.cells #[.int .i8 opk, .int .i8 fk, .int .u64 nk, .slice qk lk ek] 26) = W := ⟨_, rfl⟩
  have x4 : Ext wo w4 := h4 ▸ Ext.alloc _ _
  have xd : Ext w4 w4.drew := Ext.drew _
  have c0 : w4.drew.cell? ⟨wo.heap.size, 0, none⟩ = some (.int .i8 opk) := by rw [← h4]; simp [go_sem]
  have c1 : w4.drew.cell? ⟨wo.heap.size, 1, none⟩ = some (.int .i8 fk) := by rw [← h4]; simp [go_sem]
  have c2 : w4.drew.cell? ⟨wo.heap.size, 2, none⟩ = some (.int .u64 nk) := by rw [← h4]; simp [go_sem]
  have c3 : w4.drew.cell? ⟨wo.heap.size, 3, none⟩ = some (.slice qk lk ek) := by rw [← h4]; simp [go_sem]
  have HWD := Hd (WentC.ofExt (F := F') (x4.trans xd))
  have HMo := Hd ((HM.out.went hW'.out).went HWD.out)
  have HSo := Hd (hS'.out.ext (x4.trans xd))
  have HWo := Hd (hW'.out.trans HWD.out)
  obtain ⟨R1, hR1⟩ : ∃ R1, R1 = termC k L' := ⟨_, rfl⟩
  obtain ⟨R2, hR2⟩ : ∃ R2, R2 = joinP true R1.2 o' R1.1.2 := ⟨_, rfl⟩
  have HC1 := Hd (show Calls Tryz.prog 28 #[.pointer (some ⟨m, 0, none⟩), .agg #[.int .i8 opk, .int .i8 fk, .int .u64 nk, .slice qk lk ek]] w4.drew (CPost F' w4.drew p R1) from by
   rw [hR1]; exact hih r F' p m L' _ w4.drew hrk HSo.out (hvk.went HWD.out) HMo.out)
  have HFN1 := Hd (show Fine L' R1 from by rw [hR1]; exact termC_fine _ hS'.out.inv)
  have HRR := Hd (show R = (if R1.1.1 = 0 then (if R2.1.1 = 0 then restC true (rest.drop (I + 1)) R2.1.2 R2.2 else R2) else R1) from by
   rw [hRI.out, List.drop_eq_getElem_cons hIr, restC, ← hkk, ← hR1]
   unfold bindR
   dsimp only
   rw [← hR2])
  have HFN2 := Hd (show R1.1.1 = 0 → Fine R1.2 R2 from fun h => by
   rw [hR2]
   exact joinP_fine HFN1.out.inv (by have := HFN1.out.pre.length_le; have := hoL.out; omega) (HFN1.out.lt h))
  have HC2 := Hd (show ∀ F1 W, R1.1.1 = 0 → SD F1 W p R1.2 → Calls Tryz.prog 46 #[.pointer (some ⟨p, 0, none⟩), .int .i64 o', .int .i64 R1.1.2] W (DPost F1 W p (outD R2)) from fun F1 W h hs => by
   rw [hR2]
   exact joinD_then p R1.2 o' R1.1.2 W hs (by have := HFN1.out.pre.length_le; have := hoL.out; omega) (HFN1.out.lt h))
  have HSW := Hd (show ∀ (F2 : Nat → Prop) (W : World), WentC F' w4.drew F2 W → ((fun W : World => W.cell? ⟨m, 0, none⟩ = some (.pointer (some ⟨p, 0, none⟩)) ∧ W.cell? ⟨wo.heap.size, 0, none⟩ = some (.int .i8 opk) ∧ W.cell? ⟨wo.heap.size, 1, none⟩ = some (.int .i8 fk) ∧ W.cell? ⟨wo.heap.size, 2, none⟩ = some (.int .u64 nk) ∧ W.cell? ⟨wo.heap.size, 3, none⟩ = some (.slice qk lk ek))) W from fun F2 W hw => by
   have nf : ¬ F' wo.heap.size := fun e => by have := hS'.out.st.lt _ e; omega
   exact ⟨hw.cell HMo.out.1 HMo.out.2, hw.cell c0 nf, hw.cell c1 nf, hw.cell c2 nf, hw.cell c3 nf⟩)
  have hS0 := HSW.out F' w4.drew (WentC.ofExt (Ext.refl _))
  have HE4 := Hd h4
  have hI2 : I < len - 1 := by omega
  clear hIr hI' hg hvk hrk hih hkk hR1 hR2 x4 xd h4 c0 c1 c2 c3 hRI hS' HIH HK HRG HMo HSo
  go_upto_region 5 with fail
  rw [HE4.out]
  clear HE4 e0 e1 e2 e3
  refine wp_region_held_drew (S := (fun W : World => W.cell? ⟨m, 0, none⟩ = some (.pointer (some ⟨p, 0, none⟩)) ∧ W.cell? ⟨wo.heap.size, 0, none⟩ = some (.int .i8 opk) ∧ W.cell? ⟨wo.heap.size, 1, none⟩ = some (.int .i8 fk) ∧ W.cell? ⟨wo.heap.size, 2, none⟩ = some (.int .u64 nk) ∧ W.cell? ⟨wo.heap.size, 3, none⟩ = some (.slice qk lk ek))) (by kernel_rfl) (hS0) (fun hHeld => ?_)
  refine tk 0 (.func (.func 46) #[] #[]) ?_
  try simp only [tkN]
  refine tk 1 (.pointer (some ⟨m, 0, none⟩)) ?_
  try simp only [tkN]
  refine tk 2 (.pointer (some ⟨m, 0, none⟩)) ?_
  try simp only [tkN]
  refine tk 3 (.pointer (some ⟨m, 0, none⟩)) ?_
  try simp only [tkN]
  refine tk 4 (.pointer (some ⟨p, 0, none⟩)) ?_
  try simp only [tkN]
  refine tk 5 (.int .i64 o') ?_
  try simp only [tkN]
  refine tk 6 (.pointer (some ⟨m, 0, none⟩)) ?_
  try simp only [tkN]
  refine tk 7 (.agg #[.int .i8 opk, .int .i8 fk, .int .u64 nk, .slice qk lk ek]) ?_
  try simp only [tkN]
  refine tk1 8 rfl (AllReadyH.cons rfl (fun K hK => ?_) AllReadyH.nil)
  go_simp
  go_at_call 28
  refine (HC1.out).mono ?_
  rintro e w11 ⟨he, F11, hs11, hsub11, hkp11⟩
  have we11 : WentC F' w4.drew F11 w11 := ⟨hsub11, hkp11⟩
  have hw := HWo.out.trans we11
  by_cases r11 : R1.1.1 = 0
  case neg =>
   rw [endC_no r11] at he
   subst he
   have HFIN := Hd (show CPost F w p R (.panicked (wrongC R1.1.1)) w11 from by
    rw [HRR.out, if_neg r11]
    exact ⟨(endC_no r11 _).symm, F11, hs11, hw.1, hw.2⟩)
   go_wp2_with fail
   exact ⟨rfl, HFIN.out⟩
  rw [r11, endC_ok] at he
  subst he
  clear hw
  refine hK.out _ _ (HSW.out F11 w11 we11) (fun hh11 => ?_)
  clear hK K
  try simp only [tkN]
  refine tk1 9 rfl (AllReadyH.cons rfl (fun K hK => ?_) AllReadyH.nil)
  go_simp
  go_at_call 46
  refine (HC2.out F11 w11 r11 hs11).mono ?_
  rintro e w12 ⟨rfl, F12, hs12, hsub12, hkp12⟩
  have we12 : WentC F' w4.drew F12 w12 := we11.trans ⟨hsub12, hkp12⟩
  have hw := HWo.out.trans we12
  refine hK.out _ _ (HSW.out F12 w12 we12) (fun hh12 => ?_)
  clear hK K
  try simp only [tkN]
  refine tk 10 (.int .i64 (outD R2).1.1) ?_
  try simp only [tkN]
  refine tk 11 (.int .i64 (outD R2).1.2) ?_
  try simp only [tkN]
  refine tk1 12 rfl (AllReadyH.cons rfl (fun K hK => ?_) AllReadyH.nil)
  go_simp
  go_at_call 42
  refine (cmust_any (outD R2).1.1 (outD R2).1.2 w12).mono ?_
  rintro e w13 ⟨he, rfl⟩
  have he : e = endC R2.1.1 (.int .i64 (outD R2).1.1) := he
  have hs12 : SD F12 w12 p R2.2 := hs12
  by_cases r12 : R2.1.1 = 0
  case neg =>
   rw [endC_no r12] at he
   subst he
   have HFIN := Hd (show CPost F w p R (.panicked (wrongC R2.1.1)) w12 from by
    rw [HRR.out, if_pos r11, if_neg r12]
    exact ⟨(endC_no r12 _).symm, F12, hs12, hw.1, hw.2⟩)
   go_wp2_with fail
   exact ⟨rfl, HFIN.out⟩
  rw [r12, endC_ok, show (outD R2).1.1 = (R2.1.2 : Int) from if_pos r12] at he
  subst he
  refine hK.out _ _ (HSW.out F12 w12 we12) (fun hh13 => ?_)
  clear hK K
  try simp only [tkN]
  refine tk 13 (.int .i64 R2.1.2) ?_
  try simp only [tkN]
  refine wpAnyH_done (by kernel_rfl) ?_ _
  have HRN := Hd (show R = restC true (rest.drop (I + 1)) R2.1.2 R2.2 from by rw [HRR.out, if_pos r11, if_pos r12])
  have HOL := Hd ((HFN2.out r11).lt r12)
  clear r11 r12
  go_wp2_with fail
  go_roundw
  case rel => exact ⟨I + 1, R2.1.2, F12, R2.2, by omega, by go_num, rfl, HRN.out, HOL.out, hs12, hw⟩
  case measure => simp [intOf]; omega

set_option maxHeartbeats 8000000 in
set_option maxRecDepth 100000 in
theorem cfold_union (ks : List Tm) (IH : ∀ i (h : i < ks.length), TermOf (ks[i])) (r : Bool) (F : Nat → Prop) (p m : Nat) (L : List NdD) (b o cap : Nat) (w : World) (hr : Tm.rightAll ks r = true) (hk : 1 ≤ ks.length) (hcap : ks.length ≤ cap ∧ cap ≤ 9223372036854775807)
  (h : SD F w p L) (hm : MAt F w m p) (hks : TermsIn F w ks b o) :
  Calls Tryz.prog 45 #[.pointer (some ⟨m, 0, none⟩), .slice (some ⟨b, o, none⟩) ks.length cap, .func (.func 47) #[] #[]] w (CPost F w p (foldC false ks L)) := by
 have HIH := Hd IH
 have HRA := Hd hr
 have HM := Hd hm
 have HK := Hd hks
 have HS := Hd h
 obtain ⟨op0, f0, n0, q0, l0, e0, c0, c1, c2, c3, hv0⟩ := hks.at 0 (by omega)
 rw [Nat.zero_mul, Nat.add_zero] at c0 c1 c2 c3
 have HC0 := Hd (HIH.out 0 (by omega) r F p m L _ w (Tm.rightAll_get hr 0 (by omega)) h hv0 hm)
 obtain ⟨R0, hR0⟩ : ∃ R0, R0 = termC (ks[0]) L := ⟨_, rfl⟩
 rw [← hR0] at HC0
 have HF0 := Hd (show Fine L R0 from by rw [hR0]; exact termC_fine _ h.inv)
 obtain ⟨rest, hrest⟩ : ∃ rest, rest = ks.drop 1 := ⟨_, rfl⟩
 have hfold : foldC false ks L = bindR R0 fun o L1 => restC false rest o L1 := by
  rw [hR0, hrest]
  cases ks with
  | nil => simp at hk
  | cons t ts => rw [foldC]; rfl
 have HFO := Hd hfold
 obtain ⟨R, hR⟩ : ∃ R, R = foldC false ks L := ⟨_, rfl⟩
 rw [← hR] at HFO ⊢
 have HRL := Hd (show rest.length + 1 = ks.length from by rw [hrest, List.length_drop]; omega)
 have HRG := Hd (show ∀ I (hI : I < rest.length), ∃ hI' : I + 1 < ks.length, rest[I] = ks[I + 1] from fun I hI => by
  subst hrest
  rw [List.length_drop] at hI
  exact ⟨by omega, by rw [List.getElem_drop]; simp only [Nat.add_comm]⟩)
 obtain ⟨len, hlen⟩ : ∃ len, len = ks.length := ⟨_, rfl⟩
 have HLN := Hd hlen
 rw [← hlen] at hk hcap ⊢
 clear hr IH hks h hm hv0 hR0 hrest hfold hR hlen
 go_enter Tryz.func45, Tryz.ntmps45
 go_wp2_with fail
 refine HC0.out.mono ?_
 intro e w1 hp
 have HP1 := Hd hp
 obtain ⟨he, F1, hs1, hsub1, hkp1⟩ := hp
 have HW1 := Hd (show WentC F w F1 w1 from ⟨hsub1, hkp1⟩)
 have HS1 := Hd hs1
 clear hs1 hsub1 hkp1 c0 c1 c2 c3 HC0
 by_cases r0 : R0.1.1 = 0
 case neg =>
  rw [endC_no r0] at he
  subst he
  have HFIN := Hd (show CPost F w p R (.panicked (wrongC R0.1.1)) w1 from by
   rw [HFO.out]
   unfold bindR
   rw [if_neg r0]
   exact ⟨(endC_no r0 _).symm, HP1.out.2⟩)
  clear r0 HP1
  go_wp2_with fail
  exact ⟨rfl, HFIN.out⟩
 rw [r0, endC_ok] at he
 subst he
 have HR0 := Hd (show R = restC false (rest.drop 0) R0.1.2 R0.2 from by rw [HFO.out]; unfold bindR; rw [if_pos r0]; rfl)
 have HO0 := Hd (HF0.out.lt r0)
 obtain ⟨o0, ho0⟩ : ∃ o0, o0 = R0.1.2 := ⟨_, rfl⟩
 obtain ⟨L0, hL0⟩ : ∃ L0, L0 = R0.2 := ⟨_, rfl⟩
 rw [← ho0, ← hL0] at HR0 HO0
 rw [← hL0] at HS1
 rw [← ho0]
 clear r0 ho0 hL0 HP1 HFO HF0
 by_cases hc1 : cap = 1
 case pos =>
  obtain rfl : len = 1 := by omega
  have HFIN := Hd (show CPost F w p R (.returned (.int .i64 o0)) w1 from by
   rw [HR0.out, List.drop_of_length_le (by have := HRL.out; have := HLN.out; omega), restC]
   exact ⟨(endC_ok _).symm, F1, HS1.out, HW1.out.1, HW1.out.2⟩)
  subst hc1
  go_upto_region 3 with fail
  go_loopw [7, 18] (fun ov i wr => ov = .int .i64 o0 ∧ i = .int .i64 0 ∧ wr = w1) (fun _ _ _ => 0)
  case atStart => exact ⟨rfl, rfl, rfl⟩
  case round =>
   obtain ⟨rfl, rfl, rfl⟩ := hrel
   go_wp2_with fail
   go_ret
   exact HFIN.out
 go_upto_region 3 with fail
 go_loopw [7, 18] (fun ov i wr => ∃ (I o : Nat) (F' : Nat → Prop) (L' : List NdD), I + 1 ≤ len ∧ i = .int .i64 I ∧ ov = .int .i64 o ∧ Hid (R = restC false (rest.drop I) o L') ∧ Hid (o < L'.length) ∧ Hid (SD F' wr p L') ∧ Hid (WentC F w F' wr)) (fun _ i _ => len - (intOf i).toNat)
 case atStart => exact ⟨0, o0, F1, L0, by omega, rfl, rfl, HR0.out, HO0.out, HS1.out, HW1.out⟩
 case round =>
  obtain ⟨wo, rfl⟩ : ∃ wo : World, wo = wr := ⟨_, rfl⟩
  obtain ⟨I, o', F', L', hI, rfl, rfl, hRI, hoL, hS', hW'⟩ := hrel
  by_cases h1 : I + 1 < len
  case neg =>
   have HFIN := Hd (show CPost F w p R (.returned (.int .i64 o')) wo from by
    rw [hRI.out, List.drop_of_length_le (by have := HRL.out; have := HLN.out; omega), restC]
    exact ⟨(endC_ok _).symm, F', hS'.out, hW'.out.1, hW'.out.2⟩)
   go_wp2_with fail
   go_ret
   exact HFIN.out
  have hIr : I < rest.length := by have := HRL.out; have := HLN.out; omega
  obtain ⟨hI', hg⟩ := HRG.out I hIr
  obtain ⟨opk, fk, nk, qk, lk, ek, e0, e1, e2, e3, hvk⟩ := (HK.out.went hW'.out).at (I + 1) hI'
  rw [show o + (I + 1) * 4 = o + 4 + I * 4 from by omega] at e0 e1 e2 e3
  have hrk := Tm.rightAll_get HRA.out (I + 1) hI'
  have hih := HIH.out (I + 1) hI'
  rw [← hg] at hvk hrk hih
  obtain ⟨k, hkk⟩ : ∃ k, k = rest[I] := ⟨_, rfl⟩
  rw [← hkk] at hvk hrk hih
  obtain ⟨w4, h4⟩ : ∃ W : World, wo.alloc (.cells #[.int .i8 opk, .int .i8 fk, .int .u64 nk, .slice qk lk ek] 26) = W := ⟨_, rfl⟩
  have x4 : Ext wo w4 := h4 ▸ Ext.alloc _ _
  have xd : Ext w4 w4.drew := Ext.drew _
  have c0 : w4.drew.cell? ⟨wo.heap.size, 0, none⟩ = some (.int .i8 opk) := by rw [← h4]; simp [go_sem]
  have c1 : w4.drew.cell? ⟨wo.heap.size, 1, none⟩ = some (.int .i8 fk) := by rw [← h4]; simp [go_sem]
  have c2 : w4.drew.cell? ⟨wo.heap.size, 2, none⟩ = some (.int .u64 nk) := by rw [← h4]; simp [go_sem]
  have c3 : w4.drew.cell? ⟨wo.heap.size, 3, none⟩ = some (.slice qk lk ek) := by rw [← h4]; simp [go_sem]
  have HWD := Hd (WentC.ofExt (F := F') (x4.trans xd))
  have HMo := Hd ((HM.out.went hW'.out).went HWD.out)
  have HSo := Hd (hS'.out.ext (x4.trans xd))
  have HWo := Hd (hW'.out.trans HWD.out)
  obtain ⟨R1, hR1⟩ : ∃ R1, R1 = termC k L' := ⟨_, rfl⟩
  obtain ⟨R2, hR2⟩ : ∃ R2, R2 = joinP false R1.2 o' R1.1.2 := ⟨_, rfl⟩
  have HC1 := Hd (show Calls Tryz.prog 28 #[.pointer (some ⟨m, 0, none⟩), .agg #[.int .i8 opk, .int .i8 fk, .int .u64 nk, .slice qk lk ek]] w4.drew (CPost F' w4.drew p R1) from by
   rw [hR1]; exact hih r F' p m L' _ w4.drew hrk HSo.out (hvk.went HWD.out) HMo.out)
  have HFN1 := Hd (show Fine L' R1 from by rw [hR1]; exact termC_fine _ hS'.out.inv)
  have HRR := Hd (show R = (if R1.1.1 = 0 then (if R2.1.1 = 0 then restC false (rest.drop (I + 1)) R2.1.2 R2.2 else R2) else R1) from by
   rw [hRI.out, List.drop_eq_getElem_cons hIr, restC, ← hkk, ← hR1]
   unfold bindR
   dsimp only
   rw [← hR2])
  have HFN2 := Hd (show R1.1.1 = 0 → Fine R1.2 R2 from fun h => by
   rw [hR2]
   exact joinP_fine HFN1.out.inv (by have := HFN1.out.pre.length_le; have := hoL.out; omega) (HFN1.out.lt h))
  have HC2 := Hd (show ∀ F1 W, R1.1.1 = 0 → SD F1 W p R1.2 → Calls Tryz.prog 47 #[.pointer (some ⟨p, 0, none⟩), .int .i64 o', .int .i64 R1.1.2] W (DPost F1 W p (outD R2)) from fun F1 W h hs => by
   rw [hR2]
   exact joinD_union p R1.2 o' R1.1.2 W hs (by have := HFN1.out.pre.length_le; have := hoL.out; omega) (HFN1.out.lt h))
  have HSW := Hd (show ∀ (F2 : Nat → Prop) (W : World), WentC F' w4.drew F2 W → ((fun W : World => W.cell? ⟨m, 0, none⟩ = some (.pointer (some ⟨p, 0, none⟩)) ∧ W.cell? ⟨wo.heap.size, 0, none⟩ = some (.int .i8 opk) ∧ W.cell? ⟨wo.heap.size, 1, none⟩ = some (.int .i8 fk) ∧ W.cell? ⟨wo.heap.size, 2, none⟩ = some (.int .u64 nk) ∧ W.cell? ⟨wo.heap.size, 3, none⟩ = some (.slice qk lk ek))) W from fun F2 W hw => by
   have nf : ¬ F' wo.heap.size := fun e => by have := hS'.out.st.lt _ e; omega
   exact ⟨hw.cell HMo.out.1 HMo.out.2, hw.cell c0 nf, hw.cell c1 nf, hw.cell c2 nf, hw.cell c3 nf⟩)
  have hS0 := HSW.out F' w4.drew (WentC.ofExt (Ext.refl _))
  have HE4 := Hd h4
  have hI2 : I < len - 1 := by omega
  clear hIr hI' hg hvk hrk hih hkk hR1 hR2 x4 xd h4 c0 c1 c2 c3 hRI hS' HIH HK HRG HMo HSo
  go_upto_region 5 with fail
  rw [HE4.out]
  clear HE4 e0 e1 e2 e3
  refine wp_region_held_drew (S := (fun W : World => W.cell? ⟨m, 0, none⟩ = some (.pointer (some ⟨p, 0, none⟩)) ∧ W.cell? ⟨wo.heap.size, 0, none⟩ = some (.int .i8 opk) ∧ W.cell? ⟨wo.heap.size, 1, none⟩ = some (.int .i8 fk) ∧ W.cell? ⟨wo.heap.size, 2, none⟩ = some (.int .u64 nk) ∧ W.cell? ⟨wo.heap.size, 3, none⟩ = some (.slice qk lk ek))) (by kernel_rfl) (hS0) (fun hHeld => ?_)
  refine tk 0 (.func (.func 47) #[] #[]) ?_
  try simp only [tkN]
  refine tk 1 (.pointer (some ⟨m, 0, none⟩)) ?_
  try simp only [tkN]
  refine tk 2 (.pointer (some ⟨m, 0, none⟩)) ?_
  try simp only [tkN]
  refine tk 3 (.pointer (some ⟨m, 0, none⟩)) ?_
  try simp only [tkN]
  refine tk 4 (.pointer (some ⟨p, 0, none⟩)) ?_
  try simp only [tkN]
  refine tk 5 (.int .i64 o') ?_
  try simp only [tkN]
  refine tk 6 (.pointer (some ⟨m, 0, none⟩)) ?_
  try simp only [tkN]
  refine tk 7 (.agg #[.int .i8 opk, .int .i8 fk, .int .u64 nk, .slice qk lk ek]) ?_
  try simp only [tkN]
  refine tk1 8 rfl (AllReadyH.cons rfl (fun K hK => ?_) AllReadyH.nil)
  go_simp
  go_at_call 28
  refine (HC1.out).mono ?_
  rintro e w11 ⟨he, F11, hs11, hsub11, hkp11⟩
  have we11 : WentC F' w4.drew F11 w11 := ⟨hsub11, hkp11⟩
  have hw := HWo.out.trans we11
  by_cases r11 : R1.1.1 = 0
  case neg =>
   rw [endC_no r11] at he
   subst he
   have HFIN := Hd (show CPost F w p R (.panicked (wrongC R1.1.1)) w11 from by
    rw [HRR.out, if_neg r11]
    exact ⟨(endC_no r11 _).symm, F11, hs11, hw.1, hw.2⟩)
   go_wp2_with fail
   exact ⟨rfl, HFIN.out⟩
  rw [r11, endC_ok] at he
  subst he
  clear hw
  refine hK.out _ _ (HSW.out F11 w11 we11) (fun hh11 => ?_)
  clear hK K
  try simp only [tkN]
  refine tk1 9 rfl (AllReadyH.cons rfl (fun K hK => ?_) AllReadyH.nil)
  go_simp
  go_at_call 47
  refine (HC2.out F11 w11 r11 hs11).mono ?_
  rintro e w12 ⟨rfl, F12, hs12, hsub12, hkp12⟩
  have we12 : WentC F' w4.drew F12 w12 := we11.trans ⟨hsub12, hkp12⟩
  have hw := HWo.out.trans we12
  refine hK.out _ _ (HSW.out F12 w12 we12) (fun hh12 => ?_)
  clear hK K
  try simp only [tkN]
  refine tk 10 (.int .i64 (outD R2).1.1) ?_
  try simp only [tkN]
  refine tk 11 (.int .i64 (outD R2).1.2) ?_
  try simp only [tkN]
  refine tk1 12 rfl (AllReadyH.cons rfl (fun K hK => ?_) AllReadyH.nil)
  go_simp
  go_at_call 42
  refine (cmust_any (outD R2).1.1 (outD R2).1.2 w12).mono ?_
  rintro e w13 ⟨he, rfl⟩
  have he : e = endC R2.1.1 (.int .i64 (outD R2).1.1) := he
  have hs12 : SD F12 w12 p R2.2 := hs12
  by_cases r12 : R2.1.1 = 0
  case neg =>
   rw [endC_no r12] at he
   subst he
   have HFIN := Hd (show CPost F w p R (.panicked (wrongC R2.1.1)) w12 from by
    rw [HRR.out, if_pos r11, if_neg r12]
    exact ⟨(endC_no r12 _).symm, F12, hs12, hw.1, hw.2⟩)
   go_wp2_with fail
   exact ⟨rfl, HFIN.out⟩
  rw [r12, endC_ok, show (outD R2).1.1 = (R2.1.2 : Int) from if_pos r12] at he
  subst he
  refine hK.out _ _ (HSW.out F12 w12 we12) (fun hh13 => ?_)
  clear hK K
  try simp only [tkN]
  refine tk 13 (.int .i64 R2.1.2) ?_
  try simp only [tkN]
  refine wpAnyH_done (by kernel_rfl) ?_ _
  have HRN := Hd (show R = restC false (rest.drop (I + 1)) R2.1.2 R2.2 from by rw [HRR.out, if_pos r11, if_pos r12])
  have HOL := Hd ((HFN2.out r11).lt r12)
  clear r11 r12
  go_wp2_with fail
  go_roundw
  case rel => exact ⟨I + 1, R2.1.2, F12, R2.2, by omega, by go_num, rfl, HRN.out, HOL.out, hs12, hw⟩
  case measure => simp [intOf]; omega

end Go.Proofs.YtjjbdbklbghlhaaGreatDoor
