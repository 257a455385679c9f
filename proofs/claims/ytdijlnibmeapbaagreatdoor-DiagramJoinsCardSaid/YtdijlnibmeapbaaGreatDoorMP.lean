/- The short diagram that the law wakes by, in plain words. -/
import Derived.Test.YtdijlnibmeapbaaGreatDoorMO
namespace Go.Proofs.YtdijlnibmeapbaaGreatDoor
open Go.RowKit Go.Sort Go.Maps Go.Lib
set_option linter.unusedSimpArgs false

def p2A : AcD := ⟨0, 9, 2⟩
def wkParts : List PartD := [⟨9, 1, [[p2A]]⟩]
def wN0 : NdD := ⟨-1, 0, 0, 0, []⟩
def wN1 : NdD := ⟨-1, 0, 0, 0, [[p2A]]⟩
def wN2 : NdD := ⟨9, 1, 1, 0, []⟩
def wN3 : NdD := ⟨-1, 0, 0, 0, [[]]⟩
def wN4 : NdD := ⟨-1, 0, 0, 0, [[], [p2A]]⟩
def wN5 : NdD := ⟨9, 1, 4, 3, []⟩
def wL3 : List NdD := [wN0, wN1, wN2]
def wL4 : List NdD := [wN0, wN1, wN2, wN3]
def wL5 : List NdD := [wN0, wN1, wN2, wN3, wN4]
def wL6 : List NdD := [wN0, wN1, wN2, wN3, wN4, wN5]
theorem wk_made : madeT [] wkParts = ((2, 0), wL3) := by kernel_rfl
theorem wk_sort : sortR [[], [p2A]] = [[], [p2A]] := List.mergeSort_of_pairwise (by decide)
theorem wk_rows : rowsP [[], [p2A]] = some [[], [p2A]] := by
  unfold rowsP
  have h : List.mapM rowP [[], [p2A]] = some [[], [p2A]] := by kernel_rfl
  rw [h]
  show some (ddR (sortR [[], [p2A]])) = _
  rw [wk_sort]
  kernel_rfl
theorem wk_put4 : putN wL4 ⟨-1, 0, 0, 0, [[], [p2A]]⟩ = ((4, 0), wL5) := by kernel_rfl
theorem wk_put6 : putN wL6 ⟨-1, 0, 0, 0, [[], [p2A]]⟩ = ((4, 0), wL6) := by kernel_rfl
theorem wk_leaf4 : leafR wL4 [[], [p2A]] = ((0, 4), wL5) := by
  unfold leafR leafP
  rw [wk_rows]
  show (((putN wL4 ⟨-1, 0, 0, 0, [[], [p2A]]⟩).1.2, _), _) = _
  simp only [show ¬ (64 < [[], [p2A]].length) by decide, if_false, wk_put4]
  rfl
theorem wk_leaf6 : leafR wL6 [[], [p2A]] = ((0, 4), wL6) := by
  unfold leafR leafP
  rw [wk_rows]
  simp only [show ¬ (64 < [[], [p2A]].length) by decide, if_false, wk_put6]
  rfl
theorem wk_u4 : unionP 6 wL4 3 2 = bindR (unionP 5 wL4 3 1) fun h L1 => bindR (unionP 5 L1 (loA L1 9 1 3) (loA L1 9 1 2)) fun l L2 => testR L2 (9, 1) h l := by kernel_rfl
theorem wk_u41 : unionP 5 wL4 3 1 = leafR wL4 [[], [p2A]] := by kernel_rfl
theorem wk_u5 : (bindR (unionP 5 wL5 (loA wL5 9 1 3) (loA wL5 9 1 2)) fun l L2 => testR L2 (9, 1) 4 l) = ((0, 5), wL6) := by kernel_rfl
theorem wk_union4 : unionP 6 wL4 3 2 = ((0, 5), wL6) := by
  rw [wk_u4, wk_u41, wk_leaf4]
  unfold bindR
  rw [if_pos rfl]
  have h := wk_u5
  unfold bindR at h
  exact h
theorem wk_u6 : unionP 6 wL6 3 2 = bindR (unionP 5 wL6 3 1) fun h L1 => bindR (unionP 5 L1 (loA L1 9 1 3) (loA L1 9 1 2)) fun l L2 => testR L2 (9, 1) h l := by kernel_rfl
theorem wk_u61 : unionP 5 wL6 3 1 = leafR wL6 [[], [p2A]] := by kernel_rfl
theorem wk_u62 : (bindR (unionP 5 wL6 (loA wL6 9 1 3) (loA wL6 9 1 2)) fun l L2 => testR L2 (9, 1) 4 l) = ((0, 5), wL6) := by kernel_rfl
theorem wk_union6 : unionP 6 wL6 3 2 = ((0, 5), wL6) := by
  rw [wk_u6, wk_u61, wk_leaf6]
  unfold bindR
  rw [if_pos rfl]
  have h := wk_u62
  unfold bindR at h
  exact h
theorem wk_then4 : thenP 4 wL4 3 2 = ((0, 2), wL4) := by kernel_rfl
theorem wk_then6 : thenP 6 wL6 5 2 = ((0, 2), wL6) := by kernel_rfl
theorem wk_leaf3 : leafR wL3 [[]] = ((0, 3), wL4) := by kernel_rfl
theorem wk_starR4 : starR wL4 3 2 3 = ((0, 5), wL6) := by
  unfold starR
  rw [show thenP (3 + 1) wL4 3 2 = ((0, 2), wL4) from wk_then4]
  unfold bindR
  rw [if_pos rfl]
  exact wk_union4
theorem wk_starR6 : starR wL6 3 2 5 = ((0, 5), wL6) := by
  unfold starR
  rw [show thenP (5 + 1) wL6 5 2 = ((0, 2), wL6) from wk_then6]
  unfold bindR
  rw [if_pos rfl]
  exact wk_union6
theorem wk_star : starP wL3 2 = ((0, 5), wL6) := by
  unfold starP
  rw [wk_leaf3]
  unfold bindR
  rw [if_pos rfl]
  show starLoop (62 + 1 + 1) wL4 3 2 3 = _
  rw [starLoop, wk_starR4]
  unfold bindR
  rw [if_pos rfl]
  dsimp only
  rw [if_neg (by decide), starLoop, wk_starR6]
  unfold bindR
  rw [if_pos rfl]
  rfl
theorem wk_starT : starT wL3 2 = ((5, 0), wL6) := by
  have h : okIds wL3 [2] = true := by kernel_rfl
  unfold starT runIds
  rw [h, if_pos rfl]
  show outD (starP wL3 2) = _
  rw [wk_star]
  rfl
theorem wk_notT : notT wL6 2 = ((0, 170), wL6) := by kernel_rfl
def hP1 : Hdr := (Vector.replicate 11 0).set 9 1
def hP2 : Hdr := (Vector.replicate 11 0).set 9 2
theorem wk_cs : hP1.cs = #[.int .u64 0, .int .u64 0, .int .u64 0, .int .u64 0, .int .u64 0, .int .u64 0, .int .u64 0, .int .u64 0, .int .u64 0, .int .u64 1, .int .u64 0] := by kernel_rfl
theorem wk_sortH : sortH [hP1, hP2] = [hP1, hP2] := List.mergeSort_of_pairwise (by
  have h : ltH hP2 hP1 = false := by kernel_rfl
  simp [h])
theorem wk_down : downP 6 wL6 5 hP1 = 4 := by kernel_rfl
theorem wk_run : runH wL6 5 hP1 = (0, [hP1, hP2]) := by
  have h : (getP wL6 5).isSome = true := by kernel_rfl
  unfold runH
  rw [h, if_pos rfl, show downP ((5 : Int).toNat + 1) wL6 (5 : Int).toNat hP1 = 4 from wk_down]
  unfold makeL
  have h2 : ((nodeP wL6 4).leaf.map fun r => setRow r hP1) = [hP1, hP2] := by kernel_rfl
  rw [h2, wk_sortH]
  have h3 : hP1 ≠ hP2 := by decide
  rw [dd_cons, if_neg h3]
  rfl
end Go.Proofs.YtdijlnibmeapbaaGreatDoor
/- No store has no diagrams; the law's wakes. -/
namespace Go.Proofs.YtdijlnibmeapbaaGreatDoor
open Go.RowKit Go.Sort Go.Maps Go.Lib
set_option linter.unusedSimpArgs false

def Is2 (a b : Int) (w : World) (e : Ending) (w' : World) : Prop := e = .returned (.tuple #[.int .i64 a, .int .i64 b]) ∧ Ext w w'
set_option maxRecDepth 100000 in
set_option maxHeartbeats 4000000 in
theorem drun_nil (fv : Value) (q : Option Addr) (n c : Nat) (w : World) :
    Calls Tryz.prog 24 #[.pointer none, fv, .slice q n c] w (Is2 0 1 w) := by
  obtain ⟨wA, hA⟩ : ∃ W : World, w.alloc (.cells #[.int .i64 0] 3) = W := ⟨_, rfl⟩
  obtain ⟨wB, hB⟩ : ∃ W : World, wA.alloc (.cells #[.int .i64 0] 28) = W := ⟨_, rfl⟩
  have xA : Ext w wA := hA ▸ Ext.alloc _ _
  have xB : Ext wA wB := hB ▸ Ext.alloc _ _
  have sA : wA.heap.size = w.heap.size + 1 := by rw [← hA, World.size_alloc]
  have sB : wB.heap.size = w.heap.size + 1 + 1 := by rw [← hB, World.size_alloc, sA]
  have c0 : wB.cell? ⟨w.heap.size, 0, none⟩ = some (.int .i64 0) := xB.later _ _ (by rw [← hA]; simp [go_sem])
  have c1 : wB.cell? ⟨w.heap.size + 1, 0, none⟩ = some (.int .i64 0) := by rw [← hB, ← sA]; simp [go_sem]
  have f0 : wB.frozen? ⟨w.heap.size, 0, none⟩ = false := by rw [Below.frozen xB (by simp; omega), ← hA]; simp [go_sem]
  have f1 : wB.frozen? ⟨w.heap.size + 1, 0, none⟩ = false := by rw [← hB, ← sA]; simp [go_sem]
  have HX := Lib.hid (xA.trans xB)
  have HEQ := Lib.hid (And.intro hA hB)
  have HSZ := Lib.hid (And.intro sA sB)
  clear xA xB sA sB hA hB
  go_enter_defers Tryz.func24, Tryz.ntmps24
  go_upto_region 1 with fail
  simp only [HEQ.out.1, HEQ.out.2, HSZ.out.1]
  go_wp2_with fail
  have hcA : ((wB.setCell ⟨w.heap.size, 0, none⟩ (.int .i64 0)).setCell ⟨w.heap.size + 1, 0, none⟩ (.int .i64 1)).cell? ⟨w.heap.size, 0, none⟩ = some (.int .i64 0) := by
    rw [World.cell?_setCell_other _ _ _ _ (fun e => by injection e; omega)]
    exact World.cell?_setCell_same _ _ _ c0
  have hcB : ((wB.setCell ⟨w.heap.size, 0, none⟩ (.int .i64 0)).setCell ⟨w.heap.size + 1, 0, none⟩ (.int .i64 1)).cell? ⟨w.heap.size + 1, 0, none⟩ = some (.int .i64 1) :=
    World.cell?_setCell_same _ _ _ (by rw [World.cell?_setCell_other _ _ _ _ (fun e => by injection e; omega)]; exact c1)
  simp [bodyPostD, Leaves, results, Tryz.results24, go_sem, hcA, hcB]
  exact ⟨rfl, HX.out.andKeep ((Keep.set (S := fun i => i = w.heap.size ∨ i = w.heap.size + 1) wB ⟨w.heap.size, 0, none⟩ (.int .i64 0) (.inl rfl)).trans (Keep.set _ ⟨w.heap.size + 1, 0, none⟩ (.int .i64 1) (.inr rfl))) (fun i hi => by omega)⟩

set_option maxHeartbeats 4000000 in
theorem dUnion_nil (a b : Int) (w : World) :
    Calls Tryz.prog 16 #[.pointer none, .int .i64 a, .int .i64 b] w (Is2 0 1 w) := by
  have hmf : ∀ (fn : Fn) (first cap : Array Value) (w : World), (Instr.makeFunc fn first cap).run Tryz.prog w = .ok (.func fn first cap) w := fun _ _ _ _ => rfl
  obtain ⟨w1, h1⟩ : ∃ W : World, w.alloc (.cells #[.int .i64 a] 3) = W := ⟨_, rfl⟩
  obtain ⟨w2, h2⟩ : ∃ W : World, w1.alloc (.cells #[.int .i64 b] 3) = W := ⟨_, rfl⟩
  obtain ⟨w3, h3⟩ : ∃ W : World, w2.alloc (.cells #[.int .i64 a, .int .i64 b] 3) = W := ⟨_, rfl⟩
  have x1 : Ext w w1 := h1 ▸ Ext.alloc _ _
  have x2 : Ext w1 w2 := h2 ▸ Ext.alloc _ _
  have x3 : Ext w2 w3 := h3 ▸ Ext.alloc _ _
  have s1 : w1.heap.size = w.heap.size + 1 := by rw [← h1, World.size_alloc]
  have s2 : w2.heap.size = w.heap.size + 1 + 1 := by rw [← h2, World.size_alloc, s1]
  have HRU := Lib.hid (drun_nil (.func (.func 30) #[] #[.pointer (some ⟨w.heap.size, 0, none⟩), .pointer (some ⟨w.heap.size + 1, 0, none⟩)]) (some ⟨w.heap.size + 1 + 1, 0, none⟩) 2 2 w3)
  have HEQ := Lib.hid (And.intro h1 (And.intro h2 h3))
  have HSZ := Lib.hid (And.intro s1 s2)
  have HX := Lib.hid (x1.trans (x2.trans x3))
  have HD := Lib.hid (show w2.cell? ⟨w.heap.size, 0, none⟩ = some (.int .i64 a) ∧ w2.cell? ⟨w.heap.size + 1, 0, none⟩ = some (.int .i64 b) from ⟨x2.later _ _ (by rw [← h1]; simp [go_sem]), by rw [← h2, ← s1]; simp [go_sem]⟩)
  clear x1 x2 x3 s1 s2 h1 h2 h3
  go_enter Tryz.func16, Tryz.ntmps16
  go_wp2_with fail
  try simp only [HEQ.out.1, HEQ.out.2.1, HEQ.out.2.2, HSZ.out.1, HSZ.out.2]
  refine HRU.out.mono ?_
  rintro e w5 ⟨rfl, hx⟩
  have HF := Lib.hid (HX.out.trans hx)
  clear hx
  go_wp2_with fail
  go_ret2
  exact ⟨rfl, HF.out⟩

set_option maxHeartbeats 4000000 in
theorem dRun_nil (a : Int) (h : Hdr) (w : World) :
    Calls Tryz.prog 21 #[.pointer none, .int .i64 a, .agg h.cs] w fun e w' => e = .returned (.tuple #[.slice none 0 0, .int .i64 1]) ∧ Ext w w' := by
  go_enter Tryz.func21, Tryz.ntmps21
  go_wp2_with fail
  go_ret2
  exact ⟨rfl, Ext.alloc _ _⟩

theorem DPost.ext0 {F : Nat → Prop} {w0 w w' : World} {p : Nat} {R : (Int × Int) × List NdD} {e : Ending} (hx : Ext w0 w) (hF : ∀ b, F b → w0.heap.size ≤ b) (h : DPost F w p R e w') : ∃ F', SD F' w' p R.2 ∧ (∀ b, F' b → w0.heap.size ≤ b) ∧ Ext w0 w' := by
  obtain ⟨-, F', h1, h2, h3⟩ := h
  exact ⟨F', h1, fun b hb => (h2 b hb).elim (hF b) (fun e => Nat.le_trans hx.size e), hx.andKeep h3 hF⟩

set_option maxRecDepth 100000 in
set_option maxHeartbeats 8000000 in
theorem wakes21_any (w : World) (ht : Tb w) : Calls Tryz.prog 10 #[] w fun e w' => e = .returned (.bool true) ∧ Ext w w' := by
  have HT := Lib.hid ht
  clear ht
  go_enter Tryz.func10, Tryz.ntmps10
  go_wp2_with fail
  refine (newS_any w).mono ?_
  rintro e w1 ⟨p, F1, rfl, hst, hF1, hx1⟩
  obtain ⟨wa, ha⟩ : ∃ W : World, w1.alloc (.cells #[.int .i8 0, .int .i8 9, .int .u64 2] 61) = W := ⟨_, rfl⟩
  obtain ⟨wb, hb⟩ : ∃ W : World, wa.alloc (.cells #[.slice (some ⟨w1.heap.size, 0, none⟩) 1 1] 44) = W := ⟨_, rfl⟩
  obtain ⟨wc, hc⟩ : ∃ W : World, wb.alloc (.cells #[.int .i8 9, .int .u64 1, .slice (some ⟨w1.heap.size + 1, 0, none⟩) 1 1] 58) = W := ⟨_, rfl⟩
  have xa : Ext w1 wa := ha ▸ Ext.alloc _ _
  have xb : Ext wa wb := hb ▸ Ext.alloc _ _
  have xc : Ext wb wc := hc ▸ Ext.alloc _ _
  have sa : wa.heap.size = w1.heap.size + 1 := by rw [← ha, World.size_alloc]
  have sb : wb.heap.size = w1.heap.size + 1 + 1 := by rw [← hb, World.size_alloc, sa]
  have sc : wc.heap.size = w1.heap.size + 1 + 1 + 1 := by rw [← hc, World.size_alloc, sb]
  have HS := Lib.hid (show SD F1 wc p [] from ⟨hst.ext (xa.trans (xb.trans xc)), InvO.nil, w, HT.out, hx1.trans (xa.trans (xb.trans xc)), hF1⟩)
  have hlt := hst.lt
  have hrow : RowOn (fun b => ¬ F1 b) wc [p2A] (.slice (some ⟨w1.heap.size, 0, none⟩) 1 1) := ⟨_, 1, 1, rfl, rfl, Nat.le_refl _, by omega, (fun x hx => by
    simp at hx; subst hx; exact ⟨by decide, by decide, by decide⟩), .inr ⟨w1.heap.size, 0, rfl, fun hF => by have := hlt _ hF; omega, by omega, World.rangeAt.later (xb.trans xc).later (by
      rw [← ha]; exact rangeAt_new w1 #[.int .i8 0, .int .i8 9, .int .u64 2] 61)⟩⟩
  have hcb : wc.cell? ⟨w1.heap.size + 1, 0, none⟩ = some (.slice (some ⟨w1.heap.size, 0, none⟩) 1 1) := xc.later _ _ (by rw [← hb, ← sa]; simp [go_sem])
  have hrows : RowsOn (fun b => ¬ F1 b) wc [[p2A]] (.slice (some ⟨w1.heap.size + 1, 0, none⟩) 1 1) := ⟨_, 1, 1, rfl, rfl, Nat.le_refl _, by omega, .inr ⟨w1.heap.size + 1, 0, [.slice (some ⟨w1.heap.size, 0, none⟩) 1 1], rfl, (fun hF => by have := hlt _ hF; omega), by omega, rfl, (fun j u hu => by
    cases j with
    | zero => simp at hu; subst hu; exact hcb
    | succ j => simp at hu), fun i hi hi' => by
    cases i with
    | zero => exact hrow
    | succ i => simp at hi⟩⟩
  have hpc : ∀ k v, [Value.int .i8 9, .int .u64 1, .slice (some ⟨w1.heap.size + 1, 0, none⟩) 1 1][k]? = some v → wc.cell? ⟨w1.heap.size + 1 + 1, k, none⟩ = some v := fun k v hv => by
    have := rangeAt_new wb #[.int .i8 9, .int .u64 1, .slice (some ⟨w1.heap.size + 1, 0, none⟩) 1 1] 58 k v hv
    rwa [Nat.zero_add, hc, sb] at this
  have hparts : PartsAt (fun b => ¬ F1 b) wc wkParts (.slice (some ⟨w1.heap.size + 1 + 1, 0, none⟩) 1 1) := ⟨_, 1, 1, rfl, rfl, Nat.le_refl _, by omega, fun i hi => by
    have hi0 : i = 0 := by simp [wkParts] at hi; exact hi
    subst hi0
    exact ⟨show (⟨9, 1, [[p2A]]⟩ : PartD).ok from ⟨by decide, by decide, by decide, fun r hr => by simp at hr; subst hr; decide⟩, w1.heap.size + 1 + 1, 0, _, _, _, rfl, (fun hF => by have := hlt _ hF; omega), by omega, hpc 0 _ rfl, hpc 1 _ rfl, hpc 2 _ rfl, hrows⟩⟩
  have HMA := Lib.hid (made_any p [] wkParts (.slice (some ⟨w1.heap.size + 1 + 1, 0, none⟩) 1 1) wc HS.out hparts)
  rw [wk_made] at HMA
  have HEQ := Lib.hid (And.intro ha (And.intro hb hc))
  have HSZ := Lib.hid (And.intro sa sb)
  have HXC := Lib.hid (hx1.trans (xa.trans (xb.trans xc)))
  have HF1 := Lib.hid hF1
  clear ha hb hc xa xb xc sa sb sc hlt hrow hcb hrows hpc hparts hst hF1 hx1
  go_wp2_with fail
  try simp only [HEQ.out.1, HEQ.out.2.1, HEQ.out.2.2, HSZ.out.1, HSZ.out.2]
  refine HMA.out.mono ?_
  intro e w2 hp
  obtain rfl := hp.1
  obtain ⟨F2, hs2, hF2, hx2⟩ := hp.ext0 HXC.out HF1.out
  have H2 := Lib.hid (And.intro hF2 hx2)
  have HST := Lib.hid (dStar_any p wL3 2 w2 hs2 ⟨by decide, by decide⟩)
  rw [wk_starT] at HST
  clear hp hs2 hF2 hx2
  dsimp only
  go_wp2_with fail
  refine HST.out.mono ?_
  intro e w3 hp
  obtain rfl := hp.1
  obtain ⟨F3, hs3, hF3, hx3⟩ := hp.ext0 H2.out.2 H2.out.1
  have H3 := Lib.hid (And.intro hF3 hx3)
  have HS3 := Lib.hid hs3
  have HRN := Lib.hid (dRun_any p wL6 5 hP1 w3 hs3.st hs3.inv (by
    intro x hx
    simp only [wL6, List.mem_cons, List.not_mem_nil, or_false] at hx
    rcases hx with rfl | rfl | rfl | rfl | rfl | rfl <;> decide) ⟨by decide, by decide⟩)
  rw [wk_cs] at HRN
  unfold RunPost at HRN
  rw [wk_run] at HRN
  clear hp hs3 hF3 hx3
  dsimp only
  go_wp2_with fail
  refine HRN.out.mono ?_
  rintro e w4 ⟨⟨v, rfl, q, n, c, rfl, hn, hor⟩, hx4⟩
  obtain rfl : n = 2 := hn
  obtain ⟨b, o, rfl, hb, hr⟩ := hor.resolve_left (by simp)
  have HS4 := Lib.hid (HS3.out.ext hx4)
  have hc1 : w4.cell? ⟨b, o + 9, none⟩ = some (.int .u64 1) := hr 9 _ (by kernel_rfl)
  have hc2 : w4.cell? ⟨b, o + 20, none⟩ = some (.int .u64 2) := hr 20 _ (by kernel_rfl)
  have hnF : ¬ F3 b := fun hF => by have := HS3.out.st.lt b hF; omega
  have HC := Lib.hid (And.intro hc1 (And.intro hc2 hnF))
  have HX4 := Lib.hid (H3.out.2.trans hx4)
  have HNT := Lib.hid (dNot_any p wL6 2 w4 HS4.out ⟨by decide, by decide⟩)
  rw [wk_notT] at HNT
  clear hc1 hc2 hnF hr hb hx4 hor HRN
  go_wp2_with fail
  refine HNT.out.mono ?_
  intro e w5 hp
  obtain rfl := hp.1
  obtain ⟨-, F5, -, -, hk5⟩ := hp
  have c1 := hk5.cell HC.out.1 HC.out.2.2
  have c2 := hk5.cell HC.out.2.1 HC.out.2.2
  have HX5 := Lib.hid (show Ext w w5 from HX4.out.andKeep hk5 H3.out.1)
  clear hk5
  dsimp only
  go_wp2_with fail
  go_ret
  exact ⟨rfl, HX5.out⟩
end Go.Proofs.YtdijlnibmeapbaaGreatDoor
