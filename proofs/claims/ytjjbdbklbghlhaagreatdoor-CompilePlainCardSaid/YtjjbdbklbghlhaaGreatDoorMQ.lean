/- compile's term: what a term becomes. -/
import Derived.Test.YtjjbdbklbghlhaaGreatDoorMA
import Derived.Test.YtjjbdbklbghlhaaGreatDoorMP
import Derived.Test.YtjjbdbklbghlhaaGreatDoorMN
namespace Go.Proofs.YtjjbdbklbghlhaaGreatDoor
open Go.RowKit Go.Sort Go.Maps Go.Lib
set_option linter.unusedSimpArgs false

theorem CPost.pan {F : Nat → Prop} {w : World} {p : Nat} {R : Out} {e : Ending} {w' : World} (h : CPost F w p R e w') : (R.1.1 = 0 ∧ e = .returned (.int .i64 R.1.2)) ∨ (R.1.1 ≠ 0 ∧ e = .panicked (wrongC R.1.1)) := by
 by_cases hr : R.1.1 = 0
 ·exact .inl ⟨hr, by rw [h.1, hr]; exact endC_ok _⟩
 ·exact .inr ⟨hr, by rw [h.1]; exact endC_no hr _⟩
theorem right_kids {op f n : Int} {ks : List Tm} {r : Bool} (h : (Tm.mk op f n ks).right r = true) (ho : op = 3 ∨ op = 4 ∨ op = 5 ∨ op = 6 ∨ op = 8 ∨ op = 9 ∨ op = 10) : 1 ≤ ks.length ∧ ∃ r', Tm.rightAll ks r' = true := by
 cases r
 ·rcases Tm.right_pol h with ⟨h1, h2, h3⟩ | ⟨h1, -, -⟩ | ⟨h1, h2, h3⟩ | ⟨h1, h2, h3⟩
  ·exact ⟨by omega, _, h3⟩
  ·omega
  ·exact ⟨by omega, _, h3⟩
  ·exact ⟨h2, _, h3⟩
 ·rcases Tm.right_pred h with h1 | ⟨h1, -, -⟩ | ⟨h1, h2, h3⟩
  ·omega
  ·omega
  ·exact ⟨h2, _, h3⟩
theorem TermsIn.nf {F : Nat → Prop} {w : World} {ks : List Tm} {b o : Nat} (h : TermsIn F w ks b o) (hk : 1 ≤ ks.length) : ¬ F b := fun e => by
 obtain ⟨w0, h1, h2, h3⟩ := h
 have h4 := (Tm.AllAt_get h3 0 (by omega)).lt
 have := h2 b e
 omega
theorem headC_at {ks : List Tm} {L : List NdD} (hk : 1 ≤ ks.length) : headC ks L = termC (ks[0]) L := by
 cases ks with
 | nil => simp at hk
 | cons t ts => rw [headC]; rfl
theorem rowsOneRow {B : Nat → Prop} {w : World} {row : RowD} {rv : Value} {g : Nat} (hrow : RowOn B w row rv) (hB : B g) (hg : g < w.heap.size) (hc : w.cell? ⟨g, 0, none⟩ = some rv) : RowsOn B w [row] (.slice (some ⟨g, 0, none⟩) 1 1) :=
 ⟨_, 1, 1, rfl, rfl, Nat.le_refl _, by omega, .inr ⟨g, 0, [rv], rfl, hB, hg, rfl, (fun j u hu => by
  cases j with
  | zero => simp at hu; subst hu; exact hc
  | succ j => simp at hu), fun i hi hi' => by
  cases i with
  | zero => exact hrow
  | succ i => simp at hi⟩⟩
theorem notD_any {F : Nat → Prop} (p : Nat) (L : List NdD) (a : Nat) (w : World) (h : SD F w p L) (ha : a < L.length) :
  Calls Tryz.prog 44 #[.pointer (some ⟨p, 0, none⟩), .int .i64 a] w (DPost F w p (outD (notP (a + 1) L a))) := by
 have hbd := h.st.inv.2.1
 have := dNot_any p L a w h (by omega)
 have e : notT L a = outD (notP (a + 1) L a) := by
  unfold notT runIds
  have h : okIds L [(a : Int)] = true := by
   unfold okIds
   simp [getP_inC ha]
  rw [if_pos h, Int.toNat_natCast]
 rwa [e] at this
theorem starD_any {F : Nat → Prop} (p : Nat) (L : List NdD) (a : Nat) (w : World) (h : SD F w p L) (ha : a < L.length) :
  Calls Tryz.prog 48 #[.pointer (some ⟨p, 0, none⟩), .int .i64 a] w (DPost F w p (outD (starP L a))) := by
 have hbd := h.st.inv.2.1
 have := dStar_any p L a w h (by omega)
 have e : starT L a = outD (starP L a) := by
  unfold starT runIds
  have h : okIds L [(a : Int)] = true := by
   unfold okIds
   simp [getP_inC ha]
  rw [if_pos h, Int.toNat_natCast]
 rwa [e] at this
theorem testO_any {F : Nat → Prop} (p : Nat) (L : List NdD) (f n : Int) (hi lo : Nat) (w : World) (h : SD F w p L) (hf : -128 ≤ f ∧ f ≤ 127) (hn : 0 ≤ n ∧ n ≤ 18446744073709551615) (hhi : hi < L.length) (hlo : lo < L.length) :
  Calls Tryz.prog 43 #[.pointer (some ⟨p, 0, none⟩), .int .i8 f, .int .u64 n, .int .i64 hi, .int .i64 lo] w (DPost F w p (outD (testR L (f, n) hi lo))) := by
 have hbd := h.st.inv.2.1
 rw [← testP_outD]
 exact testD_any p L f n hi lo w h hf hn (by omega) (by omega)

set_option maxHeartbeats 8000000 in
set_option maxRecDepth 100000 in
theorem cterm_no (f n : Int) (ks : List Tm) : TermOf (.mk 0 f n ks) := by
 intro r F p m L v w hr h hv hm
 obtain ⟨w0, hx0, hF0, hv0⟩ := id hv
 obtain ⟨cs, rfl, s, hcs, r1, r2, r3, q, len, cap, rfl, hlen, hlc, hcap, hks⟩ := hv0
 subst hcs
 dsimp only [Tm.op, Tm.fld, Tm.n, Tm.kids] at *
 obtain ⟨wA, hA⟩ : ∃ W : World, w.alloc (.cells #[.int .i8 0, .int .i8 f, .int .u64 n, .slice q len cap] 26) = W := ⟨_, rfl⟩
 have xA : Ext w wA := hA ▸ Ext.alloc _ _
 have d0 : wA.cell? ⟨w.heap.size, 0, none⟩ = some (.int .i8 0) := by rw [← hA]; simp [go_sem]
 have d1 : wA.cell? ⟨w.heap.size, 1, none⟩ = some (.int .i8 f) := by rw [← hA]; simp [go_sem]
 have d2 : wA.cell? ⟨w.heap.size, 2, none⟩ = some (.int .u64 n) := by rw [← hA]; simp [go_sem]
 have d3 : wA.cell? ⟨w.heap.size, 3, none⟩ = some (.slice q len cap) := by rw [← hA]; simp [go_sem]
 have sA : wA.heap.size = w.heap.size + 1 := by rw [← hA, World.size_alloc]
 have HXA := Hd (WentC.ofExt (F := F) xA)
 have HS := Hd (h.ext xA)
 have HM := Hd (hm.went HXA.out)
 have HRT := Hd hr
 have HR23 := Hd (And.intro r2 r3)
 have HNF := Hd (show ¬ F w.heap.size from fun e => by have := h.st.lt _ e; omega)
 have HEQ := Hd hA
 have HSZ := Hd sA
 have HC := Hd (cleaf_any p m L [] (.slice none 0 0) wA HS.out HM.out.1 (RowsOn.nil (B := AnyB)) (by simp) (fun r hr => by cases hr))
 have e0 : termC (.mk 0 f n ks) L = leafR L [] := by rw [termC, if_pos rfl]
 rw [e0]
 generalize leafR L [] = R at *
 clear xA hA sA h hv hm hr r1 r2 r3 hx0 hF0 hks hlc hcap hlen e0 d1 d2 d3
 go_enter Tryz.func28, Tryz.ntmps28
 go_upto_region 1 with fail
 rw [HEQ.out]
 clear HEQ
 go_wp2_with fail
 refine HC.out.mono ?_
 intro e w5 hp
 have HP := Hd (CPost.then HXA.out hp)
 rcases hp.pan with ⟨hr0, rfl⟩ | ⟨hr0, rfl⟩
 ·clear hp hr0
  have HFIN := Hd (show CPost F w p R (.returned (.int .i64 R.1.2)) w5 from HP.out)
  clear HP
  generalize R.1.2 = rr at *
  go_wp2_with fail
  go_ret
  exact HFIN.out
 ·clear hp hr0
  go_wp2_with fail
  exact ⟨rfl, HP.out⟩

set_option maxHeartbeats 8000000 in
set_option maxRecDepth 100000 in
theorem cterm_yes (f n : Int) (ks : List Tm) : TermOf (.mk 1 f n ks) := by
 intro r F p m L v w hr h hv hm
 obtain ⟨w0, hx0, hF0, hv0⟩ := id hv
 obtain ⟨cs, rfl, s, hcs, r1, r2, r3, q, len, cap, rfl, hlen, hlc, hcap, hks⟩ := hv0
 subst hcs
 dsimp only [Tm.op, Tm.fld, Tm.n, Tm.kids] at *
 obtain ⟨wA, hA⟩ : ∃ W : World, w.alloc (.cells #[.int .i8 1, .int .i8 f, .int .u64 n, .slice q len cap] 26) = W := ⟨_, rfl⟩
 have xA : Ext w wA := hA ▸ Ext.alloc _ _
 have d0 : wA.cell? ⟨w.heap.size, 0, none⟩ = some (.int .i8 1) := by rw [← hA]; simp [go_sem]
 have d1 : wA.cell? ⟨w.heap.size, 1, none⟩ = some (.int .i8 f) := by rw [← hA]; simp [go_sem]
 have d2 : wA.cell? ⟨w.heap.size, 2, none⟩ = some (.int .u64 n) := by rw [← hA]; simp [go_sem]
 have d3 : wA.cell? ⟨w.heap.size, 3, none⟩ = some (.slice q len cap) := by rw [← hA]; simp [go_sem]
 have sA : wA.heap.size = w.heap.size + 1 := by rw [← hA, World.size_alloc]
 have HXA := Hd (WentC.ofExt (F := F) xA)
 have HS := Hd (h.ext xA)
 have HM := Hd (hm.went HXA.out)
 have HRT := Hd hr
 have HR23 := Hd (And.intro r2 r3)
 have HNF := Hd (show ¬ F w.heap.size from fun e => by have := h.st.lt _ e; omega)
 have HEQ := Hd hA
 have HSZ := Hd sA
 obtain ⟨wB, hB⟩ : ∃ W : World, wA.alloc (.cells #[.slice none 0 0] 78) = W := ⟨_, rfl⟩
 have xB : Ext wA wB := hB ▸ Ext.alloc _ _
 have HXB := Hd xB
 have HXA := Hd (HXA.out.trans (WentC.ofExt (F := F) xB))
 have HC := Hd (cleaf_any p m L [[]] (.slice (some ⟨wA.heap.size, 0, none⟩) 1 1) wB (HS.out.ext xB) (xB.later _ _ HM.out.1) (rowsOneNil (B := AnyB) wB wA.heap.size none (by rw [← hB, World.size_alloc]; omega) trivial (by rw [← hB]; simp [go_sem])) (by simp) (fun r hr => by simp at hr; subst hr; simp))
 have HEB := Hd hB
 have e0 : termC (.mk 1 f n ks) L = leafR L [[]] := by rw [termC, if_neg (by decide), if_pos rfl]
 rw [e0]
 generalize leafR L [[]] = R at *
 clear xA hA sA h hv hm hr r1 r2 r3 hx0 hF0 hks hlc hcap hlen e0 d1 d2 d3 xB hB
 go_enter Tryz.func28, Tryz.ntmps28
 go_upto_region 1 with fail
 rw [HEQ.out]
 clear HEQ
 go_upto_region 5 with fail
 go_wp2_with fail
 try rw [HEB.out]
 refine HC.out.mono ?_
 intro e w5 hp
 have HP := Hd (CPost.then HXA.out hp)
 rcases hp.pan with ⟨hr0, rfl⟩ | ⟨hr0, rfl⟩
 ·clear hp hr0
  have HFIN := Hd (show CPost F w p R (.returned (.int .i64 R.1.2)) w5 from HP.out)
  clear HP
  generalize R.1.2 = rr at *
  go_wp2_with fail
  go_ret
  exact HFIN.out
 ·clear hp hr0
  go_wp2_with fail
  exact ⟨rfl, HP.out⟩

set_option maxHeartbeats 8000000 in
set_option maxRecDepth 100000 in
theorem cterm_set (f n : Int) (ks : List Tm) : TermOf (.mk 7 f n ks) := by
 intro r F p m L v w hr h hv hm
 obtain ⟨w0, hx0, hF0, hv0⟩ := id hv
 obtain ⟨cs, rfl, s, hcs, r1, r2, r3, q, len, cap, rfl, hlen, hlc, hcap, hks⟩ := hv0
 subst hcs
 dsimp only [Tm.op, Tm.fld, Tm.n, Tm.kids] at *
 obtain ⟨wA, hA⟩ : ∃ W : World, w.alloc (.cells #[.int .i8 7, .int .i8 f, .int .u64 n, .slice q len cap] 26) = W := ⟨_, rfl⟩
 have xA : Ext w wA := hA ▸ Ext.alloc _ _
 have d0 : wA.cell? ⟨w.heap.size, 0, none⟩ = some (.int .i8 7) := by rw [← hA]; simp [go_sem]
 have d1 : wA.cell? ⟨w.heap.size, 1, none⟩ = some (.int .i8 f) := by rw [← hA]; simp [go_sem]
 have d2 : wA.cell? ⟨w.heap.size, 2, none⟩ = some (.int .u64 n) := by rw [← hA]; simp [go_sem]
 have d3 : wA.cell? ⟨w.heap.size, 3, none⟩ = some (.slice q len cap) := by rw [← hA]; simp [go_sem]
 have sA : wA.heap.size = w.heap.size + 1 := by rw [← hA, World.size_alloc]
 have HXA := Hd (WentC.ofExt (F := F) xA)
 have HS := Hd (h.ext xA)
 have HM := Hd (hm.went HXA.out)
 have HRT := Hd hr
 have HR23 := Hd (And.intro r2 r3)
 have HNF := Hd (show ¬ F w.heap.size from fun e => by have := h.st.lt _ e; omega)
 have HEQ := Hd hA
 have HSZ := Hd sA
 obtain ⟨wB, hB⟩ : ∃ W : World, wA.alloc (.cells #[.int .i8 0, .int .i8 f, .int .u64 n] 81) = W := ⟨_, rfl⟩
 obtain ⟨wC, hC⟩ : ∃ W : World, wB.alloc (.cells #[.slice (some ⟨wA.heap.size, 0, none⟩) 1 1] 78) = W := ⟨_, rfl⟩
 have xB : Ext wA wB := hB ▸ Ext.alloc _ _
 have xC : Ext wB wC := hC ▸ Ext.alloc _ _
 have sB : wB.heap.size = wA.heap.size + 1 := by rw [← hB, World.size_alloc]
 have sC : wC.heap.size = wA.heap.size + 1 + 1 := by rw [← hC, World.size_alloc, sB]
 have HXA := Hd (HXA.out.trans (WentC.ofExt (F := F) (xB.trans xC)))
 have hrow : RowOn AnyB wC [(⟨0, f, n⟩ : AcD)] (.slice (some ⟨wA.heap.size, 0, none⟩) 1 1) := ⟨_, 1, 1, rfl, rfl, Nat.le_refl _, by omega, (fun x hx => by
  simp at hx; subst hx; exact ⟨by show (-128 : Int) ≤ 0 ∧ (0 : Int) ≤ 127; decide, r2, r3⟩), .inr ⟨wA.heap.size, 0, rfl, trivial, by omega, World.rangeAt.later xC.later (by
   rw [← hB]; exact rangeAt_new wA #[.int .i8 0, .int .i8 f, .int .u64 n] 81)⟩⟩
 have HC := Hd (cleaf_any p m L [[⟨0, f, n⟩]] (.slice (some ⟨wB.heap.size, 0, none⟩) 1 1) wC (HS.out.ext (xB.trans xC)) ((xB.trans xC).later _ _ HM.out.1) (rowsOneRow hrow trivial (by omega) (by rw [← hC]; simp [go_sem])) (by simp) (fun r hr => by simp at hr; subst hr; simp))
 have HEB := Hd (And.intro hB (And.intro hC sB))
 have e0 : termC (.mk 7 f n ks) L = leafR L [[⟨0, f, n⟩]] := by rw [termC, if_neg (by decide), if_neg (by decide), if_neg (by decide), if_neg (by decide), if_neg (by decide), if_neg (by decide), if_neg (by decide), if_neg (by decide)]
 rw [e0]
 generalize leafR L [[⟨0, f, n⟩]] = R at *
 clear xA hA sA h hv hm hr r1 r2 r3 hx0 hF0 hks hlc hcap hlen e0 d3 xB hB xC hC sB sC hrow
 go_enter Tryz.func28, Tryz.ntmps28
 go_upto_region 1 with fail
 rw [HEQ.out]
 clear HEQ
 go_upto_region 20 with fail
 go_wp2_with fail
 try rw [HEB.out.1]
 try rw [HEB.out.2.1]
 try rw [← HEB.out.2.2]
 refine HC.out.mono ?_
 intro e w5 hp
 have HP := Hd (CPost.then HXA.out hp)
 rcases hp.pan with ⟨hr0, rfl⟩ | ⟨hr0, rfl⟩
 ·clear hp hr0
  have HFIN := Hd (show CPost F w p R (.returned (.int .i64 R.1.2)) w5 from HP.out)
  clear HP
  generalize R.1.2 = rr at *
  go_wp2_with fail
  go_ret
  exact HFIN.out
 ·clear hp hr0
  go_wp2_with fail
  exact ⟨rfl, HP.out⟩

set_option maxHeartbeats 8000000 in
set_option maxRecDepth 100000 in
theorem cterm_filter (f n : Int) (ks : List Tm) (IH : ∀ i (h : i < ks.length), TermOf (ks[i])) : TermOf (.mk 6 f n ks) := by
 intro r F p m L v w hr h hv hm
 obtain ⟨w0, hx0, hF0, hv0⟩ := id hv
 obtain ⟨cs, rfl, s, hcs, r1, r2, r3, q, len, cap, rfl, hlen, hlc, hcap, hks⟩ := hv0
 subst hcs
 dsimp only [Tm.op, Tm.fld, Tm.n, Tm.kids] at *
 obtain ⟨wA, hA⟩ : ∃ W : World, w.alloc (.cells #[.int .i8 6, .int .i8 f, .int .u64 n, .slice q len cap] 26) = W := ⟨_, rfl⟩
 have xA : Ext w wA := hA ▸ Ext.alloc _ _
 have d0 : wA.cell? ⟨w.heap.size, 0, none⟩ = some (.int .i8 6) := by rw [← hA]; simp [go_sem]
 have d1 : wA.cell? ⟨w.heap.size, 1, none⟩ = some (.int .i8 f) := by rw [← hA]; simp [go_sem]
 have d2 : wA.cell? ⟨w.heap.size, 2, none⟩ = some (.int .u64 n) := by rw [← hA]; simp [go_sem]
 have d3 : wA.cell? ⟨w.heap.size, 3, none⟩ = some (.slice q len cap) := by rw [← hA]; simp [go_sem]
 have sA : wA.heap.size = w.heap.size + 1 := by rw [← hA, World.size_alloc]
 have HXA := Hd (WentC.ofExt (F := F) xA)
 have HS := Hd (h.ext xA)
 have HM := Hd (hm.went HXA.out)
 have HRT := Hd hr
 have HR23 := Hd (And.intro r2 r3)
 have HNF := Hd (show ¬ F w.heap.size from fun e => by have := h.st.lt _ e; omega)
 have HEQ := Hd hA
 have HSZ := Hd sA
 obtain ⟨hk1, r', hra⟩ := right_kids hr (by omega)
 obtain ⟨b, o, rfl, hat⟩ : ∃ b o, q = some ⟨b, o, none⟩ ∧ Tm.AllAt w0 ks b o := by
  rcases hks with e | h
  ·rw [e] at hk1; simp at hk1
  ·exact h
 have HTS := Hd (show TermsIn F w ks b o from ⟨w0, hx0, hF0, hat⟩)
 have hkw := HTS.out.went HXA.out
 obtain ⟨ok, fk, nk, qk, lk, ek, e0, e1, e2, e3, hvk⟩ := hkw.at 0 (by omega)
 rw [Nat.zero_mul, Nat.add_zero] at e0 e1 e2 e3
 have HC := Hd (IH 0 (by omega) r' F p m L _ wA (Tm.rightAll_get hra 0 (by omega)) HS.out hvk HM.out)
 have e0' : termC (.mk 6 f n ks) L = termC (ks[0]) L := by rw [termC, if_neg (by decide), if_neg (by decide), if_neg (by decide), if_neg (by decide), if_neg (by decide), if_neg (by decide), if_pos rfl, headC_at hk1]
 rw [e0']
 generalize termC (ks[0]) L = R at *
 have hl1 : 0 < len := by omega
 clear xA hA sA h hv hm hr r1 r2 r3 hx0 hF0 hks hlc hcap hlen e0' d1 d2 hat hkw hvk hra IH hk1
 go_enter Tryz.func28, Tryz.ntmps28
 go_upto_region 1 with fail
 rw [HEQ.out]
 clear HEQ
 go_wp2_with fail
 refine HC.out.mono ?_
 intro e w5 hp
 have HP := Hd (CPost.then HXA.out hp)
 rcases hp.pan with ⟨hr0, rfl⟩ | ⟨hr0, rfl⟩
 ·clear hp hr0
  have HFIN := Hd (show CPost F w p R (.returned (.int .i64 R.1.2)) w5 from HP.out)
  clear HP
  generalize R.1.2 = rr at *
  go_wp2_with fail
  go_ret
  exact HFIN.out
 ·clear hp hr0
  go_wp2_with fail
  exact ⟨rfl, HP.out⟩

set_option maxHeartbeats 8000000 in
set_option maxRecDepth 100000 in
theorem cterm_and (f n : Int) (ks : List Tm) (IH : ∀ i (h : i < ks.length), TermOf (ks[i])) : TermOf (.mk 4 f n ks) := by
 intro r F p m L v w hr h hv hm
 obtain ⟨w0, hx0, hF0, hv0⟩ := id hv
 obtain ⟨cs, rfl, s, hcs, r1, r2, r3, q, len, cap, rfl, hlen, hlc, hcap, hks⟩ := hv0
 subst hcs
 dsimp only [Tm.op, Tm.fld, Tm.n, Tm.kids] at *
 obtain ⟨wA, hA⟩ : ∃ W : World, w.alloc (.cells #[.int .i8 4, .int .i8 f, .int .u64 n, .slice q len cap] 26) = W := ⟨_, rfl⟩
 have xA : Ext w wA := hA ▸ Ext.alloc _ _
 have d0 : wA.cell? ⟨w.heap.size, 0, none⟩ = some (.int .i8 4) := by rw [← hA]; simp [go_sem]
 have d1 : wA.cell? ⟨w.heap.size, 1, none⟩ = some (.int .i8 f) := by rw [← hA]; simp [go_sem]
 have d2 : wA.cell? ⟨w.heap.size, 2, none⟩ = some (.int .u64 n) := by rw [← hA]; simp [go_sem]
 have d3 : wA.cell? ⟨w.heap.size, 3, none⟩ = some (.slice q len cap) := by rw [← hA]; simp [go_sem]
 have sA : wA.heap.size = w.heap.size + 1 := by rw [← hA, World.size_alloc]
 have HXA := Hd (WentC.ofExt (F := F) xA)
 have HS := Hd (h.ext xA)
 have HM := Hd (hm.went HXA.out)
 have HRT := Hd hr
 have HR23 := Hd (And.intro r2 r3)
 have HNF := Hd (show ¬ F w.heap.size from fun e => by have := h.st.lt _ e; omega)
 have HEQ := Hd hA
 have HSZ := Hd sA
 obtain ⟨hk1, r', hra⟩ := right_kids hr (by omega)
 obtain ⟨b, o, rfl, hat⟩ : ∃ b o, q = some ⟨b, o, none⟩ ∧ Tm.AllAt w0 ks b o := by
  rcases hks with e | h
  ·rw [e] at hk1; simp at hk1
  ·exact h
 have HTS := Hd (show TermsIn F w ks b o from ⟨w0, hx0, hF0, hat⟩)
 have hkw := HTS.out.went HXA.out
 have HC := Hd (cfold_then ks IH r' F p m L b o cap wA hra hk1 ⟨by omega, hcap⟩ HS.out HM.out hkw)
 rw [← hlen] at HC
 have e0' : termC (.mk 4 f n ks) L = foldC true ks L := by rw [termC, if_neg (by decide), if_neg (by decide), if_neg (by decide), if_neg (by decide), if_pos (by decide)]
 rw [e0']
 generalize foldC true ks L = R at *
 clear xA hA sA h hv hm hr r1 r2 r3 hx0 hF0 hks hlc hcap hlen e0' d1 d2 hat hkw hra IH hk1
 go_enter Tryz.func28, Tryz.ntmps28
 go_upto_region 1 with fail
 rw [HEQ.out]
 clear HEQ
 go_wp2_with fail
 refine HC.out.mono ?_
 intro e w5 hp
 have HP := Hd (CPost.then HXA.out hp)
 rcases hp.pan with ⟨hr0, rfl⟩ | ⟨hr0, rfl⟩
 ·clear hp hr0
  have HFIN := Hd (show CPost F w p R (.returned (.int .i64 R.1.2)) w5 from HP.out)
  clear HP
  generalize R.1.2 = rr at *
  go_wp2_with fail
  go_ret
  exact HFIN.out
 ·clear hp hr0
  go_wp2_with fail
  exact ⟨rfl, HP.out⟩

set_option maxHeartbeats 8000000 in
set_option maxRecDepth 100000 in
theorem cterm_then (f n : Int) (ks : List Tm) (IH : ∀ i (h : i < ks.length), TermOf (ks[i])) : TermOf (.mk 9 f n ks) := by
 intro r F p m L v w hr h hv hm
 obtain ⟨w0, hx0, hF0, hv0⟩ := id hv
 obtain ⟨cs, rfl, s, hcs, r1, r2, r3, q, len, cap, rfl, hlen, hlc, hcap, hks⟩ := hv0
 subst hcs
 dsimp only [Tm.op, Tm.fld, Tm.n, Tm.kids] at *
 obtain ⟨wA, hA⟩ : ∃ W : World, w.alloc (.cells #[.int .i8 9, .int .i8 f, .int .u64 n, .slice q len cap] 26) = W := ⟨_, rfl⟩
 have xA : Ext w wA := hA ▸ Ext.alloc _ _
 have d0 : wA.cell? ⟨w.heap.size, 0, none⟩ = some (.int .i8 9) := by rw [← hA]; simp [go_sem]
 have d1 : wA.cell? ⟨w.heap.size, 1, none⟩ = some (.int .i8 f) := by rw [← hA]; simp [go_sem]
 have d2 : wA.cell? ⟨w.heap.size, 2, none⟩ = some (.int .u64 n) := by rw [← hA]; simp [go_sem]
 have d3 : wA.cell? ⟨w.heap.size, 3, none⟩ = some (.slice q len cap) := by rw [← hA]; simp [go_sem]
 have sA : wA.heap.size = w.heap.size + 1 := by rw [← hA, World.size_alloc]
 have HXA := Hd (WentC.ofExt (F := F) xA)
 have HS := Hd (h.ext xA)
 have HM := Hd (hm.went HXA.out)
 have HRT := Hd hr
 have HR23 := Hd (And.intro r2 r3)
 have HNF := Hd (show ¬ F w.heap.size from fun e => by have := h.st.lt _ e; omega)
 have HEQ := Hd hA
 have HSZ := Hd sA
 obtain ⟨hk1, r', hra⟩ := right_kids hr (by omega)
 obtain ⟨b, o, rfl, hat⟩ : ∃ b o, q = some ⟨b, o, none⟩ ∧ Tm.AllAt w0 ks b o := by
  rcases hks with e | h
  ·rw [e] at hk1; simp at hk1
  ·exact h
 have HTS := Hd (show TermsIn F w ks b o from ⟨w0, hx0, hF0, hat⟩)
 have hkw := HTS.out.went HXA.out
 have HC := Hd (cfold_then ks IH r' F p m L b o cap wA hra hk1 ⟨by omega, hcap⟩ HS.out HM.out hkw)
 rw [← hlen] at HC
 have e0' : termC (.mk 9 f n ks) L = foldC true ks L := by rw [termC, if_neg (by decide), if_neg (by decide), if_neg (by decide), if_neg (by decide), if_pos (by decide)]
 rw [e0']
 generalize foldC true ks L = R at *
 clear xA hA sA h hv hm hr r1 r2 r3 hx0 hF0 hks hlc hcap hlen e0' d1 d2 hat hkw hra IH hk1
 go_enter Tryz.func28, Tryz.ntmps28
 go_upto_region 1 with fail
 rw [HEQ.out]
 clear HEQ
 go_wp2_with fail
 refine HC.out.mono ?_
 intro e w5 hp
 have HP := Hd (CPost.then HXA.out hp)
 rcases hp.pan with ⟨hr0, rfl⟩ | ⟨hr0, rfl⟩
 ·clear hp hr0
  have HFIN := Hd (show CPost F w p R (.returned (.int .i64 R.1.2)) w5 from HP.out)
  clear HP
  generalize R.1.2 = rr at *
  go_wp2_with fail
  go_ret
  exact HFIN.out
 ·clear hp hr0
  go_wp2_with fail
  exact ⟨rfl, HP.out⟩

set_option maxHeartbeats 8000000 in
set_option maxRecDepth 100000 in
theorem cterm_or (f n : Int) (ks : List Tm) (IH : ∀ i (h : i < ks.length), TermOf (ks[i])) : TermOf (.mk 5 f n ks) := by
 intro r F p m L v w hr h hv hm
 obtain ⟨w0, hx0, hF0, hv0⟩ := id hv
 obtain ⟨cs, rfl, s, hcs, r1, r2, r3, q, len, cap, rfl, hlen, hlc, hcap, hks⟩ := hv0
 subst hcs
 dsimp only [Tm.op, Tm.fld, Tm.n, Tm.kids] at *
 obtain ⟨wA, hA⟩ : ∃ W : World, w.alloc (.cells #[.int .i8 5, .int .i8 f, .int .u64 n, .slice q len cap] 26) = W := ⟨_, rfl⟩
 have xA : Ext w wA := hA ▸ Ext.alloc _ _
 have d0 : wA.cell? ⟨w.heap.size, 0, none⟩ = some (.int .i8 5) := by rw [← hA]; simp [go_sem]
 have d1 : wA.cell? ⟨w.heap.size, 1, none⟩ = some (.int .i8 f) := by rw [← hA]; simp [go_sem]
 have d2 : wA.cell? ⟨w.heap.size, 2, none⟩ = some (.int .u64 n) := by rw [← hA]; simp [go_sem]
 have d3 : wA.cell? ⟨w.heap.size, 3, none⟩ = some (.slice q len cap) := by rw [← hA]; simp [go_sem]
 have sA : wA.heap.size = w.heap.size + 1 := by rw [← hA, World.size_alloc]
 have HXA := Hd (WentC.ofExt (F := F) xA)
 have HS := Hd (h.ext xA)
 have HM := Hd (hm.went HXA.out)
 have HRT := Hd hr
 have HR23 := Hd (And.intro r2 r3)
 have HNF := Hd (show ¬ F w.heap.size from fun e => by have := h.st.lt _ e; omega)
 have HEQ := Hd hA
 have HSZ := Hd sA
 obtain ⟨hk1, r', hra⟩ := right_kids hr (by omega)
 obtain ⟨b, o, rfl, hat⟩ : ∃ b o, q = some ⟨b, o, none⟩ ∧ Tm.AllAt w0 ks b o := by
  rcases hks with e | h
  ·rw [e] at hk1; simp at hk1
  ·exact h
 have HTS := Hd (show TermsIn F w ks b o from ⟨w0, hx0, hF0, hat⟩)
 have hkw := HTS.out.went HXA.out
 have HC := Hd (cfold_union ks IH r' F p m L b o cap wA hra hk1 ⟨by omega, hcap⟩ HS.out HM.out hkw)
 rw [← hlen] at HC
 have e0' : termC (.mk 5 f n ks) L = foldC false ks L := by rw [termC, if_neg (by decide), if_neg (by decide), if_neg (by decide), if_neg (by decide), if_neg (by decide), if_pos (by decide)]
 rw [e0']
 generalize foldC false ks L = R at *
 clear xA hA sA h hv hm hr r1 r2 r3 hx0 hF0 hks hlc hcap hlen e0' d1 d2 hat hkw hra IH hk1
 go_enter Tryz.func28, Tryz.ntmps28
 go_upto_region 1 with fail
 rw [HEQ.out]
 clear HEQ
 go_wp2_with fail
 refine HC.out.mono ?_
 intro e w5 hp
 have HP := Hd (CPost.then HXA.out hp)
 rcases hp.pan with ⟨hr0, rfl⟩ | ⟨hr0, rfl⟩
 ·clear hp hr0
  have HFIN := Hd (show CPost F w p R (.returned (.int .i64 R.1.2)) w5 from HP.out)
  clear HP
  generalize R.1.2 = rr at *
  go_wp2_with fail
  go_ret
  exact HFIN.out
 ·clear hp hr0
  go_wp2_with fail
  exact ⟨rfl, HP.out⟩

set_option maxHeartbeats 8000000 in
set_option maxRecDepth 100000 in
theorem cterm_union (f n : Int) (ks : List Tm) (IH : ∀ i (h : i < ks.length), TermOf (ks[i])) : TermOf (.mk 8 f n ks) := by
 intro r F p m L v w hr h hv hm
 obtain ⟨w0, hx0, hF0, hv0⟩ := id hv
 obtain ⟨cs, rfl, s, hcs, r1, r2, r3, q, len, cap, rfl, hlen, hlc, hcap, hks⟩ := hv0
 subst hcs
 dsimp only [Tm.op, Tm.fld, Tm.n, Tm.kids] at *
 obtain ⟨wA, hA⟩ : ∃ W : World, w.alloc (.cells #[.int .i8 8, .int .i8 f, .int .u64 n, .slice q len cap] 26) = W := ⟨_, rfl⟩
 have xA : Ext w wA := hA ▸ Ext.alloc _ _
 have d0 : wA.cell? ⟨w.heap.size, 0, none⟩ = some (.int .i8 8) := by rw [← hA]; simp [go_sem]
 have d1 : wA.cell? ⟨w.heap.size, 1, none⟩ = some (.int .i8 f) := by rw [← hA]; simp [go_sem]
 have d2 : wA.cell? ⟨w.heap.size, 2, none⟩ = some (.int .u64 n) := by rw [← hA]; simp [go_sem]
 have d3 : wA.cell? ⟨w.heap.size, 3, none⟩ = some (.slice q len cap) := by rw [← hA]; simp [go_sem]
 have sA : wA.heap.size = w.heap.size + 1 := by rw [← hA, World.size_alloc]
 have HXA := Hd (WentC.ofExt (F := F) xA)
 have HS := Hd (h.ext xA)
 have HM := Hd (hm.went HXA.out)
 have HRT := Hd hr
 have HR23 := Hd (And.intro r2 r3)
 have HNF := Hd (show ¬ F w.heap.size from fun e => by have := h.st.lt _ e; omega)
 have HEQ := Hd hA
 have HSZ := Hd sA
 obtain ⟨hk1, r', hra⟩ := right_kids hr (by omega)
 obtain ⟨b, o, rfl, hat⟩ : ∃ b o, q = some ⟨b, o, none⟩ ∧ Tm.AllAt w0 ks b o := by
  rcases hks with e | h
  ·rw [e] at hk1; simp at hk1
  ·exact h
 have HTS := Hd (show TermsIn F w ks b o from ⟨w0, hx0, hF0, hat⟩)
 have hkw := HTS.out.went HXA.out
 have HC := Hd (cfold_union ks IH r' F p m L b o cap wA hra hk1 ⟨by omega, hcap⟩ HS.out HM.out hkw)
 rw [← hlen] at HC
 have e0' : termC (.mk 8 f n ks) L = foldC false ks L := by rw [termC, if_neg (by decide), if_neg (by decide), if_neg (by decide), if_neg (by decide), if_neg (by decide), if_pos (by decide)]
 rw [e0']
 generalize foldC false ks L = R at *
 clear xA hA sA h hv hm hr r1 r2 r3 hx0 hF0 hks hlc hcap hlen e0' d1 d2 hat hkw hra IH hk1
 go_enter Tryz.func28, Tryz.ntmps28
 go_upto_region 1 with fail
 rw [HEQ.out]
 clear HEQ
 go_wp2_with fail
 refine HC.out.mono ?_
 intro e w5 hp
 have HP := Hd (CPost.then HXA.out hp)
 rcases hp.pan with ⟨hr0, rfl⟩ | ⟨hr0, rfl⟩
 ·clear hp hr0
  have HFIN := Hd (show CPost F w p R (.returned (.int .i64 R.1.2)) w5 from HP.out)
  clear HP
  generalize R.1.2 = rr at *
  go_wp2_with fail
  go_ret
  exact HFIN.out
 ·clear hp hr0
  go_wp2_with fail
  exact ⟨rfl, HP.out⟩

set_option maxHeartbeats 8000000 in
set_option maxRecDepth 100000 in
theorem cterm_not (f n : Int) (ks : List Tm) (IH : ∀ i (h : i < ks.length), TermOf (ks[i])) : TermOf (.mk 3 f n ks) := by
 intro r F p m L v w hr h hv hm
 obtain ⟨w0, hx0, hF0, hv0⟩ := id hv
 obtain ⟨cs, rfl, s, hcs, r1, r2, r3, q, len, cap, rfl, hlen, hlc, hcap, hks⟩ := hv0
 subst hcs
 dsimp only [Tm.op, Tm.fld, Tm.n, Tm.kids] at *
 obtain ⟨wA, hA⟩ : ∃ W : World, w.alloc (.cells #[.int .i8 3, .int .i8 f, .int .u64 n, .slice q len cap] 26) = W := ⟨_, rfl⟩
 have xA : Ext w wA := hA ▸ Ext.alloc _ _
 have d0 : wA.cell? ⟨w.heap.size, 0, none⟩ = some (.int .i8 3) := by rw [← hA]; simp [go_sem]
 have d1 : wA.cell? ⟨w.heap.size, 1, none⟩ = some (.int .i8 f) := by rw [← hA]; simp [go_sem]
 have d2 : wA.cell? ⟨w.heap.size, 2, none⟩ = some (.int .u64 n) := by rw [← hA]; simp [go_sem]
 have d3 : wA.cell? ⟨w.heap.size, 3, none⟩ = some (.slice q len cap) := by rw [← hA]; simp [go_sem]
 have sA : wA.heap.size = w.heap.size + 1 := by rw [← hA, World.size_alloc]
 have HXA := Hd (WentC.ofExt (F := F) xA)
 have HS := Hd (h.ext xA)
 have HM := Hd (hm.went HXA.out)
 have HRT := Hd hr
 have HR23 := Hd (And.intro r2 r3)
 have HNF := Hd (show ¬ F w.heap.size from fun e => by have := h.st.lt _ e; omega)
 have HEQ := Hd hA
 have HSZ := Hd sA
 obtain ⟨hk1, r', hra⟩ := right_kids hr (by omega)
 obtain ⟨b, o, rfl, hat⟩ : ∃ b o, q = some ⟨b, o, none⟩ ∧ Tm.AllAt w0 ks b o := by
  rcases hks with e | h
  ·rw [e] at hk1; simp at hk1
  ·exact h
 have HTS := Hd (show TermsIn F w ks b o from ⟨w0, hx0, hF0, hat⟩)
 have hkw := HTS.out.went HXA.out
 obtain ⟨ok, fk, nk, qk, lk, ek, e0, e1, e2, e3, hvk⟩ := hkw.at 0 (by omega)
 rw [Nat.zero_mul, Nat.add_zero] at e0 e1 e2 e3
 have hnb := hkw.nf hk1
 obtain ⟨R1, hR1⟩ : ∃ R1, R1 = termC (ks[0]) L := ⟨_, rfl⟩
 obtain ⟨R2, hR2⟩ : ∃ R2, R2 = notP (R1.1.2 + 1) R1.2 R1.1.2 := ⟨_, rfl⟩
 obtain ⟨R, hR⟩ : ∃ R, R = termC (.mk 3 f n ks) L := ⟨_, rfl⟩
 rw [← hR]
 have HRR := Hd (show R = (if R1.1.1 = 0 then R2 else R1) from by
  rw [hR, termC, if_neg (by decide), if_neg (by decide), if_neg (by decide), if_pos rfl, headC_at hk1, ← hR1]
  unfold bindR
  dsimp only
  rw [← hR2])
 have xd : Ext wA wA.drew := Ext.drew _
 have HWD := Hd (WentC.ofExt (F := F) xd)
 have HC1 := Hd (show Calls Tryz.prog 28 #[.pointer (some ⟨m, 0, none⟩), .agg #[.int .i8 ok, .int .i8 fk, .int .u64 nk, .slice qk lk ek]] wA.drew (CPost F wA.drew p R1) from by
  rw [hR1]; exact IH 0 (by omega) r' F p m L _ wA.drew (Tm.rightAll_get hra 0 (by omega)) (HS.out.ext xd) (hvk.went HWD.out) (HM.out.went HWD.out))
 have HFN1 := Hd (show Fine L R1 from by rw [hR1]; exact termC_fine _ HS.out.inv)
 have HC2 := Hd (show ∀ F1 W, R1.1.1 = 0 → SD F1 W p R1.2 → Calls Tryz.prog 44 #[.pointer (some ⟨p, 0, none⟩), .int .i64 R1.1.2] W (DPost F1 W p (outD R2)) from fun F1 W h hs => by
  rw [hR2]
  exact notD_any p R1.2 R1.1.2 W hs (HFN1.out.lt h))
 have HSW := Hd (show ∀ (F2 : Nat → Prop) (W : World), WentC F wA F2 W → (fun W : World => W.cell? ⟨m, 0, none⟩ = some (.pointer (some ⟨p, 0, none⟩)) ∧ W.cell? ⟨w.heap.size, 3, none⟩ = some (.slice (some ⟨b, o, none⟩) len cap) ∧ W.cell? ⟨b, o, none⟩ = some (.int .i8 ok) ∧ W.cell? ⟨b, o + 1, none⟩ = some (.int .i8 fk) ∧ W.cell? ⟨b, o + 2, none⟩ = some (.int .u64 nk) ∧ W.cell? ⟨b, o + 3, none⟩ = some (.slice qk lk ek)) W from fun F2 W hw =>
  ⟨hw.cell HM.out.1 HM.out.2, hw.cell d3 HNF.out, hw.cell e0 hnb, hw.cell e1 hnb, hw.cell e2 hnb, hw.cell e3 hnb⟩)
 have hS0 := HSW.out F wA.drew HWD.out
 have hl1 : 0 < len := by omega
 clear xA hA sA h hv hm hr r1 r2 r3 hx0 hF0 hks hlc hcap hlen d1 d2 hat hkw hvk hra IH hk1 hR hR1 hR2 xd hnb
 go_enter Tryz.func28, Tryz.ntmps28
 go_upto_region 1 with fail
 rw [HEQ.out]
 clear HEQ
 go_upto_region 9 with fail
 clear e0 e1 e2 e3 d0 d3
 refine wp_region_held_drew (S := (fun W : World => W.cell? ⟨m, 0, none⟩ = some (.pointer (some ⟨p, 0, none⟩)) ∧ W.cell? ⟨w.heap.size, 3, none⟩ = some (.slice (some ⟨b, o, none⟩) len cap) ∧ W.cell? ⟨b, o, none⟩ = some (.int .i8 ok) ∧ W.cell? ⟨b, o + 1, none⟩ = some (.int .i8 fk) ∧ W.cell? ⟨b, o + 2, none⟩ = some (.int .u64 nk) ∧ W.cell? ⟨b, o + 3, none⟩ = some (.slice qk lk ek))) (by kernel_rfl) (hS0) (fun hHeld => ?_)
 refine tk 0 (.pointer (some ⟨m, 0, none⟩)) ?_
 try simp only [tkN]
 refine tk 1 (.pointer (some ⟨m, 0, none⟩)) ?_
 try simp only [tkN]
 refine tk 2 (.pointer (some ⟨m, 0, none⟩)) ?_
 try simp only [tkN]
 refine tk 3 (.pointer (some ⟨p, 0, none⟩)) ?_
 try simp only [tkN]
 refine tk 4 (.pointer (some ⟨m, 0, none⟩)) ?_
 try simp only [tkN]
 refine tk 5 (.pointer (some ⟨w.heap.size, 3, none⟩)) ?_
 try simp only [tkN]
 refine tk 6 (.slice (some ⟨b, o, none⟩) len cap) ?_
 try simp only [tkN]
 refine tk 7 (.pointer (some ⟨b, o, none⟩)) ?_
 try simp only [tkN]
 refine tk 8 (.agg #[.int .i8 ok, .int .i8 fk, .int .u64 nk, .slice qk lk ek]) ?_
 try simp only [tkN]
 refine tk1 9 rfl (AllReadyH.cons rfl (fun K hK => ?_) AllReadyH.nil)
 go_simp
 go_at_call 28
 refine (HC1.out).mono ?_
 rintro e w11 ⟨he, F11, hs11, hsub11, hkp11⟩
 have we11 : WentC F wA F11 w11 := HWD.out.trans ⟨hsub11, hkp11⟩
 have hw := HXA.out.trans we11
 by_cases r11 : R1.1.1 = 0
 case neg =>
  rw [endC_no r11] at he
  subst he
  have HFIN := Hd (show CPost F w p R (.panicked (wrongC R1.1.1)) w11 from by
   rw [HRR.out, if_neg r11]
   exact ⟨(endC_no r11 _).symm, F11, hs11, hw.1, hw.2⟩)
  go_wp2_with fail
  exact ⟨rfl, HFIN.out⟩
 rw [r11, endC_ok] at he
 subst he
 clear hw
 refine hK.out _ _ (HSW.out F11 w11 we11) (fun hh11 => ?_)
 clear hK K
 try simp only [tkN]
 refine tk1 10 rfl (AllReadyH.cons rfl (fun K hK => ?_) AllReadyH.nil)
 go_simp
 go_at_call 44
 refine (HC2.out F11 w11 r11 hs11).mono ?_
 rintro e w12 ⟨rfl, F12, hs12, hsub12, hkp12⟩
 have we12 : WentC F wA F12 w12 := we11.trans ⟨hsub12, hkp12⟩
 have hw := HXA.out.trans we12
 refine hK.out _ _ (HSW.out F12 w12 we12) (fun hh12 => ?_)
 clear hK K
 try simp only [tkN]
 refine tk 11 (.int .i64 (outD R2).1.1) ?_
 try simp only [tkN]
 refine tk 12 (.int .i64 (outD R2).1.2) ?_
 try simp only [tkN]
 refine tk1 13 rfl (AllReadyH.cons rfl (fun K hK => ?_) AllReadyH.nil)
 go_simp
 go_at_call 42
 refine (cmust_any (outD R2).1.1 (outD R2).1.2 w12).mono ?_
 rintro e w13 ⟨he, rfl⟩
 have he : e = endC R2.1.1 (.int .i64 (outD R2).1.1) := he
 have hs12 : SD F12 w12 p R2.2 := hs12
 by_cases r13 : R2.1.1 = 0
 case neg =>
  rw [endC_no r13] at he
  subst he
  have HFIN := Hd (show CPost F w p R (.panicked (wrongC R2.1.1)) w12 from by
   rw [HRR.out, if_pos r11]
   exact ⟨(endC_no r13 _).symm, F12, hs12, hw.1, hw.2⟩)
  go_wp2_with fail
  exact ⟨rfl, HFIN.out⟩
 rw [r13, endC_ok, show (outD R2).1.1 = (R2.1.2 : Int) from if_pos r13] at he
 subst he
 refine hK.out _ _ (HSW.out F12 w12 we12) (fun hh13 => ?_)
 clear hK K
 try simp only [tkN]
 refine tk 14 (.int .i64 R2.1.2) ?_
 try simp only [tkN]
 refine wpAnyH_done (by kernel_rfl) ?_ _
 have HFIN := Hd (show CPost F w p R (.returned (.int .i64 R2.1.2)) w12 from by
  rw [HRR.out, if_pos r11]
  refine ⟨?_, F12, hs12, hw.1, hw.2⟩
  rw [r13]
  exact (endC_ok _).symm)
 clear r13
 go_wp2_with fail
 go_ret
 exact HFIN.out

set_option maxHeartbeats 8000000 in
set_option maxRecDepth 100000 in
theorem cterm_star (f n : Int) (ks : List Tm) (IH : ∀ i (h : i < ks.length), TermOf (ks[i])) : TermOf (.mk 10 f n ks) := by
 intro r F p m L v w hr h hv hm
 obtain ⟨w0, hx0, hF0, hv0⟩ := id hv
 obtain ⟨cs, rfl, s, hcs, r1, r2, r3, q, len, cap, rfl, hlen, hlc, hcap, hks⟩ := hv0
 subst hcs
 dsimp only [Tm.op, Tm.fld, Tm.n, Tm.kids] at *
 obtain ⟨wA, hA⟩ : ∃ W : World, w.alloc (.cells #[.int .i8 10, .int .i8 f, .int .u64 n, .slice q len cap] 26) = W := ⟨_, rfl⟩
 have xA : Ext w wA := hA ▸ Ext.alloc _ _
 have d0 : wA.cell? ⟨w.heap.size, 0, none⟩ = some (.int .i8 10) := by rw [← hA]; simp [go_sem]
 have d1 : wA.cell? ⟨w.heap.size, 1, none⟩ = some (.int .i8 f) := by rw [← hA]; simp [go_sem]
 have d2 : wA.cell? ⟨w.heap.size, 2, none⟩ = some (.int .u64 n) := by rw [← hA]; simp [go_sem]
 have d3 : wA.cell? ⟨w.heap.size, 3, none⟩ = some (.slice q len cap) := by rw [← hA]; simp [go_sem]
 have sA : wA.heap.size = w.heap.size + 1 := by rw [← hA, World.size_alloc]
 have HXA := Hd (WentC.ofExt (F := F) xA)
 have HS := Hd (h.ext xA)
 have HM := Hd (hm.went HXA.out)
 have HRT := Hd hr
 have HR23 := Hd (And.intro r2 r3)
 have HNF := Hd (show ¬ F w.heap.size from fun e => by have := h.st.lt _ e; omega)
 have HEQ := Hd hA
 have HSZ := Hd sA
 obtain ⟨hk1, r', hra⟩ := right_kids hr (by omega)
 obtain ⟨b, o, rfl, hat⟩ : ∃ b o, q = some ⟨b, o, none⟩ ∧ Tm.AllAt w0 ks b o := by
  rcases hks with e | h
  ·rw [e] at hk1; simp at hk1
  ·exact h
 have HTS := Hd (show TermsIn F w ks b o from ⟨w0, hx0, hF0, hat⟩)
 have hkw := HTS.out.went HXA.out
 obtain ⟨ok, fk, nk, qk, lk, ek, e0, e1, e2, e3, hvk⟩ := hkw.at 0 (by omega)
 rw [Nat.zero_mul, Nat.add_zero] at e0 e1 e2 e3
 have hnb := hkw.nf hk1
 obtain ⟨R1, hR1⟩ : ∃ R1, R1 = termC (ks[0]) L := ⟨_, rfl⟩
 obtain ⟨R2, hR2⟩ : ∃ R2, R2 = starP R1.2 R1.1.2 := ⟨_, rfl⟩
 obtain ⟨R, hR⟩ : ∃ R, R = termC (.mk 10 f n ks) L := ⟨_, rfl⟩
 rw [← hR]
 have HRR := Hd (show R = (if R1.1.1 = 0 then R2 else R1) from by
  rw [hR, termC, if_neg (by decide), if_neg (by decide), if_neg (by decide), if_neg (by decide), if_neg (by decide), if_neg (by decide), if_neg (by decide), if_pos rfl, headC_at hk1, ← hR1]
  unfold bindR
  dsimp only
  rw [← hR2])
 have xd : Ext wA wA.drew := Ext.drew _
 have HWD := Hd (WentC.ofExt (F := F) xd)
 have HC1 := Hd (show Calls Tryz.prog 28 #[.pointer (some ⟨m, 0, none⟩), .agg #[.int .i8 ok, .int .i8 fk, .int .u64 nk, .slice qk lk ek]] wA.drew (CPost F wA.drew p R1) from by
  rw [hR1]; exact IH 0 (by omega) r' F p m L _ wA.drew (Tm.rightAll_get hra 0 (by omega)) (HS.out.ext xd) (hvk.went HWD.out) (HM.out.went HWD.out))
 have HFN1 := Hd (show Fine L R1 from by rw [hR1]; exact termC_fine _ HS.out.inv)
 have HC2 := Hd (show ∀ F1 W, R1.1.1 = 0 → SD F1 W p R1.2 → Calls Tryz.prog 48 #[.pointer (some ⟨p, 0, none⟩), .int .i64 R1.1.2] W (DPost F1 W p (outD R2)) from fun F1 W h hs => by
  rw [hR2]
  exact starD_any p R1.2 R1.1.2 W hs (HFN1.out.lt h))
 have HSW := Hd (show ∀ (F2 : Nat → Prop) (W : World), WentC F wA F2 W → (fun W : World => W.cell? ⟨m, 0, none⟩ = some (.pointer (some ⟨p, 0, none⟩)) ∧ W.cell? ⟨w.heap.size, 3, none⟩ = some (.slice (some ⟨b, o, none⟩) len cap) ∧ W.cell? ⟨b, o, none⟩ = some (.int .i8 ok) ∧ W.cell? ⟨b, o + 1, none⟩ = some (.int .i8 fk) ∧ W.cell? ⟨b, o + 2, none⟩ = some (.int .u64 nk) ∧ W.cell? ⟨b, o + 3, none⟩ = some (.slice qk lk ek)) W from fun F2 W hw =>
  ⟨hw.cell HM.out.1 HM.out.2, hw.cell d3 HNF.out, hw.cell e0 hnb, hw.cell e1 hnb, hw.cell e2 hnb, hw.cell e3 hnb⟩)
 have hS0 := HSW.out F wA.drew HWD.out
 have hl1 : 0 < len := by omega
 clear xA hA sA h hv hm hr r1 r2 r3 hx0 hF0 hks hlc hcap hlen d1 d2 hat hkw hvk hra IH hk1 hR hR1 hR2 xd hnb
 go_enter Tryz.func28, Tryz.ntmps28
 go_upto_region 1 with fail
 rw [HEQ.out]
 clear HEQ
 go_upto_region 19 with fail
 clear e0 e1 e2 e3 d0 d3
 refine wp_region_held_drew (S := (fun W : World => W.cell? ⟨m, 0, none⟩ = some (.pointer (some ⟨p, 0, none⟩)) ∧ W.cell? ⟨w.heap.size, 3, none⟩ = some (.slice (some ⟨b, o, none⟩) len cap) ∧ W.cell? ⟨b, o, none⟩ = some (.int .i8 ok) ∧ W.cell? ⟨b, o + 1, none⟩ = some (.int .i8 fk) ∧ W.cell? ⟨b, o + 2, none⟩ = some (.int .u64 nk) ∧ W.cell? ⟨b, o + 3, none⟩ = some (.slice qk lk ek))) (by kernel_rfl) (hS0) (fun hHeld => ?_)
 refine tk 0 (.pointer (some ⟨m, 0, none⟩)) ?_
 try simp only [tkN]
 refine tk 1 (.pointer (some ⟨m, 0, none⟩)) ?_
 try simp only [tkN]
 refine tk 2 (.pointer (some ⟨m, 0, none⟩)) ?_
 try simp only [tkN]
 refine tk 3 (.pointer (some ⟨p, 0, none⟩)) ?_
 try simp only [tkN]
 refine tk 4 (.pointer (some ⟨m, 0, none⟩)) ?_
 try simp only [tkN]
 refine tk 5 (.pointer (some ⟨w.heap.size, 3, none⟩)) ?_
 try simp only [tkN]
 refine tk 6 (.slice (some ⟨b, o, none⟩) len cap) ?_
 try simp only [tkN]
 refine tk 7 (.pointer (some ⟨b, o, none⟩)) ?_
 try simp only [tkN]
 refine tk 8 (.agg #[.int .i8 ok, .int .i8 fk, .int .u64 nk, .slice qk lk ek]) ?_
 try simp only [tkN]
 refine tk1 9 rfl (AllReadyH.cons rfl (fun K hK => ?_) AllReadyH.nil)
 go_simp
 go_at_call 28
 refine (HC1.out).mono ?_
 rintro e w11 ⟨he, F11, hs11, hsub11, hkp11⟩
 have we11 : WentC F wA F11 w11 := HWD.out.trans ⟨hsub11, hkp11⟩
 have hw := HXA.out.trans we11
 by_cases r11 : R1.1.1 = 0
 case neg =>
  rw [endC_no r11] at he
  subst he
  have HFIN := Hd (show CPost F w p R (.panicked (wrongC R1.1.1)) w11 from by
   rw [HRR.out, if_neg r11]
   exact ⟨(endC_no r11 _).symm, F11, hs11, hw.1, hw.2⟩)
  go_wp2_with fail
  exact ⟨rfl, HFIN.out⟩
 rw [r11, endC_ok] at he
 subst he
 clear hw
 refine hK.out _ _ (HSW.out F11 w11 we11) (fun hh11 => ?_)
 clear hK K
 try simp only [tkN]
 refine tk1 10 rfl (AllReadyH.cons rfl (fun K hK => ?_) AllReadyH.nil)
 go_simp
 go_at_call 48
 refine (HC2.out F11 w11 r11 hs11).mono ?_
 rintro e w12 ⟨rfl, F12, hs12, hsub12, hkp12⟩
 have we12 : WentC F wA F12 w12 := we11.trans ⟨hsub12, hkp12⟩
 have hw := HXA.out.trans we12
 refine hK.out _ _ (HSW.out F12 w12 we12) (fun hh12 => ?_)
 clear hK K
 try simp only [tkN]
 refine tk 11 (.int .i64 (outD R2).1.1) ?_
 try simp only [tkN]
 refine tk 12 (.int .i64 (outD R2).1.2) ?_
 try simp only [tkN]
 refine tk1 13 rfl (AllReadyH.cons rfl (fun K hK => ?_) AllReadyH.nil)
 go_simp
 go_at_call 42
 refine (cmust_any (outD R2).1.1 (outD R2).1.2 w12).mono ?_
 rintro e w13 ⟨he, rfl⟩
 have he : e = endC R2.1.1 (.int .i64 (outD R2).1.1) := he
 have hs12 : SD F12 w12 p R2.2 := hs12
 by_cases r13 : R2.1.1 = 0
 case neg =>
  rw [endC_no r13] at he
  subst he
  have HFIN := Hd (show CPost F w p R (.panicked (wrongC R2.1.1)) w12 from by
   rw [HRR.out, if_pos r11]
   exact ⟨(endC_no r13 _).symm, F12, hs12, hw.1, hw.2⟩)
  go_wp2_with fail
  exact ⟨rfl, HFIN.out⟩
 rw [r13, endC_ok, show (outD R2).1.1 = (R2.1.2 : Int) from if_pos r13] at he
 subst he
 refine hK.out _ _ (HSW.out F12 w12 we12) (fun hh13 => ?_)
 clear hK K
 try simp only [tkN]
 refine tk 14 (.int .i64 R2.1.2) ?_
 try simp only [tkN]
 refine wpAnyH_done (by kernel_rfl) ?_ _
 have HFIN := Hd (show CPost F w p R (.returned (.int .i64 R2.1.2)) w12 from by
  rw [HRR.out, if_pos r11]
  refine ⟨?_, F12, hs12, hw.1, hw.2⟩
  rw [r13]
  exact (endC_ok _).symm)
 clear r13
 go_wp2_with fail
 go_ret
 exact HFIN.out

set_option maxHeartbeats 8000000 in
set_option maxRecDepth 100000 in
theorem cterm_is (f n : Int) (ks : List Tm) : TermOf (.mk 2 f n ks) := by
 intro r F p m L v w hr h hv hm
 obtain ⟨w0, hx0, hF0, hv0⟩ := id hv
 obtain ⟨cs, rfl, s, hcs, r1, r2, r3, q, len, cap, rfl, hlen, hlc, hcap, hks⟩ := hv0
 subst hcs
 dsimp only [Tm.op, Tm.fld, Tm.n, Tm.kids] at *
 obtain ⟨wA, hA⟩ : ∃ W : World, w.alloc (.cells #[.int .i8 2, .int .i8 f, .int .u64 n, .slice q len cap] 26) = W := ⟨_, rfl⟩
 have xA : Ext w wA := hA ▸ Ext.alloc _ _
 have d0 : wA.cell? ⟨w.heap.size, 0, none⟩ = some (.int .i8 2) := by rw [← hA]; simp [go_sem]
 have d1 : wA.cell? ⟨w.heap.size, 1, none⟩ = some (.int .i8 f) := by rw [← hA]; simp [go_sem]
 have d2 : wA.cell? ⟨w.heap.size, 2, none⟩ = some (.int .u64 n) := by rw [← hA]; simp [go_sem]
 have d3 : wA.cell? ⟨w.heap.size, 3, none⟩ = some (.slice q len cap) := by rw [← hA]; simp [go_sem]
 have sA : wA.heap.size = w.heap.size + 1 := by rw [← hA, World.size_alloc]
 have HXA := Hd (WentC.ofExt (F := F) xA)
 have HS := Hd (h.ext xA)
 have HM := Hd (hm.went HXA.out)
 have HRT := Hd hr
 have HR23 := Hd (And.intro r2 r3)
 have HNF := Hd (show ¬ F w.heap.size from fun e => by have := h.st.lt _ e; omega)
 have HEQ := Hd hA
 have HSZ := Hd sA
 obtain ⟨R1, hR1⟩ : ∃ R1, R1 = leafR L [[]] := ⟨_, rfl⟩
 obtain ⟨R2, hR2⟩ : ∃ R2, R2 = leafR R1.2 [] := ⟨_, rfl⟩
 obtain ⟨R3, hR3⟩ : ∃ R3, R3 = testR R2.2 (f, n) R1.1.2 R2.1.2 := ⟨_, rfl⟩
 obtain ⟨R, hR⟩ : ∃ R, R = termC (.mk 2 f n ks) L := ⟨_, rfl⟩
 rw [← hR]
 have HRR := Hd (show R = (if R1.1.1 = 0 then (if R2.1.1 = 0 then R3 else R2) else R1) from by
  rw [hR, termC, if_neg (by decide), if_neg (by decide), if_pos rfl, ← hR1]
  unfold bindR
  dsimp only
  rw [← hR2, ← hR3])
 have HFN1 := Hd (show Fine L R1 from by rw [hR1]; exact leafR_fine HS.out.inv _)
 have HFN2 := Hd (show Fine R1.2 R2 from by rw [hR2]; exact leafR_fine HFN1.out.inv _)
 obtain ⟨wB, hB⟩ : ∃ W : World, (wA.alloc (.cells #[.slice none 0 0] 78)).drew = W := ⟨_, rfl⟩
 have xB : Ext wA wB := hB ▸ (Ext.alloc _ _).andDrew
 have HXB := Hd xB
 have HC1 := Hd (show Calls Tryz.prog 41 #[.pointer (some ⟨m, 0, none⟩), .slice (some ⟨wA.heap.size, 0, none⟩) 1 1] wB (CPost F wB p R1) from by
  rw [hR1]; exact cleaf_any p m L [[]] _ wB (HS.out.ext xB) (xB.later _ _ HM.out.1) (rowsOneNil (B := AnyB) wB wA.heap.size none (by rw [← hB, World.size_drew, World.size_alloc]; omega) trivial (by rw [← hB]; simp [go_sem])) (by simp) (fun r hr => by simp at hr; subst hr; simp))
 have HC2 := Hd (show ∀ F1 W, SD F1 W p R1.2 → W.cell? ⟨m, 0, none⟩ = some (.pointer (some ⟨p, 0, none⟩)) → Calls Tryz.prog 41 #[.pointer (some ⟨m, 0, none⟩), .slice none 0 0] W (CPost F1 W p R2) from fun F1 W hs hm => by
  rw [hR2]; exact cleaf_any p m R1.2 [] _ W hs hm (RowsOn.nil (B := AnyB)) (by simp) (fun r hr => by cases hr))
 have HC3 := Hd (show ∀ F1 W, R1.1.1 = 0 → R2.1.1 = 0 → SD F1 W p R2.2 → Calls Tryz.prog 43 #[.pointer (some ⟨p, 0, none⟩), .int .i8 f, .int .u64 n, .int .i64 R1.1.2, .int .i64 R2.1.2] W (DPost F1 W p (outD R3)) from fun F1 W h h' hs => by
  rw [hR3]; exact testO_any p R2.2 f n R1.1.2 R2.1.2 W hs HR23.out.1 HR23.out.2 (by have := HFN1.out.lt h; have := HFN2.out.pre.length_le; omega) (HFN2.out.lt h'))
 have xd : Ext wA wA.drew := Ext.drew _
 have HWD := Hd (WentC.ofExt (F := F) xd)
 have HSW := Hd (show ∀ (F2 : Nat → Prop) (W : World), WentC F wA F2 W → (fun W : World => W.cell? ⟨m, 0, none⟩ = some (.pointer (some ⟨p, 0, none⟩)) ∧ W.cell? ⟨w.heap.size, 1, none⟩ = some (.int .i8 f) ∧ W.cell? ⟨w.heap.size, 2, none⟩ = some (.int .u64 n)) W from fun F2 W hw =>
  ⟨hw.cell HM.out.1 HM.out.2, hw.cell d1 HNF.out, hw.cell d2 HNF.out⟩)
 have hS0 := HSW.out F wA.drew HWD.out
 have HEB := Hd hB
 clear xA hA sA h hv hm hr r1 r2 r3 hx0 hF0 hks hlc hcap hlen d3 hR hR1 hR2 hR3 xd xB hB
 go_enter Tryz.func28, Tryz.ntmps28
 go_upto_region 1 with fail
 rw [HEQ.out]
 clear HEQ
 go_upto_region 7 with fail
 clear d0 d1 d2
 refine wp_region_held_drew (S := (fun W : World => W.cell? ⟨m, 0, none⟩ = some (.pointer (some ⟨p, 0, none⟩)) ∧ W.cell? ⟨w.heap.size, 1, none⟩ = some (.int .i8 f) ∧ W.cell? ⟨w.heap.size, 2, none⟩ = some (.int .u64 n))) (by kernel_rfl) (hS0) (fun hHeld => ?_)
 refine tk 0 (.pointer (some ⟨m, 0, none⟩)) ?_
 try simp only [tkN]
 refine tk 1 (.pointer (some ⟨m, 0, none⟩)) ?_
 try simp only [tkN]
 refine tk 2 (.pointer (some ⟨m, 0, none⟩)) ?_
 try simp only [tkN]
 refine tk 3 (.pointer (some ⟨p, 0, none⟩)) ?_
 try simp only [tkN]
 refine tk 4 (.pointer (some ⟨w.heap.size, 1, none⟩)) ?_
 try simp only [tkN]
 refine tk 5 (.int .i8 f) ?_
 try simp only [tkN]
 refine tk 6 (.pointer (some ⟨w.heap.size, 2, none⟩)) ?_
 try simp only [tkN]
 refine tk 7 (.int .u64 n) ?_
 try simp only [tkN]
 refine tk 8 (.pointer (some ⟨m, 0, none⟩)) ?_
 try simp only [tkN]
 refine tk 11 (.pointer (some ⟨m, 0, none⟩)) ?_
 try simp only [tkN]
 refine tk1 9 rfl (AllReadyH.cons rfl (fun K hK => ?_) AllReadyH.nil)
 go_simp
 rw [HEB.out]
 refine hK.out _ _ (HSW.out F wB (WentC.ofExt HXB.out)) (fun hh9 => ?_)
 clear hK K
 try simp only [tkN]
 refine tk1 10 rfl (AllReadyH.cons rfl (fun K hK => ?_) AllReadyH.nil)
 go_simp
 go_at_call 41
 refine (HC1.out).mono ?_
 rintro e w11 ⟨he, F11, hs11, hsub11, hkp11⟩
 have we11 : WentC F wA F11 w11 := (WentC.ofExt HXB.out).trans ⟨hsub11, hkp11⟩
 have hw := HXA.out.trans we11
 by_cases r11 : R1.1.1 = 0
 case neg =>
  rw [endC_no r11] at he
  subst he
  have HFIN := Hd (show CPost F w p R (.panicked (wrongC R1.1.1)) w11 from by
   rw [HRR.out, if_neg r11]
   exact ⟨(endC_no r11 _).symm, F11, hs11, hw.1, hw.2⟩)
  go_wp2_with fail
  exact ⟨rfl, HFIN.out⟩
 rw [r11, endC_ok] at he
 subst he
 clear hw
 refine hK.out _ _ (HSW.out F11 w11 we11) (fun hh11 => ?_)
 clear hK K
 try simp only [tkN]
 refine tk1 12 rfl (AllReadyH.cons rfl (fun K hK => ?_) AllReadyH.nil)
 go_simp
 go_at_call 41
 refine (HC2.out F11 w11 hs11 (we11.cell HM.out.1 HM.out.2)).mono ?_
 rintro e w12 ⟨he, F12, hs12, hsub12, hkp12⟩
 have we12 : WentC F wA F12 w12 := we11.trans ⟨hsub12, hkp12⟩
 have hw := HXA.out.trans we12
 by_cases r12 : R2.1.1 = 0
 case neg =>
  rw [endC_no r12] at he
  subst he
  have HFIN := Hd (show CPost F w p R (.panicked (wrongC R2.1.1)) w12 from by
   rw [HRR.out, if_pos r11, if_neg r12]
   exact ⟨(endC_no r12 _).symm, F12, hs12, hw.1, hw.2⟩)
  go_wp2_with fail
  exact ⟨rfl, HFIN.out⟩
 rw [r12, endC_ok] at he
 subst he
 clear hw
 refine hK.out _ _ (HSW.out F12 w12 we12) (fun hh12 => ?_)
 clear hK K
 try simp only [tkN]
 refine tk1 13 rfl (AllReadyH.cons rfl (fun K hK => ?_) AllReadyH.nil)
 go_simp
 go_at_call 43
 refine (HC3.out F12 w12 r11 r12 hs12).mono ?_
 rintro e w13 ⟨rfl, F13, hs13, hsub13, hkp13⟩
 have we13 : WentC F wA F13 w13 := we12.trans ⟨hsub13, hkp13⟩
 have hw := HXA.out.trans we13
 refine hK.out _ _ (HSW.out F13 w13 we13) (fun hh13 => ?_)
 clear hK K
 try simp only [tkN]
 refine tk 14 (.int .i64 (outD R3).1.1) ?_
 try simp only [tkN]
 refine tk 15 (.int .i64 (outD R3).1.2) ?_
 try simp only [tkN]
 refine tk1 16 rfl (AllReadyH.cons rfl (fun K hK => ?_) AllReadyH.nil)
 go_simp
 go_at_call 42
 refine (cmust_any (outD R3).1.1 (outD R3).1.2 w13).mono ?_
 rintro e w14 ⟨he, rfl⟩
 have he : e = endC R3.1.1 (.int .i64 (outD R3).1.1) := he
 have hs13 : SD F13 w13 p R3.2 := hs13
 by_cases r14 : R3.1.1 = 0
 case neg =>
  rw [endC_no r14] at he
  subst he
  have HFIN := Hd (show CPost F w p R (.panicked (wrongC R3.1.1)) w13 from by
   rw [HRR.out, if_pos r11, if_pos r12]
   exact ⟨(endC_no r14 _).symm, F13, hs13, hw.1, hw.2⟩)
  go_wp2_with fail
  exact ⟨rfl, HFIN.out⟩
 rw [r14, endC_ok, show (outD R3).1.1 = (R3.1.2 : Int) from if_pos r14] at he
 subst he
 refine hK.out _ _ (HSW.out F13 w13 we13) (fun hh14 => ?_)
 clear hK K
 try simp only [tkN]
 refine tk 17 (.int .i64 R3.1.2) ?_
 try simp only [tkN]
 refine wpAnyH_done (by kernel_rfl) ?_ _
 have HFIN := Hd (show CPost F w p R (.returned (.int .i64 R3.1.2)) w13 from by
  rw [HRR.out, if_pos r11, if_pos r12]
  refine ⟨?_, F13, hs13, hw.1, hw.2⟩
  rw [r14]
  exact (endC_ok _).symm)
 clear r14
 go_wp2_with fail
 go_ret
 exact HFIN.out

theorem cterm_aux : ∀ (k : Nat) (t : Tm), t.sz ≤ k → TermOf t
 | 0, t, h => by have := t.sz_pos; omega
 | k + 1, .mk op f n ks, h => by
  have IH : ∀ i (h : i < ks.length), TermOf (ks[i]) := fun i hi => cterm_aux k _ (Tm.sz_kid h i hi)
  by_cases h0 : op = 0
  ·subst h0; exact cterm_no f n ks
  by_cases h1 : op = 1
  ·subst h1; exact cterm_yes f n ks
  by_cases h2 : op = 2
  ·subst h2; exact cterm_is f n ks
  by_cases h3 : op = 3
  ·subst h3; exact cterm_not f n ks IH
  by_cases h4 : op = 4
  ·subst h4; exact cterm_and f n ks IH
  by_cases h5 : op = 5
  ·subst h5; exact cterm_or f n ks IH
  by_cases h6 : op = 6
  ·subst h6; exact cterm_filter f n ks IH
  by_cases h7 : op = 7
  ·subst h7; exact cterm_set f n ks
  by_cases h8 : op = 8
  ·subst h8; exact cterm_union f n ks IH
  by_cases h9 : op = 9
  ·subst h9; exact cterm_then f n ks IH
  by_cases h10 : op = 10
  ·subst h10; exact cterm_star f n ks IH
  intro r F p m L v w hr
  exfalso
  cases r
  ·rcases Tm.right_pol hr with ⟨h1, -⟩ | ⟨h1, -⟩ | ⟨h1, -⟩ | ⟨h1, -⟩ <;> omega
  ·rcases Tm.right_pred hr with h1 | ⟨h1, -⟩ | ⟨h1, -⟩ <;> omega
theorem cterm_any (t : Tm) : TermOf t := cterm_aux t.sz t (Nat.le_refl _)

end Go.Proofs.YtjjbdbklbghlhaaGreatDoor
/- The laws' own small functions: two, step, alike. -/
namespace Go.Proofs.YtjjbdbklbghlhaaGreatDoor
open Go.RowKit Go.Maps
set_option linter.unusedSimpArgs false

theorem Tm.Val.cs {w : World} {t : Tm} {v : Value} (h : t.Val w v) : ∃ p len cap, v = .agg #[.int .i8 t.op, .int .i8 t.fld, .int .u64 t.n, .slice p len cap] := by
 obtain ⟨cs, rfl, s, rfl, -, -, -, p, len, cap, rfl, -⟩ := h
 exact ⟨p, len, cap, rfl⟩

/-- a term in the middle of a new block -/
theorem Tm.Val.at_part {w : World} {t : Tm} {cs : Array Value} (h : t.Val w (.agg cs)) {C : Array Value} (ty : TypeId) (o : Nat) (hC : ∀ j v, cs[j]? = some v → C[o + j]? = some v) : t.At (w.alloc (.cells C ty)) w.heap.size o := by
 refine (h.later (Ext.alloc _ _).later).at fun j v hv => ?_
 rw [World.cell?_alloc_new]
 exact hC j v (by simpa using hv)
theorem val_mk {w : World} {op f n : Int} {ks : List Tm} (ho : -128 ≤ op ∧ op ≤ 127) (hf : -128 ≤ f ∧ f ≤ 127) (hn : 0 ≤ n ∧ n ≤ 18446744073709551615) (b len cap : Nat) (hl : len = ks.length) (hlc : len ≤ cap) (hc : cap ≤ 9223372036854775807) (h : Tm.AllAt w ks b 0) :
  (Tm.mk op f n ks).Val w (.agg #[.int .i8 op, .int .i8 f, .int .u64 n, .slice (some ⟨b, 0, none⟩) len cap]) :=
 ⟨_, rfl, _, rfl, ho, hf, hn, _, _, _, rfl, hl, hlc, hc, .inr ⟨_, _, rfl, h⟩⟩

theorem val_leaf {w : World} {op f n : Int} (ho : -128 ≤ op ∧ op ≤ 127) (hf : -128 ≤ f ∧ f ≤ 127) (hn : 0 ≤ n ∧ n ≤ 18446744073709551615) :
  (Tm.mk op f n []).Val w (.agg #[.int .i8 op, .int .i8 f, .int .u64 n, .slice none 0 0]) :=
 ⟨_, rfl, _, rfl, ho, hf, hn, _, _, _, rfl, rfl, Nat.le_refl _, by omega, .inl rfl⟩
/-- a slice of one term, of two terms, in a new block -/
theorem allAt_one {w : World} {t : Tm} {a b c d : Value} (h : t.Val w (.agg #[a, b, c, d])) (ty : TypeId) : Tm.AllAt (w.alloc (.cells #[a, b, c, d] ty)) [t] w.heap.size 0 :=
 ⟨h.at_part _ 0 fun j v hv => by rw [Nat.zero_add]; exact hv, trivial⟩
theorem allAt_two {w : World} {t u : Tm} {a b c d a' b' c' d' : Value} (h : t.Val w (.agg #[a, b, c, d])) (k : u.Val w (.agg #[a', b', c', d'])) (ty : TypeId) : Tm.AllAt (w.alloc (.cells #[a, b, c, d, a', b', c', d'] ty)) [t, u] w.heap.size 0 := by
 refine ⟨h.at_part _ 0 fun j v hv => ?_, k.at_part _ 4 fun j v hv => ?_, trivial⟩
 ·match j, hv with
  | 0, hv | 1, hv | 2, hv | 3, hv => simpa using hv
  | j + 4, hv => simp at hv
 ·match j, hv with
  | 0, hv | 1, hv | 2, hv | 3, hv => simpa using hv
  | j + 4, hv => simp at hv

end Go.Proofs.YtjjbdbklbghlhaaGreatDoor
/- compile.Of: what is told of a term. -/
namespace Go.Proofs.YtjjbdbklbghlhaaGreatDoor
open Go.RowKit Go.Sort Go.Maps Go.Lib
set_option linter.unusedSimpArgs false

theorem wrongT_right {t : Tm} (h : wrongT t = 0) : ∃ r, t.right r = true := by
 unfold wrongT at h
 split at h
 ·refine ⟨true, ?_⟩
  unfold predT at h
  split at h
  ·exact absurd h (by decide)
  ·split at h
   ·assumption
   ·exact absurd h (by decide)
 ·refine ⟨false, ?_⟩
  unfold checkT at h
  split at h
  ·exact absurd h (by decide)
  ·split at h
   ·assumption
   ·exact absurd h (by decide)
theorem cof_fin {F F5 : Nat → Prop} {w wN w5 w' : World} {p : Nat} {L L' : List NdD} (hs : SD F w p L) (hx : Ext w wN) (hst : SD F5 w5 p L') (hw : WentC F wN F5 w5)
  (hk : Keep (fun i => i = w.heap.size + 1 ∨ i = w.heap.size + 2) w5 w') (hsz : w.heap.size + 3 ≤ wN.heap.size) : SD F5 w' p L' ∧ (∀ b, F5 b → F b ∨ w.heap.size ≤ b) ∧ Keep F w w' := by
 have hlt := hs.st.lt
 refine ⟨⟨hst.st.keep hk.size (fun b hb => hk.block b (hst.st.lt b hb) (fun e => by rcases hw.1 b hb with h1 | h1; (have := hlt b h1; omega); omega)), hst.inv, ?_⟩, fun b hb => (hw.1 b hb).imp id (fun h1 => by omega), ?_⟩
 ·obtain ⟨w0, t1, t2, t3⟩ := hs.tb
  have h0 := t2.size
  exact ⟨w0, t1, ((t2.trans hx).andKeep hw.2 t3).andKeep hk (fun i hi => by omega), fun b hb => by rcases hw.1 b hb with h1 | h1; exact t3 b h1; omega⟩
 ·exact (Keep.past (hx.keep F) hw.2 (fun i hi => .inl hi)).past hk (fun i hi => .inr (by omega))

set_option maxRecDepth 100000 in
set_option maxHeartbeats 8000000 in
theorem cof_any {F : Nat → Prop} (p : Nat) (L : List NdD) (t : Tm) (v : Value) (w : World) (h : SD F w p L) (hv : TermIn F w t v) :
  Calls Tryz.prog 13 #[.pointer (some ⟨p, 0, none⟩), v] w (DPost F w p (ofS L t)) := by
 have hmf : ∀ (fn : Fn) (first cap : Array Value) (w : World), (Instr.makeFunc fn first cap).run Tryz.prog w = .ok (.func fn first cap) w := fun _ _ _ _ => rfl
 have HS := Hd h
 have HV := Hd hv
 obtain ⟨w0, hx0, hF0, hv0⟩ := id hv
 have HVW := Hd (hv0.later hx0.later)
 obtain ⟨cs, rfl, s, rfl, r1, -, -, q, len, cap, rfl, -⟩ := hv0
 obtain ⟨op, hop⟩ : ∃ op, op = t.op := ⟨_, rfl⟩
 obtain ⟨f, hf⟩ : ∃ f, f = t.fld := ⟨_, rfl⟩
 obtain ⟨n, hn⟩ : ∃ n, n = t.n := ⟨_, rfl⟩
 rw [← hop, ← hf, ← hn] at HV HVW
 rw [← hop] at r1
 rw [← hop, ← hf, ← hn]
 obtain ⟨wA, hA⟩ : ∃ W : World, w.alloc (.cells #[.int .i8 op, .int .i8 f, .int .u64 n, .slice q len cap] 26) = W := ⟨_, rfl⟩
 obtain ⟨wB, hB⟩ : ∃ W : World, wA.alloc (.cells #[.int .i64 0] 3) = W := ⟨_, rfl⟩
 obtain ⟨wC, hC⟩ : ∃ W : World, wB.alloc (.cells #[.int .i64 0] 27) = W := ⟨_, rfl⟩
 have xA : Ext w wA := hA ▸ Ext.alloc _ _
 have xB : Ext wA wB := hB ▸ Ext.alloc _ _
 have xC : Ext wB wC := hC ▸ Ext.alloc _ _
 have sA : wA.heap.size = w.heap.size + 1 := by rw [← hA, World.size_alloc]
 have sB : wB.heap.size = w.heap.size + 1 + 1 := by rw [← hB, World.size_alloc, sA]
 have sC : wC.heap.size = w.heap.size + 1 + 1 + 1 := by rw [← hC, World.size_alloc, sB]
 have d0 : wC.cell? ⟨w.heap.size, 0, none⟩ = some (.int .i8 op) := (xB.trans xC).later _ _ (by rw [← hA]; simp [go_sem])
 have d1 : wC.cell? ⟨w.heap.size, 1, none⟩ = some (.int .i8 f) := (xB.trans xC).later _ _ (by rw [← hA]; simp [go_sem])
 have d2 : wC.cell? ⟨w.heap.size, 2, none⟩ = some (.int .u64 n) := (xB.trans xC).later _ _ (by rw [← hA]; simp [go_sem])
 have d3 : wC.cell? ⟨w.heap.size, 3, none⟩ = some (.slice q len cap) := (xB.trans xC).later _ _ (by rw [← hA]; simp [go_sem])
 have c0 : wC.cell? ⟨w.heap.size + 1, 0, none⟩ = some (.int .i64 0) := xC.later _ _ (by rw [← hB, ← sA]; simp [go_sem])
 have c1 : wC.cell? ⟨w.heap.size + 1 + 1, 0, none⟩ = some (.int .i64 0) := by rw [← hC, ← sB]; simp [go_sem]
 have f0 : wC.frozen? ⟨w.heap.size + 1, 0, none⟩ = false := by rw [Below.frozen xC (by simp; omega), ← hB, ← sA]; simp [go_sem]
 have f1 : wC.frozen? ⟨w.heap.size + 1 + 1, 0, none⟩ = false := by rw [← hC, ← sB]; simp [go_sem]
 have HXC := Hd (xA.trans (xB.trans xC))
 have HEQ := Hd (And.intro hA (And.intro hB hC))
 have HSZ := Hd (And.intro sA (And.intro sB sC))
 have HRC := Hd (show ∀ W, Ext wC W → (W.cell? ⟨w.heap.size + 1, 0, none⟩ = some (.int .i64 0) ∧ W.cell? ⟨w.heap.size + 1 + 1, 0, none⟩ = some (.int .i64 0)) ∧ (W.frozen? ⟨w.heap.size + 1, 0, none⟩ = false ∧ W.frozen? ⟨w.heap.size + 1 + 1, 0, none⟩ = false) ∧ (W.cell? ⟨w.heap.size, 0, none⟩ = some (.int .i8 op) ∧ W.cell? ⟨w.heap.size, 1, none⟩ = some (.int .i8 f) ∧ W.cell? ⟨w.heap.size, 2, none⟩ = some (.int .u64 n) ∧ W.cell? ⟨w.heap.size, 3, none⟩ = some (.slice q len cap)) from fun W hW =>
  ⟨⟨hW.later _ _ c0, hW.later _ _ c1⟩, ⟨by rw [Below.frozen hW (by simp; omega)]; exact f0, by rw [Below.frozen hW (by simp; omega)]; exact f1⟩, hW.later _ _ d0, hW.later _ _ d1, hW.later _ _ d2, hW.later _ _ d3⟩)
 have HWR := Hd (show wrongT t = (if 0 ≤ op ∧ op < 6 then predT t else checkT t) from by unfold wrongT; rw [hop])
 have HPR := Hd (pred_any t _ wC (HVW.out.later HXC.out.later))
 have HCK := Hd (check_any t _ _ _ _ wC (HVW.out.later HXC.out.later))
 have hge : (decide (0 ≤ op) && decide (op < 6)) = decide (0 ≤ op ∧ op < 6) := by rw [Bool.decide_and]
 clear xA xB xC sA sB sC f0 f1 hA hB hC h hv hop hf hn hx0 hF0
 go_enter_defers Tryz.func13, Tryz.ntmps13
 go_upto_region 1 with fail
 simp only [HEQ.out.1, HEQ.out.2.1, HEQ.out.2.2, HSZ.out.1, HSZ.out.2.1]
 clear HEQ
 have HOUT := Hd (show wrongT t ≠ 0 → ∀ (w2 w3 : World), Ext wC w2 → Keep (fun i => i = w.heap.size + 1 ∨ i = w.heap.size + 2) w2 w3 → DPost F w p (ofS L t) (.returned (.tuple #[.int .i64 0, .int .i64 (wrongT t)])) w3 from fun hw w2 w3 hx hk => by
  have hlt := HS.out.st.lt
  have hx2 : Ext w w2 := HXC.out.trans hx
  have hx3 : Ext w w3 := hx2.andKeep hk (fun i hi => by omega)
  rw [show ofS L t = ((0, wrongT t), L) from if_pos hw]
  exact ⟨rfl, F, HS.out.ext hx3, fun b hb => .inl hb, hx3.keep F⟩)
 have HRTM := Hd (show wrongT t = 0 → ∃ r, t.right r = true from wrongT_right)
 obtain ⟨R, hR⟩ : ∃ R, R = termC t L := ⟨_, rfl⟩
 have HOF := Hd (show wrongT t = 0 → ofS L t = outD R from fun h => by rw [hR]; exact if_neg (fun e => e h))
 have HNF := Hd (show ∀ z, w.heap.size ≤ z → ¬ F z from fun z hz e => by have := HS.out.st.lt z e; omega)
 have HRR := Hd hR
 clear hR
 by_cases hop : 0 ≤ op ∧ op < 6
 case pos =>
  have hg1 : decide (0 ≤ op) = true := by simpa using hop.1
  have hg2 : decide (op < 6) = true := by simpa using hop.2
  have HWT := Hd (show wrongT t = predT t from by rw [HWR.out, if_pos hop])
  clear hop HWR HCK hge
  go_wp2_with fail
  refine HPR.out.mono ?_
  rintro e w1 ⟨rfl, hx1⟩
  clear HPR
  have HX1 := Hd hx1
  obtain ⟨⟨c0, c1⟩, ⟨f0, f1⟩, d0, d1, d2, d3⟩ := HRC.out w1 hx1
  obtain ⟨er, her⟩ : ∃ er, er = predT t := ⟨_, rfl⟩
  rw [← her]
  rw [← her] at HWT
  obtain ⟨w2, h2⟩ : ∃ W : World, w1.setCell ⟨w.heap.size + 1 + 1, 0, none⟩ (.int .i64 er) = W := ⟨_, rfl⟩
  have k2 : Keep (fun i => i = w.heap.size + 1 ∨ i = w.heap.size + 2) w1 w2 := h2 ▸ Keep.set w1 _ _ (.inr rfl)
  have HC2 := Hd (show (w2.cell? ⟨w.heap.size + 1, 0, none⟩ = some (.int .i64 0) ∧ w2.cell? ⟨w.heap.size + 1 + 1, 0, none⟩ = some (.int .i64 er)) ∧ (w2.frozen? ⟨w.heap.size + 1, 0, none⟩ = false ∧ w2.frozen? ⟨w.heap.size + 1 + 1, 0, none⟩ = false) ∧ (w2.cell? ⟨w.heap.size, 0, none⟩ = some (.int .i8 op) ∧ w2.cell? ⟨w.heap.size, 1, none⟩ = some (.int .i8 f) ∧ w2.cell? ⟨w.heap.size, 2, none⟩ = some (.int .u64 n) ∧ w2.cell? ⟨w.heap.size, 3, none⟩ = some (.slice q len cap)) from by
   rw [← h2]
   refine ⟨⟨?_, World.cell?_setCell_same _ _ _ c1⟩, ⟨?_, ?_⟩, ?_, ?_, ?_, ?_⟩
   ·rw [World.cell?_setCell_other _ _ _ _ (fun e => by injection e; omega)]; exact c0
   ·rw [World.frozen?_setCell]; exact f0
   ·rw [World.frozen?_setCell]; exact f1
   ·rw [World.cell?_setCell_other _ _ _ _ (fun e => by injection e; omega)]; exact d0
   ·rw [World.cell?_setCell_other _ _ _ _ (fun e => by injection e; omega)]; exact d1
   ·rw [World.cell?_setCell_other _ _ _ _ (fun e => by injection e; omega)]; exact d2
   ·rw [World.cell?_setCell_other _ _ _ _ (fun e => by injection e; omega)]; exact d3)
  have HK2 := Hd k2
  have HE2 := Hd h2
  have HX2 := Hd (show Ext w w2 from (HXC.out.trans hx1).andKeep k2 (fun i hi => by omega))
  clear hx1 her k2 h2 d0 d1 d2 d3 f0 c0
  by_cases h0 : er = 0
  case neg =>
   have hne : (er != 0) = true := by rw [bne_iff_ne]; exact h0
   have HO := Hd (HOUT.out (by rw [HWT.out]; exact h0))
   rw [HWT.out] at HO
   clear h0
   go_upto_region 6 with fail
   rw [HE2.out]
   clear HE2 c1 f1
   obtain ⟨⟨c0, c1⟩, ⟨f0, f1⟩, -⟩ := HC2.out
   go_upto_region 7 with fail
   go_region
   all_goals (
    go_wp2_with fail
    have hA0 : ((w2.setCell ⟨w.heap.size + 1, 0, none⟩ (.int .i64 0)).setCell ⟨w.heap.size + 1 + 1, 0, none⟩ (.int .i64 er)).cell? ⟨w.heap.size + 1, 0, none⟩ = some (.int .i64 0) := by
     rw [World.cell?_setCell_other _ _ _ _ (fun e => by injection e; omega)]
     exact World.cell?_setCell_same _ _ _ c0
    have hA1 : ((w2.setCell ⟨w.heap.size + 1, 0, none⟩ (.int .i64 0)).setCell ⟨w.heap.size + 1 + 1, 0, none⟩ (.int .i64 er)).cell? ⟨w.heap.size + 1 + 1, 0, none⟩ = some (.int .i64 er) :=
     World.cell?_setCell_same _ _ _ (by rw [World.cell?_setCell_other _ _ _ _ (fun e => by injection e; omega)]; exact c1)
    simp [bodyPostD, Leaves, results, Tryz.results13, go_sem, hA0, hA1]
    exact HO.out w1 _ HX1.out (HK2.out.trans (((Keep.set w2 ⟨w.heap.size + 1, 0, none⟩ (.int .i64 0) (.inl rfl)).trans (Keep.set _ ⟨w.heap.size + 1 + 1, 0, none⟩ (.int .i64 er) (.inr rfl))).trans ((Ext.drew _).keep _))))
  subst h0
  obtain ⟨r, hrt⟩ := HRTM.out HWT.out
  have HF := Hd (HOF.out HWT.out)
  obtain ⟨wM, hM⟩ : ∃ W : World, w2.alloc (.cells #[.pointer (some ⟨p, 0, none⟩)] 75) = W := ⟨_, rfl⟩
  have xM : Ext w2 wM := hM ▸ Ext.alloc _ _
  have HXM := Hd (HX2.out.trans xM)
  have HSZM := Hd (show w.heap.size + 3 ≤ w2.heap.size ∧ w2.heap.size + 1 = wM.heap.size from by
   have h1 := HSZ.out.2.2
   have h2 := HX1.out.size
   have h3 := HK2.out.size
   have h4 : wM.heap.size = w2.heap.size + 1 := by rw [← hM, World.size_alloc]
   omega)
  have HCT := Hd (show Calls Tryz.prog 28 #[.pointer (some ⟨w2.heap.size, 0, none⟩), .agg #[.int .i8 op, .int .i8 f, .int .u64 n, .slice q len cap]] wM (CPost F wM p R) from by
   rw [HRR.out]
   exact cterm_any t r F p w2.heap.size L _ wM hrt (HS.out.ext HXM.out) (HV.out.went (WentC.ofExt HXM.out)) ⟨by rw [← hM]; simp [go_sem], HNF.out _ (by have := HX2.out.size; omega)⟩)
  have HCM := Hd (show (wM.cell? ⟨w.heap.size + 1, 0, none⟩ = some (.int .i64 0) ∧ wM.cell? ⟨w.heap.size + 1 + 1, 0, none⟩ = some (.int .i64 0)) ∧ (wM.frozen? ⟨w.heap.size + 1, 0, none⟩ = false ∧ wM.frozen? ⟨w.heap.size + 1 + 1, 0, none⟩ = false) from
   ⟨⟨xM.later _ _ HC2.out.1.1, xM.later _ _ HC2.out.1.2⟩, by rw [Below.frozen xM (by have := HSZM.out.1; show w.heap.size + 1 < _; omega)]; exact HC2.out.2.1.1, by rw [Below.frozen xM (by have := HSZM.out.1; show w.heap.size + 1 + 1 < _; omega)]; exact HC2.out.2.1.2⟩)
  have HEM := Hd hM
  clear hrt xM hM
  go_upto_region 6 with fail
  rw [HE2.out]
  clear HE2 c1 f1
  obtain ⟨⟨c0, c1⟩, ⟨f0, f1⟩, d0, d1, d2, d3⟩ := HC2.out
  have hlt2 : w.heap.size < w2.heap.size := by have := HSZM.out.1; omega
  go_wp2_with fail
  rw [HEM.out]
  refine HCT.out.mono ?_
  intro e w5 hp
  have HW5 := Hd (show CPost F wM p R e w5 from hp)
  rcases hp.pan with ⟨hr, rfl⟩ | ⟨hr, rfl⟩
  all_goals (
   obtain ⟨-, F5, hs5, hsub, hkp⟩ := HW5.out
   have nf : ∀ z, z = w.heap.size + 1 ∨ z = w.heap.size + 1 + 1 → ¬ F z := fun z hz => HNF.out z (by omega)
   have e0 := hkp.cell HCM.out.1.1 (nf _ (.inl rfl))
   have e1 := hkp.cell HCM.out.1.2 (nf _ (.inr rfl))
   have g0 : w5.frozen? ⟨w.heap.size + 1, 0, none⟩ = false := by rw [World.frozen?_of_block (hkp.block _ (by have := HSZM.out; show w.heap.size + 1 < wM.heap.size; omega) (nf _ (.inl rfl)))]; exact HCM.out.2.1
   have g1 : w5.frozen? ⟨w.heap.size + 1 + 1, 0, none⟩ = false := by rw [World.frozen?_of_block (hkp.block _ (by have := HSZM.out; show w.heap.size + 1 + 1 < wM.heap.size; omega) (nf _ (.inr rfl)))]; exact HCM.out.2.2
   have HFN := Hd (fun W' hk => cof_fin (w' := W') HS.out HXM.out hs5 ⟨hsub, hkp⟩ hk (by have := HSZM.out; omega))
   have HEG := Hd (And.intro (And.intro e0 e1) (And.intro g0 g1))
   have HP5 := Hd (show F5 = F5 from rfl)
   clear hp HW5 hs5 hsub hkp nf c0 c1 f0 f1 d0 d1 d2 d3 e0 e1 g0 g1)
  ·have HFO := Hd (show ofS L t = (((R.1.2 : Int), 0), R.2) from by rw [HF.out]; unfold outD; rw [if_pos hr, hr])
   clear hr
   obtain ⟨⟨e0, e1⟩, g0, g1⟩ := HEG.out
   go_wp2_with fail
   refine leaves_cons (f := 27) (args := #[.pointer (some ⟨w.heap.size + 1, 0, none⟩), .pointer (some ⟨w.heap.size + 1 + 1, 0, none⟩)]) (by simp) (by simp [go_sem]) ?_
   refine (cCatch_idle _ _ _).mono ?_
   rintro e u' w6 ⟨rfl, rfl, rfl⟩
   have hcA : ((w5.setCell ⟨w.heap.size + 1, 0, none⟩ (.int .i64 R.1.2)).setCell ⟨w.heap.size + 1 + 1, 0, none⟩ (.int .i64 0)).cell? ⟨w.heap.size + 1, 0, none⟩ = some (.int .i64 R.1.2) := by
    rw [World.cell?_setCell_other _ _ _ _ (fun e => by injection e; omega)]
    exact World.cell?_setCell_same _ _ _ e0
   have hcB : ((w5.setCell ⟨w.heap.size + 1, 0, none⟩ (.int .i64 R.1.2)).setCell ⟨w.heap.size + 1 + 1, 0, none⟩ (.int .i64 0)).cell? ⟨w.heap.size + 1 + 1, 0, none⟩ = some (.int .i64 0) :=
    World.cell?_setCell_same _ _ _ (by rw [World.cell?_setCell_other _ _ _ _ (fun e => by injection e; omega)]; exact e1)
   simp [bodyPostD, Leaves, settle, results, Tryz.results13, go_sem, hcA, hcB]
   obtain ⟨q1, q2, q3⟩ := HFN.out _ ((Keep.set w5 ⟨w.heap.size + 1, 0, none⟩ (.int .i64 R.1.2) (.inl rfl)).trans (Keep.set _ ⟨w.heap.size + 1 + 1, 0, none⟩ (.int .i64 0) (.inr rfl)))
   rw [HFO.out]
   exact ⟨rfl, F5, q1, q2, q3⟩
  ·have HFO := Hd (show ofS L t = ((0, R.1.1), R.2) from by rw [HF.out]; unfold outD; rw [if_neg hr])
   clear hr
   obtain ⟨⟨e0, e1⟩, g0, g1⟩ := HEG.out
   go_wp2_with fail
   refine leaves_cons (f := 27) (args := #[.pointer (some ⟨w.heap.size + 1, 0, none⟩), .pointer (some ⟨w.heap.size + 1 + 1, 0, none⟩)]) (by simp) (by simp [go_sem]) ?_
   refine (cCatch_panicking _ _ _ _ R.1.1 [] w5 e0 e1 g0 g1 (by omega)).mono ?_
   rintro e u' w6 ⟨rfl, rfl, hk3, h2, h3⟩
   simp [bodyPostD, Leaves, settle, results, Tryz.results13, go_sem, h2, h3]
   obtain ⟨q1, q2, q3⟩ := HFN.out w6 hk3
   rw [HFO.out]
   exact ⟨rfl, F5, q1, q2, q3⟩
 have HWT := Hd (show wrongT t = checkT t from by rw [HWR.out, if_neg hop])
 by_cases h0op : 0 ≤ op
 case neg =>
  have hg1 : decide (0 ≤ op) = false := decide_eq_false (by omega)
  clear hop h0op HWR HPR hge
  go_wp2_with fail
  refine HCK.out.mono ?_
  rintro e w1 ⟨rfl, hx1⟩
  clear HCK
  have HX1 := Hd hx1
  obtain ⟨⟨c0, c1⟩, ⟨f0, f1⟩, d0, d1, d2, d3⟩ := HRC.out w1 hx1
  obtain ⟨er, her⟩ : ∃ er, er = checkT t := ⟨_, rfl⟩
  rw [← her]
  rw [← her] at HWT
  obtain ⟨w2, h2⟩ : ∃ W : World, w1.setCell ⟨w.heap.size + 1 + 1, 0, none⟩ (.int .i64 er) = W := ⟨_, rfl⟩
  have k2 : Keep (fun i => i = w.heap.size + 1 ∨ i = w.heap.size + 2) w1 w2 := h2 ▸ Keep.set w1 _ _ (.inr rfl)
  have HC2 := Hd (show (w2.cell? ⟨w.heap.size + 1, 0, none⟩ = some (.int .i64 0) ∧ w2.cell? ⟨w.heap.size + 1 + 1, 0, none⟩ = some (.int .i64 er)) ∧ (w2.frozen? ⟨w.heap.size + 1, 0, none⟩ = false ∧ w2.frozen? ⟨w.heap.size + 1 + 1, 0, none⟩ = false) ∧ (w2.cell? ⟨w.heap.size, 0, none⟩ = some (.int .i8 op) ∧ w2.cell? ⟨w.heap.size, 1, none⟩ = some (.int .i8 f) ∧ w2.cell? ⟨w.heap.size, 2, none⟩ = some (.int .u64 n) ∧ w2.cell? ⟨w.heap.size, 3, none⟩ = some (.slice q len cap)) from by
   rw [← h2]
   refine ⟨⟨?_, World.cell?_setCell_same _ _ _ c1⟩, ⟨?_, ?_⟩, ?_, ?_, ?_, ?_⟩
   ·rw [World.cell?_setCell_other _ _ _ _ (fun e => by injection e; omega)]; exact c0
   ·rw [World.frozen?_setCell]; exact f0
   ·rw [World.frozen?_setCell]; exact f1
   ·rw [World.cell?_setCell_other _ _ _ _ (fun e => by injection e; omega)]; exact d0
   ·rw [World.cell?_setCell_other _ _ _ _ (fun e => by injection e; omega)]; exact d1
   ·rw [World.cell?_setCell_other _ _ _ _ (fun e => by injection e; omega)]; exact d2
   ·rw [World.cell?_setCell_other _ _ _ _ (fun e => by injection e; omega)]; exact d3)
  have HK2 := Hd k2
  have HE2 := Hd h2
  have HX2 := Hd (show Ext w w2 from (HXC.out.trans hx1).andKeep k2 (fun i hi => by omega))
  clear hx1 her k2 h2 d0 d1 d2 d3 f0 c0
  by_cases h0 : er = 0
  case neg =>
   have hne : (er != 0) = true := by rw [bne_iff_ne]; exact h0
   have HO := Hd (HOUT.out (by rw [HWT.out]; exact h0))
   rw [HWT.out] at HO
   clear h0
   go_upto_region 6 with fail
   rw [HE2.out]
   clear HE2 c1 f1
   obtain ⟨⟨c0, c1⟩, ⟨f0, f1⟩, -⟩ := HC2.out
   go_upto_region 7 with fail
   go_region
   all_goals (
    go_wp2_with fail
    have hA0 : ((w2.setCell ⟨w.heap.size + 1, 0, none⟩ (.int .i64 0)).setCell ⟨w.heap.size + 1 + 1, 0, none⟩ (.int .i64 er)).cell? ⟨w.heap.size + 1, 0, none⟩ = some (.int .i64 0) := by
     rw [World.cell?_setCell_other _ _ _ _ (fun e => by injection e; omega)]
     exact World.cell?_setCell_same _ _ _ c0
    have hA1 : ((w2.setCell ⟨w.heap.size + 1, 0, none⟩ (.int .i64 0)).setCell ⟨w.heap.size + 1 + 1, 0, none⟩ (.int .i64 er)).cell? ⟨w.heap.size + 1 + 1, 0, none⟩ = some (.int .i64 er) :=
     World.cell?_setCell_same _ _ _ (by rw [World.cell?_setCell_other _ _ _ _ (fun e => by injection e; omega)]; exact c1)
    simp [bodyPostD, Leaves, results, Tryz.results13, go_sem, hA0, hA1]
    exact HO.out w1 _ HX1.out (HK2.out.trans (((Keep.set w2 ⟨w.heap.size + 1, 0, none⟩ (.int .i64 0) (.inl rfl)).trans (Keep.set _ ⟨w.heap.size + 1 + 1, 0, none⟩ (.int .i64 er) (.inr rfl))).trans ((Ext.drew _).keep _))))
  subst h0
  obtain ⟨r, hrt⟩ := HRTM.out HWT.out
  have HF := Hd (HOF.out HWT.out)
  obtain ⟨wM, hM⟩ : ∃ W : World, w2.alloc (.cells #[.pointer (some ⟨p, 0, none⟩)] 75) = W := ⟨_, rfl⟩
  have xM : Ext w2 wM := hM ▸ Ext.alloc _ _
  have HXM := Hd (HX2.out.trans xM)
  have HSZM := Hd (show w.heap.size + 3 ≤ w2.heap.size ∧ w2.heap.size + 1 = wM.heap.size from by
   have h1 := HSZ.out.2.2
   have h2 := HX1.out.size
   have h3 := HK2.out.size
   have h4 : wM.heap.size = w2.heap.size + 1 := by rw [← hM, World.size_alloc]
   omega)
  have HCT := Hd (show Calls Tryz.prog 28 #[.pointer (some ⟨w2.heap.size, 0, none⟩), .agg #[.int .i8 op, .int .i8 f, .int .u64 n, .slice q len cap]] wM (CPost F wM p R) from by
   rw [HRR.out]
   exact cterm_any t r F p w2.heap.size L _ wM hrt (HS.out.ext HXM.out) (HV.out.went (WentC.ofExt HXM.out)) ⟨by rw [← hM]; simp [go_sem], HNF.out _ (by have := HX2.out.size; omega)⟩)
  have HCM := Hd (show (wM.cell? ⟨w.heap.size + 1, 0, none⟩ = some (.int .i64 0) ∧ wM.cell? ⟨w.heap.size + 1 + 1, 0, none⟩ = some (.int .i64 0)) ∧ (wM.frozen? ⟨w.heap.size + 1, 0, none⟩ = false ∧ wM.frozen? ⟨w.heap.size + 1 + 1, 0, none⟩ = false) from
   ⟨⟨xM.later _ _ HC2.out.1.1, xM.later _ _ HC2.out.1.2⟩, by rw [Below.frozen xM (by have := HSZM.out.1; show w.heap.size + 1 < _; omega)]; exact HC2.out.2.1.1, by rw [Below.frozen xM (by have := HSZM.out.1; show w.heap.size + 1 + 1 < _; omega)]; exact HC2.out.2.1.2⟩)
  have HEM := Hd hM
  clear hrt xM hM
  go_upto_region 6 with fail
  rw [HE2.out]
  clear HE2 c1 f1
  obtain ⟨⟨c0, c1⟩, ⟨f0, f1⟩, d0, d1, d2, d3⟩ := HC2.out
  have hlt2 : w.heap.size < w2.heap.size := by have := HSZM.out.1; omega
  go_wp2_with fail
  rw [HEM.out]
  refine HCT.out.mono ?_
  intro e w5 hp
  have HW5 := Hd (show CPost F wM p R e w5 from hp)
  rcases hp.pan with ⟨hr, rfl⟩ | ⟨hr, rfl⟩
  all_goals (
   obtain ⟨-, F5, hs5, hsub, hkp⟩ := HW5.out
   have nf : ∀ z, z = w.heap.size + 1 ∨ z = w.heap.size + 1 + 1 → ¬ F z := fun z hz => HNF.out z (by omega)
   have e0 := hkp.cell HCM.out.1.1 (nf _ (.inl rfl))
   have e1 := hkp.cell HCM.out.1.2 (nf _ (.inr rfl))
   have g0 : w5.frozen? ⟨w.heap.size + 1, 0, none⟩ = false := by rw [World.frozen?_of_block (hkp.block _ (by have := HSZM.out; show w.heap.size + 1 < wM.heap.size; omega) (nf _ (.inl rfl)))]; exact HCM.out.2.1
   have g1 : w5.frozen? ⟨w.heap.size + 1 + 1, 0, none⟩ = false := by rw [World.frozen?_of_block (hkp.block _ (by have := HSZM.out; show w.heap.size + 1 + 1 < wM.heap.size; omega) (nf _ (.inr rfl)))]; exact HCM.out.2.2
   have HFN := Hd (fun W' hk => cof_fin (w' := W') HS.out HXM.out hs5 ⟨hsub, hkp⟩ hk (by have := HSZM.out; omega))
   have HEG := Hd (And.intro (And.intro e0 e1) (And.intro g0 g1))
   have HP5 := Hd (show F5 = F5 from rfl)
   clear hp HW5 hs5 hsub hkp nf c0 c1 f0 f1 d0 d1 d2 d3 e0 e1 g0 g1)
  ·have HFO := Hd (show ofS L t = (((R.1.2 : Int), 0), R.2) from by rw [HF.out]; unfold outD; rw [if_pos hr, hr])
   clear hr
   obtain ⟨⟨e0, e1⟩, g0, g1⟩ := HEG.out
   go_wp2_with fail
   refine leaves_cons (f := 27) (args := #[.pointer (some ⟨w.heap.size + 1, 0, none⟩), .pointer (some ⟨w.heap.size + 1 + 1, 0, none⟩)]) (by simp) (by simp [go_sem]) ?_
   refine (cCatch_idle _ _ _).mono ?_
   rintro e u' w6 ⟨rfl, rfl, rfl⟩
   have hcA : ((w5.setCell ⟨w.heap.size + 1, 0, none⟩ (.int .i64 R.1.2)).setCell ⟨w.heap.size + 1 + 1, 0, none⟩ (.int .i64 0)).cell? ⟨w.heap.size + 1, 0, none⟩ = some (.int .i64 R.1.2) := by
    rw [World.cell?_setCell_other _ _ _ _ (fun e => by injection e; omega)]
    exact World.cell?_setCell_same _ _ _ e0
   have hcB : ((w5.setCell ⟨w.heap.size + 1, 0, none⟩ (.int .i64 R.1.2)).setCell ⟨w.heap.size + 1 + 1, 0, none⟩ (.int .i64 0)).cell? ⟨w.heap.size + 1 + 1, 0, none⟩ = some (.int .i64 0) :=
    World.cell?_setCell_same _ _ _ (by rw [World.cell?_setCell_other _ _ _ _ (fun e => by injection e; omega)]; exact e1)
   simp [bodyPostD, Leaves, settle, results, Tryz.results13, go_sem, hcA, hcB]
   obtain ⟨q1, q2, q3⟩ := HFN.out _ ((Keep.set w5 ⟨w.heap.size + 1, 0, none⟩ (.int .i64 R.1.2) (.inl rfl)).trans (Keep.set _ ⟨w.heap.size + 1 + 1, 0, none⟩ (.int .i64 0) (.inr rfl)))
   rw [HFO.out]
   exact ⟨rfl, F5, q1, q2, q3⟩
  ·have HFO := Hd (show ofS L t = ((0, R.1.1), R.2) from by rw [HF.out]; unfold outD; rw [if_neg hr])
   clear hr
   obtain ⟨⟨e0, e1⟩, g0, g1⟩ := HEG.out
   go_wp2_with fail
   refine leaves_cons (f := 27) (args := #[.pointer (some ⟨w.heap.size + 1, 0, none⟩), .pointer (some ⟨w.heap.size + 1 + 1, 0, none⟩)]) (by simp) (by simp [go_sem]) ?_
   refine (cCatch_panicking _ _ _ _ R.1.1 [] w5 e0 e1 g0 g1 (by omega)).mono ?_
   rintro e u' w6 ⟨rfl, rfl, hk3, h2, h3⟩
   simp [bodyPostD, Leaves, settle, results, Tryz.results13, go_sem, h2, h3]
   obtain ⟨q1, q2, q3⟩ := HFN.out w6 hk3
   rw [HFO.out]
   exact ⟨rfl, F5, q1, q2, q3⟩
 case pos =>
  have hg1 : decide (0 ≤ op) = true := by simpa using h0op
  have hg2 : decide (op < 6) = false := decide_eq_false (by omega)
  clear hop h0op HWR HPR hge
  go_wp2_with fail
  refine HCK.out.mono ?_
  rintro e w1 ⟨rfl, hx1⟩
  clear HCK
  have HX1 := Hd hx1
  obtain ⟨⟨c0, c1⟩, ⟨f0, f1⟩, d0, d1, d2, d3⟩ := HRC.out w1 hx1
  obtain ⟨er, her⟩ : ∃ er, er = checkT t := ⟨_, rfl⟩
  rw [← her]
  rw [← her] at HWT
  obtain ⟨w2, h2⟩ : ∃ W : World, w1.setCell ⟨w.heap.size + 1 + 1, 0, none⟩ (.int .i64 er) = W := ⟨_, rfl⟩
  have k2 : Keep (fun i => i = w.heap.size + 1 ∨ i = w.heap.size + 2) w1 w2 := h2 ▸ Keep.set w1 _ _ (.inr rfl)
  have HC2 := Hd (show (w2.cell? ⟨w.heap.size + 1, 0, none⟩ = some (.int .i64 0) ∧ w2.cell? ⟨w.heap.size + 1 + 1, 0, none⟩ = some (.int .i64 er)) ∧ (w2.frozen? ⟨w.heap.size + 1, 0, none⟩ = false ∧ w2.frozen? ⟨w.heap.size + 1 + 1, 0, none⟩ = false) ∧ (w2.cell? ⟨w.heap.size, 0, none⟩ = some (.int .i8 op) ∧ w2.cell? ⟨w.heap.size, 1, none⟩ = some (.int .i8 f) ∧ w2.cell? ⟨w.heap.size, 2, none⟩ = some (.int .u64 n) ∧ w2.cell? ⟨w.heap.size, 3, none⟩ = some (.slice q len cap)) from by
   rw [← h2]
   refine ⟨⟨?_, World.cell?_setCell_same _ _ _ c1⟩, ⟨?_, ?_⟩, ?_, ?_, ?_, ?_⟩
   ·rw [World.cell?_setCell_other _ _ _ _ (fun e => by injection e; omega)]; exact c0
   ·rw [World.frozen?_setCell]; exact f0
   ·rw [World.frozen?_setCell]; exact f1
   ·rw [World.cell?_setCell_other _ _ _ _ (fun e => by injection e; omega)]; exact d0
   ·rw [World.cell?_setCell_other _ _ _ _ (fun e => by injection e; omega)]; exact d1
   ·rw [World.cell?_setCell_other _ _ _ _ (fun e => by injection e; omega)]; exact d2
   ·rw [World.cell?_setCell_other _ _ _ _ (fun e => by injection e; omega)]; exact d3)
  have HK2 := Hd k2
  have HE2 := Hd h2
  have HX2 := Hd (show Ext w w2 from (HXC.out.trans hx1).andKeep k2 (fun i hi => by omega))
  clear hx1 her k2 h2 d0 d1 d2 d3 f0 c0
  by_cases h0 : er = 0
  case neg =>
   have hne : (er != 0) = true := by rw [bne_iff_ne]; exact h0
   have HO := Hd (HOUT.out (by rw [HWT.out]; exact h0))
   rw [HWT.out] at HO
   clear h0
   go_upto_region 6 with fail
   rw [HE2.out]
   clear HE2 c1 f1
   obtain ⟨⟨c0, c1⟩, ⟨f0, f1⟩, -⟩ := HC2.out
   go_upto_region 7 with fail
   go_region
   all_goals (
    go_wp2_with fail
    have hA0 : ((w2.setCell ⟨w.heap.size + 1, 0, none⟩ (.int .i64 0)).setCell ⟨w.heap.size + 1 + 1, 0, none⟩ (.int .i64 er)).cell? ⟨w.heap.size + 1, 0, none⟩ = some (.int .i64 0) := by
     rw [World.cell?_setCell_other _ _ _ _ (fun e => by injection e; omega)]
     exact World.cell?_setCell_same _ _ _ c0
    have hA1 : ((w2.setCell ⟨w.heap.size + 1, 0, none⟩ (.int .i64 0)).setCell ⟨w.heap.size + 1 + 1, 0, none⟩ (.int .i64 er)).cell? ⟨w.heap.size + 1 + 1, 0, none⟩ = some (.int .i64 er) :=
     World.cell?_setCell_same _ _ _ (by rw [World.cell?_setCell_other _ _ _ _ (fun e => by injection e; omega)]; exact c1)
    simp [bodyPostD, Leaves, results, Tryz.results13, go_sem, hA0, hA1]
    exact HO.out w1 _ HX1.out (HK2.out.trans (((Keep.set w2 ⟨w.heap.size + 1, 0, none⟩ (.int .i64 0) (.inl rfl)).trans (Keep.set _ ⟨w.heap.size + 1 + 1, 0, none⟩ (.int .i64 er) (.inr rfl))).trans ((Ext.drew _).keep _))))
  subst h0
  obtain ⟨r, hrt⟩ := HRTM.out HWT.out
  have HF := Hd (HOF.out HWT.out)
  obtain ⟨wM, hM⟩ : ∃ W : World, w2.alloc (.cells #[.pointer (some ⟨p, 0, none⟩)] 75) = W := ⟨_, rfl⟩
  have xM : Ext w2 wM := hM ▸ Ext.alloc _ _
  have HXM := Hd (HX2.out.trans xM)
  have HSZM := Hd (show w.heap.size + 3 ≤ w2.heap.size ∧ w2.heap.size + 1 = wM.heap.size from by
   have h1 := HSZ.out.2.2
   have h2 := HX1.out.size
   have h3 := HK2.out.size
   have h4 : wM.heap.size = w2.heap.size + 1 := by rw [← hM, World.size_alloc]
   omega)
  have HCT := Hd (show Calls Tryz.prog 28 #[.pointer (some ⟨w2.heap.size, 0, none⟩), .agg #[.int .i8 op, .int .i8 f, .int .u64 n, .slice q len cap]] wM (CPost F wM p R) from by
   rw [HRR.out]
   exact cterm_any t r F p w2.heap.size L _ wM hrt (HS.out.ext HXM.out) (HV.out.went (WentC.ofExt HXM.out)) ⟨by rw [← hM]; simp [go_sem], HNF.out _ (by have := HX2.out.size; omega)⟩)
  have HCM := Hd (show (wM.cell? ⟨w.heap.size + 1, 0, none⟩ = some (.int .i64 0) ∧ wM.cell? ⟨w.heap.size + 1 + 1, 0, none⟩ = some (.int .i64 0)) ∧ (wM.frozen? ⟨w.heap.size + 1, 0, none⟩ = false ∧ wM.frozen? ⟨w.heap.size + 1 + 1, 0, none⟩ = false) from
   ⟨⟨xM.later _ _ HC2.out.1.1, xM.later _ _ HC2.out.1.2⟩, by rw [Below.frozen xM (by have := HSZM.out.1; show w.heap.size + 1 < _; omega)]; exact HC2.out.2.1.1, by rw [Below.frozen xM (by have := HSZM.out.1; show w.heap.size + 1 + 1 < _; omega)]; exact HC2.out.2.1.2⟩)
  have HEM := Hd hM
  clear hrt xM hM
  go_upto_region 6 with fail
  rw [HE2.out]
  clear HE2 c1 f1
  obtain ⟨⟨c0, c1⟩, ⟨f0, f1⟩, d0, d1, d2, d3⟩ := HC2.out
  have hlt2 : w.heap.size < w2.heap.size := by have := HSZM.out.1; omega
  go_wp2_with fail
  rw [HEM.out]
  refine HCT.out.mono ?_
  intro e w5 hp
  have HW5 := Hd (show CPost F wM p R e w5 from hp)
  rcases hp.pan with ⟨hr, rfl⟩ | ⟨hr, rfl⟩
  all_goals (
   obtain ⟨-, F5, hs5, hsub, hkp⟩ := HW5.out
   have nf : ∀ z, z = w.heap.size + 1 ∨ z = w.heap.size + 1 + 1 → ¬ F z := fun z hz => HNF.out z (by omega)
   have e0 := hkp.cell HCM.out.1.1 (nf _ (.inl rfl))
   have e1 := hkp.cell HCM.out.1.2 (nf _ (.inr rfl))
   have g0 : w5.frozen? ⟨w.heap.size + 1, 0, none⟩ = false := by rw [World.frozen?_of_block (hkp.block _ (by have := HSZM.out; show w.heap.size + 1 < wM.heap.size; omega) (nf _ (.inl rfl)))]; exact HCM.out.2.1
   have g1 : w5.frozen? ⟨w.heap.size + 1 + 1, 0, none⟩ = false := by rw [World.frozen?_of_block (hkp.block _ (by have := HSZM.out; show w.heap.size + 1 + 1 < wM.heap.size; omega) (nf _ (.inr rfl)))]; exact HCM.out.2.2
   have HFN := Hd (fun W' hk => cof_fin (w' := W') HS.out HXM.out hs5 ⟨hsub, hkp⟩ hk (by have := HSZM.out; omega))
   have HEG := Hd (And.intro (And.intro e0 e1) (And.intro g0 g1))
   have HP5 := Hd (show F5 = F5 from rfl)
   clear hp HW5 hs5 hsub hkp nf c0 c1 f0 f1 d0 d1 d2 d3 e0 e1 g0 g1)
  ·have HFO := Hd (show ofS L t = (((R.1.2 : Int), 0), R.2) from by rw [HF.out]; unfold outD; rw [if_pos hr, hr])
   clear hr
   obtain ⟨⟨e0, e1⟩, g0, g1⟩ := HEG.out
   go_wp2_with fail
   refine leaves_cons (f := 27) (args := #[.pointer (some ⟨w.heap.size + 1, 0, none⟩), .pointer (some ⟨w.heap.size + 1 + 1, 0, none⟩)]) (by simp) (by simp [go_sem]) ?_
   refine (cCatch_idle _ _ _).mono ?_
   rintro e u' w6 ⟨rfl, rfl, rfl⟩
   have hcA : ((w5.setCell ⟨w.heap.size + 1, 0, none⟩ (.int .i64 R.1.2)).setCell ⟨w.heap.size + 1 + 1, 0, none⟩ (.int .i64 0)).cell? ⟨w.heap.size + 1, 0, none⟩ = some (.int .i64 R.1.2) := by
    rw [World.cell?_setCell_other _ _ _ _ (fun e => by injection e; omega)]
    exact World.cell?_setCell_same _ _ _ e0
   have hcB : ((w5.setCell ⟨w.heap.size + 1, 0, none⟩ (.int .i64 R.1.2)).setCell ⟨w.heap.size + 1 + 1, 0, none⟩ (.int .i64 0)).cell? ⟨w.heap.size + 1 + 1, 0, none⟩ = some (.int .i64 0) :=
    World.cell?_setCell_same _ _ _ (by rw [World.cell?_setCell_other _ _ _ _ (fun e => by injection e; omega)]; exact e1)
   simp [bodyPostD, Leaves, settle, results, Tryz.results13, go_sem, hcA, hcB]
   obtain ⟨q1, q2, q3⟩ := HFN.out _ ((Keep.set w5 ⟨w.heap.size + 1, 0, none⟩ (.int .i64 R.1.2) (.inl rfl)).trans (Keep.set _ ⟨w.heap.size + 1 + 1, 0, none⟩ (.int .i64 0) (.inr rfl)))
   rw [HFO.out]
   exact ⟨rfl, F5, q1, q2, q3⟩
  ·have HFO := Hd (show ofS L t = ((0, R.1.1), R.2) from by rw [HF.out]; unfold outD; rw [if_neg hr])
   clear hr
   obtain ⟨⟨e0, e1⟩, g0, g1⟩ := HEG.out
   go_wp2_with fail
   refine leaves_cons (f := 27) (args := #[.pointer (some ⟨w.heap.size + 1, 0, none⟩), .pointer (some ⟨w.heap.size + 1 + 1, 0, none⟩)]) (by simp) (by simp [go_sem]) ?_
   refine (cCatch_panicking _ _ _ _ R.1.1 [] w5 e0 e1 g0 g1 (by omega)).mono ?_
   rintro e u' w6 ⟨rfl, rfl, hk3, h2, h3⟩
   simp [bodyPostD, Leaves, settle, results, Tryz.results13, go_sem, h2, h3]
   obtain ⟨q1, q2, q3⟩ := HFN.out w6 hk3
   rw [HFO.out]
   exact ⟨rfl, F5, q1, q2, q3⟩
end Go.Proofs.YtjjbdbklbghlhaaGreatDoor
