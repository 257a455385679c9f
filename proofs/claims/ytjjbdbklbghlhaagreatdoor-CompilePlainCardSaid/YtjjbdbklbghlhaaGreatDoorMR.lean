/- wakes: what the document says of a short star. -/
import Derived.Test.YtjjbdbklbghlhaaGreatDoorMQ
import Derived.Test.YtjjbdbklbghlhaaGreatDoorMP
import Derived.Test.YtjjbdbklbghlhaaGreatDoorMN
namespace Go.Proofs.YtjjbdbklbghlhaaGreatDoor
open Go.RowKit Go.Maps
set_option linter.unusedSimpArgs false

def insH (x : Hdr) : List Hdr → List Hdr
 | [] => [x]
 | y :: ys => if ltH y x then y :: insH x ys else x :: y :: ys
def isortH : List Hdr → List Hdr
 | [] => []
 | x :: xs => insH x (isortH xs)
theorem insH_perm (x : Hdr) : ∀ l, (insH x l).Perm (x :: l)
 | [] => .refl _
 | y :: ys => by
  unfold insH
  split
  ·exact ((insH_perm x ys).cons y).trans (.swap x y ys)
  ·exact .refl _
theorem isortH_perm : ∀ l, (isortH l).Perm l
 | [] => .refl _
 | x :: xs => (insH_perm x _).trans ((isortH_perm xs).cons x)
theorem insH_sorted (x : Hdr) : ∀ l, l.Pairwise (fun a b => (!ltH b a) = true) → (insH x l).Pairwise fun a b => (!ltH b a) = true
 | [], _ => by simp [insH]
 | y :: ys, h => by
  unfold insH
  have hy := List.pairwise_cons.1 h
  split
  ·rename_i hlt
   refine List.pairwise_cons.2 ⟨fun z hz => ?_, insH_sorted x ys hy.2⟩
   rcases List.mem_cons.1 ((insH_perm x ys).mem_iff.1 hz) with rfl | hz
   ·simp [ltH_asymm hlt]
   ·exact hy.1 z hz
  ·rename_i hlt
   refine List.pairwise_cons.2 ⟨fun z hz => ?_, h⟩
   rcases List.mem_cons.1 hz with rfl | hz
   ·simpa using hlt
   ·exact leH_trans _ _ _ (by simpa using hlt) (hy.1 z hz)
theorem isortH_sorted : ∀ l, (isortH l).Pairwise fun a b => (!ltH b a) = true
 | [] => List.Pairwise.nil
 | x :: xs => insH_sorted x _ (isortH_sorted xs)
theorem sortH_eq : sortH = isortH := funext fun l => eq_of_sorted (sortH_sorted l) (isortH_sorted l) ((sortH_perm l).trans (isortH_perm l).symm)

/-- the plain meaning over any way to sort -/
def allS (S : List Hdr → List Hdr) (F : Hdr → Int → Option (List Hdr × Int)) (l : List Hdr) (c : Int) : Option (List Hdr × Int) := (gather F l [] c).map fun r => (S r.1, r.2)
def starS (S : List Hdr → List Hdr) (F : Hdr → Int → Option (List Hdr × Int)) : Nat → List Hdr → List Hdr → Int → Option (List Hdr × Int)
 | 0, _, _, _ => none
 | r + 1, S', fresh, c => (allS S F fresh c).bind fun a => (starPut S' [] a.1).bind fun p => if p.2 = [] then some (S p.1, a.2) else starS S F r p.1 p.2 a.2
mutual
def Tm.ofS (S : List Hdr → List Hdr) : Tm → Hdr → Int → Option (List Hdr × Int)
 | .mk op f n ks, x, c =>
  if op = 6 then (askM c (Tm.szAll ks + 1 : Nat)).bind fun c' => some (if Tm.holdsHead ks x then [x] else [], c')
  else if op = 7 then (askM c 1).bind fun c' => some ([x.put f.toNat n], c')
  else if op = 9 then Tm.thenS S ks [x] c
  else if op = 10 then Tm.starsS S ks x c
  else (Tm.unionS S ks x [] c).map fun r => (S r.1, r.2)
def Tm.thenS (S : List Hdr → List Hdr) : List Tm → List Hdr → Int → Option (List Hdr × Int)
 | [], l, c => some (l, c)
 | t :: ts, l, c => (allS S (fun x c => t.ofS S x c) l c).bind fun r => Tm.thenS S ts r.1 r.2
def Tm.starsS (S : List Hdr → List Hdr) : List Tm → Hdr → Int → Option (List Hdr × Int)
 | [], _, _ => none
 | t :: _, x, c => starS S (fun x c => t.ofS S x c) 64 [x] [x] c
def Tm.unionS (S : List Hdr → List Hdr) : List Tm → Hdr → List Hdr → Int → Option (List Hdr × Int)
 | [], _, T, c => some (T, c)
 | t :: ts, x, T, c => (t.ofS S x c).bind fun r => (putAll T r.1).bind fun S' => Tm.unionS S ts x S' r.2
end
def hz : Hdr := Vector.replicate 11 0
theorem hz1 : (hz.put 9 1).cs = #[.int .u64 0, .int .u64 0, .int .u64 0, .int .u64 0, .int .u64 0, .int .u64 0, .int .u64 0, .int .u64 0, .int .u64 0, .int .u64 1, .int .u64 0] := by kernel_rfl
theorem hz0 : hz.cs = #[.int .u64 0, .int .u64 0, .int .u64 0, .int .u64 0, .int .u64 0, .int .u64 0, .int .u64 0, .int .u64 0, .int .u64 0, .int .u64 0, .int .u64 0] := by kernel_rfl
end Go.Proofs.YtjjbdbklbghlhaaGreatDoor
/- The law's short policy, in plain words. -/
namespace Go.Proofs.YtjjbdbklbghlhaaGreatDoor
open Go.RowKit Go.Sort Go.Maps Go.Lib
set_option linter.unusedSimpArgs false

def ckIs : Tm := .mk 2 5 5 []
def ckSet : Tm := .mk 7 9 1 []
def ckT : Tm := .mk 9 0 0 [.mk 6 0 0 [ckIs], ckSet]
def ckBad : Tm := .mk 2 3 0 []
def ckA : AcD := ⟨0, 9, 1⟩
def ck0 : NdD := ⟨-1, 0, 0, 0, [[]]⟩
def ck1 : NdD := ⟨-1, 0, 0, 0, []⟩
def ck2 : NdD := ⟨5, 5, 0, 1, []⟩
def ck3 : NdD := ⟨-1, 0, 0, 0, [[ckA]]⟩
def ck4 : NdD := ⟨5, 5, 3, 1, []⟩
def ckL : List NdD := [ck0, ck1, ck2, ck3, ck4]
theorem ck_term : termC ckT [] = ((0, 4), ckL) := by kernel_rfl
theorem ck_wrong : wrongT ckT = 0 := by kernel_rfl
theorem ck_bad : wrongT ckBad = 170 := by kernel_rfl
theorem ck_of : ofS [] ckT = ((4, 0), ckL) := by
 unfold ofS
 rw [ck_wrong, ck_term]
 rfl
theorem ck_ofBad : ofS ckL ckBad = ((0, 170), ckL) := by
 unfold ofS
 rw [ck_bad]
 rfl
def ckH (n : Int) : Hdr := Hdr.put (Hdr.put (Vector.replicate 11 0) 2 2048) 5 n
theorem ck_down5 : downP 5 ckL 4 (ckH 5) = 3 := by kernel_rfl
theorem ck_down6 : downP 5 ckL 4 (ckH 6) = 1 := by kernel_rfl
theorem ck_run5 : runH ckL 4 (ckH 5) = (0, [(ckH 5).put 9 1]) := by
 unfold runH
 rw [show (getP ckL 4).isSome = true from by kernel_rfl, if_pos rfl, show (4 : Int).toNat + 1 = 5 from rfl, show (4 : Int).toNat = 4 from rfl, ck_down5]
 unfold makeL
 rw [sortH_eq]
 kernel_rfl
theorem ck_run6 : runH ckL 4 (ckH 6) = (0, []) := by
 unfold runH
 rw [show (getP ckL 4).isSome = true from by kernel_rfl, if_pos rfl, show (4 : Int).toNat + 1 = 5 from rfl, show (4 : Int).toNat = 4 from rfl, ck_down6]
 unfold makeL
 rw [sortH_eq]
 kernel_rfl
end Go.Proofs.YtjjbdbklbghlhaaGreatDoor
/- The law's wakes: a short policy compiled and run. -/
namespace Go.Proofs.YtjjbdbklbghlhaaGreatDoor
open Go.RowKit Go.Sort Go.Maps Go.Lib
set_option linter.unusedSimpArgs false

theorem SD.from {F : Nat → Prop} {w w1 w2 : World} {p : Nat} {L : List NdD} {S : Nat → Prop} (h : SD F w1 p L) (ht : Tb w) (hF : ∀ b, F b → w.heap.size ≤ b) (hk : Keep S w1 w2) (hS : ∀ b, F b → ¬ S b) (hx : Ext w w2) : SD F w2 p L :=
 ⟨h.st.keep hk.size (fun b hb => hk.block b (h.st.lt b hb) (hS b hb)), h.inv, w, ht, hx, hF⟩
theorem DPost.ext1 {F : Nat → Prop} {w0 w w' : World} {p : Nat} {R : (Int × Int) × List NdD} {e : Ending} (hx : Ext w0 w) (hF : ∀ b, F b → w0.heap.size ≤ b) (h : DPost F w p R e w') : ∃ F', SD F' w' p R.2 ∧ (∀ b, F' b → w0.heap.size ≤ b) ∧ (∀ b, F' b → F b ∨ w.heap.size ≤ b) ∧ Keep F w w' ∧ Ext w0 w' := by
 obtain ⟨-, F', h1, h2, h3⟩ := h
 exact ⟨F', h1, fun b hb => (h2 b hb).elim (hF b) (fun e => Nat.le_trans hx.size e), h2, h3, hx.andKeep h3 hF⟩
theorem ckL_fits : InvF ckL := by
 intro x hx
 simp only [ckL, List.mem_cons, List.not_mem_nil, or_false] at hx
 rcases hx with rfl | rfl | rfl | rfl | rfl <;> decide

set_option maxRecDepth 100000 in
set_option maxHeartbeats 8000000 in
theorem wakes22_any (w : World) (ht : Tb w) : Calls Tryz.prog 11 #[] w fun e w' => e = .returned (.bool true) ∧ Ext w w' := by
 have HT := Hd ht
 obtain ⟨w1, h1⟩ : ∃ W : World, w.alloc (.cells #[.int .i8 2, .int .i8 5, .int .u64 5, .slice none 0 0] 26) = W := ⟨_, rfl⟩
 obtain ⟨w2, h2⟩ : ∃ W : World, w1.alloc (.cells #[.int .i8 7, .int .i8 9, .int .u64 1, .slice none 0 0] 26) = W := ⟨_, rfl⟩
 obtain ⟨w3, h3⟩ : ∃ W : World, w2.alloc (.cells #[.int .i8 2, .int .i8 5, .int .u64 5, .slice none 0 0] 26) = W := ⟨_, rfl⟩
 obtain ⟨w4, h4⟩ : ∃ W : World, w3.alloc (.cells #[.int .i8 6, .int .i8 0, .int .u64 0, .slice (some ⟨w2.heap.size, 0, none⟩) 1 1, .int .i8 7, .int .i8 9, .int .u64 1, .slice none 0 0] 26) = W := ⟨_, rfl⟩
 obtain ⟨w5, h5⟩ : ∃ W : World, w4.alloc (.cells #[.int .i8 9, .int .i8 0, .int .u64 0, .slice (some ⟨w3.heap.size, 0, none⟩) 2 2] 26) = W := ⟨_, rfl⟩
 have x1 : Ext w w1 := h1 ▸ Ext.alloc _ _
 have x2 : Ext w1 w2 := h2 ▸ Ext.alloc _ _
 have x3 : Ext w2 w3 := h3 ▸ Ext.alloc _ _
 have x4 : Ext w3 w4 := h4 ▸ Ext.alloc _ _
 have x5 : Ext w4 w5 := h5 ▸ Ext.alloc _ _
 have s1 : w1.heap.size = w.heap.size + 1 := by rw [← h1, World.size_alloc]
 have s2 : w2.heap.size = w.heap.size + 1 + 1 := by rw [← h2, World.size_alloc, s1]
 have s3 : w3.heap.size = w.heap.size + 1 + 1 + 1 := by rw [← h3, World.size_alloc, s2]
 have s4 : w4.heap.size = w.heap.size + 1 + 1 + 1 + 1 := by rw [← h4, World.size_alloc, s3]
 have v1 : ckIs.Val w2 (.agg #[.int .i8 2, .int .i8 5, .int .u64 5, .slice none 0 0]) := val_leaf (by decide) (by decide) (by decide)
 have a1 := allAt_one v1 26
 rw [h3] at a1
 have v2 := val_mk (op := 6) (f := 0) (n := 0) (by decide) (by decide) (by decide) _ 1 1 rfl (by decide) (by decide) a1
 have v3 : ckSet.Val w3 (.agg #[.int .i8 7, .int .i8 9, .int .u64 1, .slice none 0 0]) := val_leaf (by decide) (by decide) (by decide)
 have a2 := allAt_two v2 v3 26
 rw [h4] at a2
 have v4 := val_mk (op := 9) (f := 0) (n := 0) (by decide) (by decide) (by decide) _ 2 2 rfl (by decide) (by decide) a2
 have HV := Hd (show ckT.Val w5 (.agg #[.int .i8 9, .int .i8 0, .int .u64 0, .slice (some ⟨w3.heap.size, 0, none⟩) 2 2]) from v4.later x5.later)
 have HC := Hd (show w5.cell? ⟨w4.heap.size, 0, none⟩ = some (.int .i8 9) ∧ w5.cell? ⟨w4.heap.size, 1, none⟩ = some (.int .i8 0) ∧ w5.cell? ⟨w4.heap.size, 2, none⟩ = some (.int .u64 0) ∧ w5.cell? ⟨w4.heap.size, 3, none⟩ = some (.slice (some ⟨w3.heap.size, 0, none⟩) 2 2) from by
  rw [← h5]
  refine ⟨?_, ?_, ?_, ?_⟩ <;> simp [go_sem])
 rw [s2] at h4
 rw [s3] at h5 HV
 rw [s4, s3] at HC
 have HX5 := Hd (x1.trans (x2.trans (x3.trans (x4.trans x5))))
 have c10 : w1.cell? ⟨w.heap.size, 0, none⟩ = some (.int .i8 2) := by rw [← h1]; simp [go_sem]
 have HEQ := Hd (And.intro h1 (And.intro h2 (And.intro h3 (And.intro h4 h5))))
 have HSZ := Hd (And.intro s1 (And.intro s2 (And.intro s3 s4)))
 clear x1 x2 x3 x4 x5 v1 v2 v3 v4 a1 a2 ht h1 h2 h3 h4 h5 s1 s2 s3 s4 c10
 go_enter Tryz.func11, Tryz.ntmps11
 go_upto_region 4 with fail
 try simp only [HEQ.out.1, HEQ.out.2.1, HEQ.out.2.2.1, HEQ.out.2.2.2.1, HEQ.out.2.2.2.2]
 clear HEQ
 go_wp2_with fail
 refine (newS_any w5).mono ?_
 rintro e w6 ⟨p, F1, rfl, hst, hF1, hx6⟩
 have HS6 := Hd (show SD F1 w6 p [] from ⟨hst, InvO.nil, w5, HT.out.ext HX5.out, hx6, hF1⟩)
 have HOF := Hd (cof_any p [] ckT _ w6 HS6.out ⟨w5, hx6, hF1, HV.out⟩)
 rw [ck_of] at HOF
 have HX6 := Hd (HX5.out.trans hx6)
 have HF6 := Hd (show ∀ b, F1 b → w.heap.size ≤ b from fun b hb => by have := hF1 b hb; have := HX5.out.size; omega)
 have c0 := hx6.later _ _ HC.out.1
 have c1 := hx6.later _ _ HC.out.2.1
 have c2 := hx6.later _ _ HC.out.2.2.1
 have c3 := hx6.later _ _ HC.out.2.2.2
 clear hst hF1 hx6
 go_wp2_with fail
 refine HOF.out.mono ?_
 intro e w7 hp
 obtain rfl := hp.1
 obtain ⟨F7, hs7, hF7, -, -, hx7⟩ := hp.ext1 HX6.out HF6.out
 have H7 := Hd (And.intro hs7 (And.intro hF7 hx7))
 clear hp hs7 hF7 hx7 c0 c1 c2 c3 HOF
 dsimp only
 obtain ⟨w8, h8⟩ : ∃ W : World, w7.alloc (.cells #[.int .u64 0, .int .u64 0, .int .u64 0, .int .u64 0, .int .u64 0, .int .u64 0, .int .u64 0, .int .u64 0, .int .u64 0, .int .u64 0, .int .u64 0] 49) = W := ⟨_, rfl⟩
 have HE8 := Hd h8
 have x8 : Ext w7 w8 := h8 ▸ Ext.alloc _ _
 have s8 : w8.heap.size = w7.heap.size + 1 := by rw [← h8, World.size_alloc]
 have hr8 : w8.rangeAt w7.heap.size 0 (Hdr.cs (Vector.replicate 11 0)).toList := by
  rw [← h8]
  exact rangeAt_new w7 _ 49
 have g2 : w8.cell? ⟨w7.heap.size, 2, none⟩ = some (.int .u64 0) := by rw [← h8]; simp [go_sem]
 have g5 : w8.cell? ⟨w7.heap.size, 5, none⟩ = some (.int .u64 0) := by rw [← h8]; simp [go_sem]
 have z2 : w8.frozen? ⟨w7.heap.size, 2, none⟩ = false := by rw [← h8]; simp [go_sem]
 have z5 : w8.frozen? ⟨w7.heap.size, 5, none⟩ = false := by rw [← h8]; simp [go_sem]
 obtain ⟨w9, h9⟩ : ∃ W : World, (w8.setCell ⟨w7.heap.size, 2, none⟩ (.int .u64 2048)).setCell ⟨w7.heap.size, 5, none⟩ (.int .u64 5) = W := ⟨_, rfl⟩
 have HR9 := Hd (show w9.rangeAt w7.heap.size 0 (ckH 5).cs.toList from by
  rw [← h9]
  exact range_put (range_put hr8 2 2048 (by omega)) 5 5 (by omega))
 have k9 : Keep (fun i => i = w7.heap.size) w8 w9 := by rw [← h9]; exact (Keep.set (S := fun i => i = w7.heap.size) w8 ⟨w7.heap.size, 2, none⟩ (.int .u64 2048) rfl).trans (Keep.set _ ⟨w7.heap.size, 5, none⟩ (.int .u64 5) rfl)
 have x9 : Ext w7 w9 := x8.andKeep k9 (fun i hi => by omega)
 have y5 : w9.frozen? ⟨w7.heap.size, 5, none⟩ = false := by rw [← h9, World.frozen?_setCell, World.frozen?_setCell]; exact z5
 have HX9 := Hd (H7.out.2.2.trans x9)
 have HS9 := Hd (show SD F7 w9 p ckL from H7.out.1.ext x9)
 have HS79 := Hd (show w7.heap.size < w9.heap.size from by have := k9.size; omega)
 have HRUN := Hd (dRun_any p ckL 4 (ckH 5) w9 HS9.out.st HS9.out.inv ckL_fits ⟨by decide, by decide⟩)
 unfold RunPost at HRUN
 rw [ck_run5] at HRUN
 have HE9 := Hd h9
 have HZ := Hd y5
 clear h8 h9 x8 s8 hr8 k9 x9 y5
 go_upto_region 7 with fail
 rw [HE8.out]
 go_upto_region 9 with fail
 try rw [HE9.out]
 clear HE8 HE9 g2 g5 z2 z5
 go_wp2_with (first | (refine wpList_load_H rfl _ rfl w7.heap.size 0 rfl (ckH 5) HR9.out ?_))
 refine HRUN.out.mono ?_
 rintro e w10 ⟨⟨v, rfl, q, n, c, rfl, hn, hor⟩, hx10⟩
 obtain rfl : n = 1 := hn
 obtain ⟨b, o, rfl, hb, hr⟩ := hor.resolve_left (by simp)
 have ha9 : w10.cell? ⟨b, o + 9, none⟩ = some (.int .u64 1) := hr 9 _ (by kernel_rfl)
 have HA := Hd (And.intro ha9 hb)
 have HX10 := Hd (HX9.out.trans hx10)
 have HS10 := Hd (HS9.out.ext hx10)
 have hr10 := World.rangeAt.later hx10.later HR9.out
 have g5 : w10.cell? ⟨w7.heap.size, 5, none⟩ = some (.int .u64 5) := hr10 5 _ (by kernel_rfl)
 have z5 : w10.frozen? ⟨w7.heap.size, 5, none⟩ = false := by rw [Below.frozen hx10 HS79.out]; exact HZ.out
 obtain ⟨w11, h11⟩ : ∃ W : World, w10.setCell ⟨w7.heap.size, 5, none⟩ (.int .u64 6) = W := ⟨_, rfl⟩
 have HR11 := Hd (show w11.rangeAt w7.heap.size 0 (ckH 6).cs.toList from by
  have h6 : ckH 6 = (ckH 5).put 5 6 := by kernel_rfl
  rw [← h11, h6]
  exact range_put hr10 5 6 (by omega))
 have k11 : Keep (fun i => i = w7.heap.size) w10 w11 := by rw [← h11]; exact Keep.set (S := fun i => i = w7.heap.size) w10 ⟨w7.heap.size, 5, none⟩ (.int .u64 6) rfl
 have HX11 := Hd (show Ext w w11 from HX10.out.andKeep k11 (fun i hi => by have := H7.out.2.2.size; omega))
 have HS11 := Hd (show SD F7 w11 p ckL from HS10.out.from HT.out H7.out.2.1 k11 (fun b hb e => by have := H7.out.1.st.lt b hb; omega) HX11.out)
 have HRUN2 := Hd (dRun_any p ckL 4 (ckH 6) w11 HS11.out.st HS11.out.inv ckL_fits ⟨by decide, by decide⟩)
 unfold RunPost at HRUN2
 rw [ck_run6] at HRUN2
 have ha11 : w11.cell? ⟨b, o + 9, none⟩ = some (.int .u64 1) := k11.cell ha9 (fun e => by have e : b = w7.heap.size := e; have := HS79.out; omega)
 have HA11 := Hd ha11
 have HE11 := Hd h11
 clear hr hor hx10 hr10 ha9 ha11 h11 k11 HRUN
 dsimp only
 go_upto_region 10 with fail
 go_upto_region 11 with fail
 rw [HE11.out]
 clear HE11 g5 z5
 go_wp2_with (first | (refine wpList_load_H rfl _ rfl w7.heap.size 0 rfl (ckH 6) HR11.out ?_))
 refine HRUN2.out.mono ?_
 rintro e w12 ⟨⟨v, rfl, q2, n2, c2, rfl, hn2, -⟩, hx12⟩
 obtain rfl : n2 = 0 := hn2
 have HA12 := Hd (hx12.later _ _ HA11.out)
 have HS12 := Hd (HS11.out.ext hx12)
 have HX12 := Hd (HX11.out.trans hx12)
 have HBAD := Hd (cof_any p ckL ckBad (.agg #[.int .i8 2, .int .i8 3, .int .u64 0, .slice none 0 0]) w12 HS12.out ⟨w, HX12.out, H7.out.2.1, val_leaf (by decide) (by decide) (by decide)⟩)
 rw [ck_ofBad] at HBAD
 have HNF := Hd (show ¬ F7 b from fun e => by have := H7.out.1.st.lt b e; have := HA.out.2; have := HS79.out; omega)
 clear hx12 HRUN2
 dsimp only
 go_wp2_with fail
 refine HBAD.out.mono ?_
 intro e w13 hp
 obtain rfl := hp.1
 obtain ⟨F13, hs13, hF13, -, hk13, hx13⟩ := hp.ext1 HX12.out H7.out.2.1
 have ha13 : w13.cell? ⟨b, o + 9, none⟩ = some (.int .u64 1) := hk13.cell HA12.out HNF.out
 have HFX := Hd hx13
 clear hp hs13 hF13 hk13 hx13
 dsimp only
 go_wp2_with fail
 go_ret
 exact ⟨rfl, HFX.out⟩
end Go.Proofs.YtjjbdbklbghlhaaGreatDoor
