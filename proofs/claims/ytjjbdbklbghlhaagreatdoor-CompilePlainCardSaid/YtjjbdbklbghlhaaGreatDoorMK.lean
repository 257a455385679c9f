/- The maker's pick, by induction on the fuel. -/
import Derived.Test.YtjjbdbklbghlhaaGreatDoorMJ
import Derived.Test.YtjjbdbklbghlhaaGreatDoorMG
import Derived.Test.YtjjbdbklbghlhaaGreatDoorMA
namespace Go.Proofs.YtjjbdbklbghlhaaGreatDoor
open Go.RowKit Go.Sort Go.Maps Go.Lib
set_option linter.unusedSimpArgs false

theorem pickOk {a b : Nat} {f n : Int} (ha : (a : Int) ≤ 9223372036854775807) (hb : (b : Int) ≤ 9223372036854775807) (ht : TestB (f, n)) : DkD.ok ⟨2, a, b, f, n⟩ := by
 have h1 := ht.1.1
 have h2 := ht.1.2
 have h3 := ht.2
 dsimp only at h1 h2 h3
 refine ⟨?_, ?_, ?_, ?_, ?_⟩ <;> dsimp only <;> omega

set_option maxHeartbeats 8000000 in
set_option maxRecDepth 100000 in
theorem dpick_step (k : Nat) (IH : PickOf k) : PickOf (k + 1) := by
 intro F p m mt L D f n a b w hab ha hb ht h
 have hbd := h.st.inv.2.1
 obtain ⟨w1, hw1⟩ : ∃ W : World, w.alloc (.cells #[.pointer (some ⟨m, 0, none⟩)] 140) = W := ⟨_, rfl⟩
 have x1 : Ext w w1 := hw1 ▸ Ext.alloc _ _
 have s1 : w1.heap.size = w.heap.size + 1 := by rw [← hw1, World.size_alloc]
 obtain ⟨w2, hw2⟩ : ∃ W : World, w1.alloc (.cells #[.int .i8 f] 22) = W := ⟨_, rfl⟩
 have x2 : Ext w1 w2 := hw2 ▸ Ext.alloc _ _
 have s2 : w2.heap.size = w.heap.size + 1 + 1 := by rw [← hw2, World.size_alloc, s1]
 obtain ⟨w3, hw3⟩ : ∃ W : World, w2.alloc (.cells #[.int .u64 n] 23) = W := ⟨_, rfl⟩
 have x3 : Ext w2 w3 := hw3 ▸ Ext.alloc _ _
 have s3 : w3.heap.size = w.heap.size + 1 + 1 + 1 := by rw [← hw3, World.size_alloc, s2]
 obtain ⟨w4, hw4⟩ : ∃ W : World, w3.alloc (.cells #[.int .i64 a] 3) = W := ⟨_, rfl⟩
 have x4 : Ext w3 w4 := hw4 ▸ Ext.alloc _ _
 have s4 : w4.heap.size = w.heap.size + 1 + 1 + 1 + 1 := by rw [← hw4, World.size_alloc, s3]
 obtain ⟨w5, hw5⟩ : ∃ W : World, w4.alloc (.cells #[.int .i64 b] 3) = W := ⟨_, rfl⟩
 have x5 : Ext w4 w5 := hw5 ▸ Ext.alloc _ _
 have c0 : w5.cell? ⟨w.heap.size, 0, none⟩ = some (.pointer (some ⟨m, 0, none⟩)) := (x2.trans (x3.trans (x4.trans x5))).later _ _ (by rw [← hw1]; simp [go_sem])
 have c1 : w5.cell? ⟨w.heap.size + 1, 0, none⟩ = some (.int .i8 f) := (x3.trans (x4.trans x5)).later _ _ (by rw [← hw2, ← s1]; simp [go_sem])
 have c2 : w5.cell? ⟨w.heap.size + 1 + 1, 0, none⟩ = some (.int .u64 n) := (x4.trans x5).later _ _ (by rw [← hw3, ← s2]; simp [go_sem])
 have c3 : w5.cell? ⟨w.heap.size + 1 + 1 + 1, 0, none⟩ = some (.int .i64 a) := x5.later _ _ (by rw [← hw4, ← s3]; simp [go_sem])
 have c4 : w5.cell? ⟨w.heap.size + 1 + 1 + 1 + 1, 0, none⟩ = some (.int .i64 b) := by rw [← hw5, ← s4]; simp [go_sem]
 have HX := Hd (x1.trans (x2.trans (x3.trans (x4.trans x5))))
 have hnf : ∀ z, w.heap.size ≤ z → ¬ F z ∧ z ≠ mt := fun z hz => ⟨fun hF => by have := h.lt.1 z hF; omega, fun e => by have := h.lt.2.2; omega⟩
 have HB := Hd (show Boxes F mt w5 w.heap.size (.pointer (some ⟨m, 0, none⟩)) ∧ Boxes F mt w5 (w.heap.size + 1) (.int .i8 f) ∧ Boxes F mt w5 (w.heap.size + 1 + 1) (.int .u64 n) ∧ Boxes F mt w5 (w.heap.size + 1 + 1 + 1) (.int .i64 a) ∧ Boxes F mt w5 (w.heap.size + 1 + 1 + 1 + 1) (.int .i64 b) from
  ⟨⟨c0, hnf _ (by omega)⟩, ⟨c1, hnf _ (by omega)⟩, ⟨c2, hnf _ (by omega)⟩, ⟨c3, hnf _ (by omega)⟩, ⟨c4, hnf _ (by omega)⟩⟩)
 have HEQ := Hd (And.intro hw1 (And.intro hw2 (And.intro hw3 (And.intro hw4 hw5))))
 have HSZ := Hd (And.intro s1 (And.intro s2 (And.intro s3 s4)))
 have HM := Hd h
 have HIH := Hd IH
 have HAB := Hd (show a + b < k + 1 ∧ a < L.length ∧ b < L.length from ⟨hab, ha, hb⟩)
 have HT := Hd ht
 have hai : (a : Int) ≤ 9223372036854775807 := by omega
 have hbi : (b : Int) ≤ 9223372036854775807 := by omega
 have HOK := Hd (pickOk hai hbi ht)
 clear hw1 hw2 hw3 hw4 hw5 s1 s2 s3 s4 x1 x2 x3 x4 x5 hnf h IH hab ha hb hbd ht
 go_enter Tryz.func112, Tryz.ntmps112
 go_upto_region 1 with fail
 try simp only [HEQ.out.1, HEQ.out.2.1, HEQ.out.2.2.1, HEQ.out.2.2.2.1, HEQ.out.2.2.2.2, HSZ.out.1, HSZ.out.2.1, HSZ.out.2.2.1, HSZ.out.2.2.2]
 by_cases hne : a = b
 ·have HF := Hd (show pickP (k + 1) L (f, n) a b = ((0, a), L) from by rw [pickP, if_pos hne])
  have hq : ((a : Int) == (b : Int)) = true := by rw [beq_iff_eq]; omega
  clear hne
  go_wp2_with fail
  go_ret
  exact HM.out.same HX.out (by rw [HF.out]) (by rw [HF.out]; exact (endD_ok _).symm)
 ·have hq : ((a : Int) == (b : Int)) = false := by rw [beq_eq_false_iff_ne]; omega
  have HON := Hd (donce_any p m mt L D ⟨⟨2, a, b, f, n⟩, HOK.out⟩ 133 #[.pointer (some ⟨w.heap.size, 0, none⟩), .pointer (some ⟨w.heap.size + 1 + 1 + 1, 0, none⟩), .pointer (some ⟨w.heap.size + 1 + 1 + 1 + 1, 0, none⟩), .pointer (some ⟨w.heap.size + 1, 0, none⟩), .pointer (some ⟨w.heap.size + 1 + 1, 0, none⟩)] w5 (HM.out.ext HX.out) (pickP (k + 1) L (f, n) a b)
   (enters_of Tryz.func133 (by kernel_rfl) rfl)
   (by
    show pickP (k + 1) L (f, n) a b = runD 2 (a : Int).toNat (b : Int).toNat f n L
    unfold runD
    rw [if_neg (by decide), if_neg (by decide), if_pos rfl, Int.toNat_natCast, Int.toNat_natCast]
    exact pickP_fuel HM.out.inv HAB.out.2.1 HAB.out.2.2 HAB.out.1 (by omega))
   (fun hr M hM hI => by
    show runD 2 (a : Int).toNat (b : Int).toNat f n M = _
    unfold runD
    rw [if_neg (by decide), if_neg (by decide), if_pos rfl, Int.toNat_natCast, Int.toNat_natCast]
    have e := pickP_fuel (k := k + 1) (k' := a + b + 1) (t := (f, n)) HM.out.inv HAB.out.2.1 HAB.out.2.2 HAB.out.1 (by omega)
    refine pickP_again HM.out.inv HT.out.1.1 HAB.out.2.1 HAB.out.2.2 (c := (pickP (k + 1) L (f, n) a b).1.2) (L' := (pickP (k + 1) L (f, n) a b).2) ?_ hM hI
    rw [← e]
    exact out_eta hr)
   (fun W hW => dpick1_any k HIH.out F p m mt L D f n a b W HAB.out.1 hne HAB.out.2.1 HAB.out.2.2 HT.out (HM.out.ext (HX.out.trans hW)) _ _ _ _ _ (HB.out.1.ext hW) (HB.out.2.2.2.1.ext hW) (HB.out.2.2.2.2.ext hW) (HB.out.2.1.ext hW) (HB.out.2.2.1.ext hW)))
  clear hne
  go_wp2_with fail
  refine HON.out.mono ?_
  intro e w6 hp
  have HP := Hd (hp.from HX.out)
  obtain ⟨he, -⟩ := hp
  by_cases hr : (pickP (k + 1) L (f, n) a b).1.1 = 0
  ·rw [hr, endD_ok] at he
   subst he
   clear hr
   have HFIN := Hd (show MPost F w p m mt (pickP (k + 1) L (f, n) a b) (.returned (.int .i64 (pickP (k + 1) L (f, n) a b).1.2)) w6 from HP.out)
   generalize pickP (k + 1) L (f, n) a b = R at *
   go_wp2_with fail
   go_ret
   exact HFIN.out
  ·rw [endD_no hr] at he
   subst he
   clear hr
   go_wp2_with fail
   exact ⟨rfl, HP.out⟩
theorem dpick_any : ∀ k, PickOf k
 | 0 => fun _ _ _ _ _ _ _ _ _ _ _ hab => absurd hab (Nat.not_lt_zero _)
 | k + 1 => dpick_step k (dpick_any k)
end Go.Proofs.YtjjbdbklbghlhaaGreatDoor
/- join's closure, slices.IndexFunc, slices.ContainsFunc over settings. -/
namespace Go.Proofs.YtjjbdbklbghlhaaGreatDoor
open Go.RowKit Go.Sort Go.Maps Go.Lib
set_option linter.unusedSimpArgs false

set_option maxHeartbeats 4000000 in
theorem djoin1_any (a y : AcD) (z : Nat) (w : World) (c1 : w.cell? ⟨z, 1, none⟩ = some (.int .i8 a.f)) :
  Calls Tryz.prog 145 #[.agg #[.int .i8 y.d, .int .i8 y.f, .int .u64 y.n], .pointer (some ⟨z, 0, none⟩)] w fun e w' => e = .returned (.bool (a.f == y.f)) ∧ Ext w w' := by
 obtain ⟨wA, hA⟩ : ∃ W : World, w.alloc (.cells #[.int .i8 y.d, .int .i8 y.f, .int .u64 y.n] 81) = W := ⟨_, rfl⟩
 have xA : Ext w wA := hA ▸ Ext.alloc _ _
 have d1 : wA.cell? ⟨w.heap.size, 1, none⟩ = some (.int .i8 y.f) := by rw [← hA]; simp [go_sem]
 have c1' := xA.later _ _ c1
 have HX := Hd xA
 have HEQ := Hd hA
 clear xA hA c1
 go_enter Tryz.func145, Tryz.ntmps145
 go_upto_region 1 with fail
 rw [HEQ.out]
 go_wp2_with fail
 go_ret
 exact ⟨rfl, HX.out⟩
def IdxPost (b : Bool) (w : World) (e : Ending) (w' : World) : Prop := (∃ i : Int, e = .returned (.int .i64 i) ∧ (decide (0 ≤ i) = b) ∧ -1 ≤ i ∧ i ≤ 9223372036854775807) ∧ Ext w w'

set_option maxHeartbeats 8000000 in
set_option maxRecDepth 100000 in
theorem dindex_any {B : Nat → Prop} (a : AcD) (more : RowD) (v : Value) (z : Nat) (w : World) (h : RowOn B w more v) (hc : w.cell? ⟨z, 1, none⟩ = some (.int .i8 a.f)) :
  Calls Tryz.prog 152 #[v, .func (.func 145) #[] #[.pointer (some ⟨z, 0, none⟩)]] w (IdxPost (more.any fun b => a.f == b.f) w) := by
 have HR := Hd h
 have HJ := Hd (fun W (hW : Ext w W) y => djoin1_any a y z W (hW.later _ _ hc))
 have eg : ∀ args w, (callFunc 145 args).run Tryz.prog w = .ok (.enter 145 args) w := enters_of Tryz.func145 (by kernel_rfl) rfl
 obtain ⟨pr, lr, cr, rfl, hlr, hlc, hlm, -⟩ := h
 have HLR := Hd hlr
 have HAT := Hd (rowAt HR.out)
 obtain ⟨R, hR⟩ : ∃ R, R = more.any fun b => a.f == b.f := ⟨_, rfl⟩
 rw [← hR]
 have HRE := Hd hR
 clear hlr hR hc
 go_enter Tryz.func152, Tryz.ntmps152
 go_wp2_with fail
 go_loopw [8] (fun i wr => ∃ I : Nat, I ≤ lr ∧ i = .int .i64 I ∧ Hid (((more.take I).any fun b => a.f == b.f) = false) ∧ Hid (Ext w wr)) (fun i _ => lr - (intOf i).toNat)
 case atStart => exact ⟨0, Nat.zero_le _, rfl, by show ((more.take 0).any fun b => a.f == b.f) = false; simp, Ext.refl _⟩
 case round =>
  obtain ⟨wo, rfl⟩ : ∃ wo : World, wo = wr := ⟨_, rfl⟩
  obtain ⟨I, hI, rfl, hno, hx⟩ := hrel
  by_cases h1 : I < lr
  case neg =>
   have HF := Hd (show R = false from by
    have h3 := hno.out
    rw [List.take_of_length_le (by have := HLR.out; omega)] at h3
    rw [HRE.out]; exact h3)
   go_wp2_with fail
   go_ret
   exact ⟨⟨-1, rfl, by rw [HF.out]; rfl, by omega, by omega⟩, hx.out⟩
  have hIl : I < more.length := by rw [← HLR.out]; exact h1
  obtain ⟨b, o, rfl, c0, c1, c2⟩ := HAT.out wo hx.out I hIl
  obtain ⟨y, hy⟩ : ∃ y, y = more[I] := ⟨_, rfl⟩
  have HTK := Hd (show ((more.take (I + 1)).any fun b => a.f == b.f) = (a.f == y.f) from by
   rw [List.take_succ_eq_append_getElem hIl, List.any_append, hno.out, ← hy]
   simp)
  have HYES := Hd (show (a.f == y.f) = true → R = true from fun e => by
   rw [HRE.out, List.any_eq_true]
   exact ⟨y, by rw [hy]; exact List.getElem_mem _, e⟩)
  rw [← hy] at c0 c1 c2
  have HJY := Hd (HJ.out wo hx.out y)
  clear hy hno
  go_wp2_with fail
  refine HJY.out.mono ?_
  rintro e w2 ⟨rfl, hx2⟩
  have hx3 := hx.out.trans hx2
  clear c0 c1 c2
  cases hb : (a.f == y.f) with
  | true =>
   have HF := Hd (HYES.out hb)
   clear hb
   go_wp2_with fail
   go_ret
   exact ⟨⟨I, rfl, by rw [HF.out]; simp, by omega, by omega⟩, hx3⟩
  | false =>
   have HN := Hd (HTK.out.trans hb)
   clear hb
   go_wp2_with fail
   go_roundw
   case rel => exact ⟨I + 1, by omega, by go_num, HN.out, hx3⟩
   case measure => simp [intOf]; omega
end Go.Proofs.YtjjbdbklbghlhaaGreatDoor
/- slices.ContainsFunc over settings; join. -/
namespace Go.Proofs.YtjjbdbklbghlhaaGreatDoor
open Go.RowKit Go.Sort Go.Maps Go.Lib
set_option linter.unusedSimpArgs false

set_option maxHeartbeats 4000000 in
theorem dcontains_any {B : Nat → Prop} (a : AcD) (more : RowD) (v : Value) (z : Nat) (w : World) (h : RowOn B w more v) (hc : w.cell? ⟨z, 1, none⟩ = some (.int .i8 a.f)) :
  Calls Tryz.prog 144 #[v, .func (.func 145) #[] #[.pointer (some ⟨z, 0, none⟩)]] w fun e w' => e = .returned (.bool (more.any fun b => a.f == b.f)) ∧ Ext w w' := by
 have HI := Hd (dindex_any a more v z w h hc)
 generalize (more.any fun b => a.f == b.f) = R at *
 clear h hc
 go_enter Tryz.func144, Tryz.ntmps144
 go_wp2_with fail
 refine HI.out.mono ?_
 rintro e w1 ⟨⟨i, rfl, hi, hi1, hi2⟩, hx⟩
 have HF := Hd hi
 clear hi
 go_wp2_with fail
 go_ret
 exact ⟨by rw [← HF.out]; rfl, hx⟩
def JoinPost (r : RowD) (w : World) (e : Ending) (w' : World) : Prop := (∃ q n c, e = .returned (.slice q n c) ∧ RowOn (fun b => w.heap.size ≤ b) w' r (.slice q n c)) ∧ Ext w w'
theorem rowOkD {B : Nat → Prop} {w : World} {r : RowD} {v : Value} (h : RowOn B w r v) : ∀ x ∈ r, x.ok := by
 obtain ⟨p, n, c, -, -, -, -, hok, -⟩ := h
 exact hok
theorem RowOn.ownD {B : Nat → Prop} {w : World} {base : Nat} {r : RowD} {v : Value} {n : Nat} (h : w.ownsRow base 81 3 v n (flatA r)) (hn : n = r.length) (hok : ∀ x ∈ r, x.ok) (hB : ∀ b, v.ownBlock = some b → B b) : RowOn B w r v := by
 obtain ⟨p, c, rfl, hc, hm⟩ := owns_form h
 refine ⟨p, n, c, rfl, hn, hc, hm, hok, ?_⟩
 rcases owns_range h with ⟨h0, -⟩ | ⟨g, c', he, hb, hlt, hr⟩
 ·exact .inl (List.length_eq_zero_iff.1 (hn ▸ h0))
 ·cases he
  exact .inr ⟨g, 0, rfl, hB g rfl, hlt, hr⟩
def keepA (more : RowD) (r : RowD) : RowD := r.filter fun a => !more.any fun b => a.f == b.f

set_option maxHeartbeats 8000000 in
set_option maxRecDepth 100000 in
theorem djoin_any {B C : Nat → Prop} (row more : RowD) (rv mv : Value) (w : World) (h : RowOn B w row rv) (hm : RowOn C w more mv) (hl : row.length ≤ 10000) (hl2 : more.length ≤ 10000) :
  Calls Tryz.prog 134 #[rv, mv] w (JoinPost (joinA row more) w) := by
 have HR := Hd h
 have HM := Hd hm
 obtain ⟨pr, lr, cr, rfl, hlr, hlc, hlm, -⟩ := h
 obtain ⟨pm, lm, cm, rfl, hlm1, hlm2, hlm3, hmok, hmr⟩ := hm
 have HLR := Hd hlr
 have HLM := Hd hlm1
 have hlr2 : lr ≤ 10000 := by omega
 have hlm4 : lm ≤ 10000 := by omega
 have HAT := Hd (rowAt HR.out)
 have HMR := Hd (show more = [] ∨ ∃ b o, pm = some ⟨b, o, none⟩ ∧ ∀ W, Ext w W → W.rangeAt b o (flatA more) from hmr.imp id fun ⟨b, o, hp, _, _, hr⟩ => ⟨b, o, hp, fun W hW => World.rangeAt.later hW.later hr⟩)
 clear hlr hlm1 hmok hmr hl hl2
 go_enter Tryz.func134, Tryz.ntmps134
 go_wp2_with fail
 go_loopw [5, 10] (fun ov i wr => ∃ I : Nat, I ≤ lr ∧ i = .int .i64 I ∧ Hid (wr.ownsRow w.heap.size 81 3 ov (keepA more (row.take I)).length (flatA (keepA more (row.take I)))) ∧ Hid (Ext w wr)) (fun _ i _ => lr - (intOf i).toNat)
 case atStart => exact ⟨0, Nat.zero_le _, rfl, World.ownsRow_nil _ _ _ _, Ext.refl _⟩
 case round =>
  obtain ⟨wo, rfl⟩ : ∃ wo : World, wo = wr := ⟨_, rfl⟩
  obtain ⟨I, hI, rfl, how, hx⟩ := hrel
  have hkl : (keepA more (row.take I)).length ≤ 10000 := by
   have := List.length_filter_le (fun a : AcD => !more.any fun b => a.f == b.f) (row.take I)
   rw [List.length_take] at this
   unfold keepA
   omega
  by_cases h1 : I < lr
  case neg =>
   have hfull : row.take I = row := List.take_of_length_le (by have := HLR.out; omega)
   rw [hfull] at how hkl
   have hsz := hx.out.size
   go_wp2_with (at_builtin; refine wpList_append_E elemA rfl (.tmp 23) (.tmp 24) rfl w.heap.size u5 _ _ rfl how.out pm lm cm (flatA more) rfl (by rw [flatA_len, ← HLM.out]) (by
    rcases HMR.out with hm0 | ⟨b, o, rfl, hr⟩
    ·exact .inl (by rw [HLM.out, hm0]; rfl)
    ·exact .inr ⟨_, rfl, fun j u hu => by rw [Addr.add_mid]; exact hr wo hx.out j u hu⟩) (fun u hu => by
    obtain ⟨x, hxm, hxu⟩ := List.mem_flatMap.1 hu
    exact x.one u hxu) (by omega) (by omega) hsz ?_; intro v' w' o1 g1 t1)
   have HFIN := Hd (show JoinPost (joinA row more) w (.returned v') w' from by
    have hje : joinA row more = keepA more row ++ more := rfl
    have hro := RowOn.ownD (B := fun b => w.heap.size ≤ b) (r := joinA row more) (by rw [hje, flatA_app]; exact o1) (by rw [hje, List.length_append, HLM.out]) (fun x hx => by
     rw [hje] at hx
     rcases List.mem_append.1 hx with hx | hx
     ·exact rowOkD HR.out x (List.mem_filter.1 hx).1
     ·exact rowOkD HM.out x hx) (fun b hb => (owns_lt o1 b hb).1)
    obtain ⟨q, n, c, he, -⟩ := id hro
    subst he
    exact ⟨⟨q, n, c, rfl, hro⟩, hx.out.grownV g1 (fun i hi => (owns_lt how.out i hi).1)⟩)
   clear o1 g1 t1
   go_wp2_with fail
   go_ret
   exact HFIN.out
  have hIl : I < row.length := by rw [← HLR.out]; exact h1
  obtain ⟨b, o, rfl, c0, c1, c2⟩ := HAT.out wo hx.out I hIl
  obtain ⟨a, ha⟩ : ∃ a, a = row[I] := ⟨_, rfl⟩
  have HTK := Hd (show keepA more (row.take (I + 1)) = keepA more (row.take I) ++ (if (more.any fun b => a.f == b.f) = true then [] else [a]) from by
   unfold keepA
   rw [List.take_succ_eq_append_getElem hIl, List.filter_append, ← ha, List.filter_cons, List.filter_nil]
   cases (more.any fun b => a.f == b.f) <;> simp)
  rw [← ha] at c0 c1 c2
  obtain ⟨wS, hS⟩ : ∃ W : World, wo.alloc (.cells #[.int .i8 a.d, .int .i8 a.f, .int .u64 a.n] 81) = W := ⟨_, rfl⟩
  have xS : Ext wo wS := hS ▸ Ext.alloc _ _
  have e0 : wS.cell? ⟨wo.heap.size, 0, none⟩ = some (.int .i8 a.d) := by rw [← hS]; simp [go_sem]
  have e1 : wS.cell? ⟨wo.heap.size, 1, none⟩ = some (.int .i8 a.f) := by rw [← hS]; simp [go_sem]
  have e2 : wS.cell? ⟨wo.heap.size, 2, none⟩ = some (.int .u64 a.n) := by rw [← hS]; simp [go_sem]
  have HEQ := Hd hS
  have HXS := Hd (hx.out.trans xS)
  have HCO := Hd (dcontains_any a more (.slice pm lm cm) wo.heap.size wS (HM.out.ext HXS.out) e1)
  have HE := Hd (fun W (hW : Ext wS W) => And.intro (hW.later _ _ e0) (And.intro (hW.later _ _ e1) (hW.later _ _ e2)))
  clear hS ha e0 e1 e2
  go_upto_region 5 with (first | (refine wpList_store_new rfl 81 _ _ rfl _ #[.int .i8 a.d, .int .i8 a.f, .int .u64 a.n] rfl rfl (by kernel_rfl) rfl (by rfl) ?_))
  rw [HEQ.out]
  try simp only [Act.put]
  clear c0 c1 c2 HEQ
  go_wp2_with fail
  refine HCO.out.mono ?_
  rintro e w3 ⟨rfl, hx3⟩
  obtain ⟨e0, e1, e2⟩ := HE.out w3 hx3
  have HX3 := Hd (HXS.out.trans hx3)
  cases hb : (more.any fun b => a.f == b.f) with
  | true =>
   have HN := Hd (show keepA more (row.take (I + 1)) = keepA more (row.take I) from by rw [HTK.out, hb]; simp)
   have HO := Hd (owns_ext how.out (xS.trans hx3))
   clear hb how
   go_wp2_with fail
   go_roundw
   case rel => exact ⟨I + 1, by omega, by go_num, by rw [HN.out]; exact HO.out, HX3.out⟩
   case measure => simp [intOf]; omega
  | false =>
   have HN := Hd (show keepA more (row.take (I + 1)) = keepA more (row.take I) ++ [a] from by rw [HTK.out, hb]; simp)
   have HO := Hd (owns_ext how.out ((xS.trans hx3).andAlloc (.cells #[.int .i8 a.d, .int .i8 a.f, .int .u64 a.n] 81)))
   have HXn := Hd (HX3.out.andAlloc (.cells #[.int .i8 a.d, .int .i8 a.f, .int .u64 a.n] 81))
   have hsz := HXn.out.size
   clear hb how
   go_wp2_with (at_builtin; refine wpList_append_E elemA rfl (.tmp 18) (.tmp 20) rfl w.heap.size u5 _ _ rfl HO.out (some ⟨w3.heap.size, 0, none⟩) 1 1 a.cs rfl rfl (.inr ⟨_, rfl, fun i u hu => by
     match i with
     | 0 => cases hu; simp [go_sem]
     | 1 => cases hu; simp [go_sem]
     | 2 => cases hu; simp [go_sem]
     | i + 3 => simp [AcD.cs] at hu⟩) a.one (by omega) (by omega) hsz ?_; intro v4 w4 o4 g4 t4)
   have HO4 := Hd (show w4.ownsRow w.heap.size 81 3 v4 (keepA more (row.take I) ++ [a]).length (flatA (keepA more (row.take I) ++ [a])) from by
    rw [flatA_app, List.length_append]
    simpa [flatA] using o4)
   have HX4 := Hd (HXn.out.grownV g4 (fun i hi => (owns_lt HO.out i hi).1))
   clear o4 g4 t4
   go_roundw
   case rel => exact ⟨I + 1, by omega, by go_num, by rw [HN.out]; exact HO4.out, HX4.out⟩
   case measure => simp [intOf]; omega
end Go.Proofs.YtjjbdbklbghlhaaGreatDoor
/- The maker's behind: what a diagram makes of what a row of settings made. -/
namespace Go.Proofs.YtjjbdbklbghlhaaGreatDoor
open Go.RowKit Go.Sort Go.Maps Go.Lib
set_option linter.unusedSimpArgs false

/-- a row that the maker does not write over -/
def RowF (F : Nat → Prop) (mt : Nat) (w : World) (row : RowD) (rv : Value) : Prop := RowOn (fun z => ¬ F z ∧ z ≠ mt) w row rv
theorem RowF.ext {F : Nat → Prop} {mt : Nat} {w w' : World} {row : RowD} {rv : Value} (h : RowF F mt w row rv) (hx : Ext w w') : RowF F mt w' row rv := RowOn.ext h hx
theorem RowF.went {F F' : Nat → Prop} {mt : Nat} {w w' : World} {row : RowD} {rv : Value} (h : RowF F mt w row rv) (hw : Went F mt w F' w') : RowF F' mt w' row rv := by
 have h1 := RowOn.mono (C := fun z => (¬ F z ∧ z ≠ mt) ∧ z < w.heap.size) h (fun z hlt hz => ⟨hz, hlt⟩)
 have h2 := RowOn.keep h1 hw.2.size (fun z hz hlt => hw.2.block z hlt (fun e => e.elim hz.1.1 hz.1.2))
 exact RowOn.mono h2 (fun z _ hz => ⟨fun e => (hw.1 z e).elim hz.1.1 (fun e => by have := hz.2; omega), hz.1.2⟩)
def BehindOf (k : Nat) : Prop := ∀ (F : Nat → Prop) (p m mt : Nat) (L : List NdD) (D : List (Dk × Nat)) (row : RowD) (rv : Value) (b : Nat) (w : World), b < k → b < L.length → row.length ≤ 9000 → RowF F mt w row rv → Mk F w p m mt L D →
 Calls Tryz.prog 113 #[.pointer (some ⟨m, 0, none⟩), rv, .int .i64 b] w (MPost F w p m mt (behindP k L row b))
theorem Mk.leafs {F : Nat → Prop} {w : World} {p m mt : Nat} {L : List NdD} {D : List (Dk × Nat)} (h : Mk F w p m mt L D) {a : Nat} (ha : a < L.length) : (nodeP L a).leaf.length ≤ 64 ∧ ∀ r ∈ (nodeP L a).leaf, r.length ≤ 11 := by
 rcases (h.st.inv.2.2 _ (List.mem_of_getElem? (nodeP_some ha))).2 with ⟨l', -, hl', h64⟩ | ⟨-, hl'⟩
 ·exact ⟨h64, rowsP_short hl'⟩
 ·rw [hl']; exact ⟨by simp, (fun r hr => by cases hr)⟩
theorem Mk.testB {F : Nat → Prop} {w : World} {p m mt : Nat} {L : List NdD} {D : List (Dk × Nat)} (h : Mk F w p m mt L D) {a : Nat} (ha : a < L.length) (hf : 0 ≤ (nodeP L a).f) : TestB ((nodeP L a).f, (nodeP L a).n) := by
 have := (h.st.inv.2.2 _ (List.mem_of_getElem? (nodeP_some ha))).1
 exact ⟨⟨hf, this.1.2⟩, this.2.1⟩
theorem find_at {r : RowD} {f : Int} {I : Nat} (hI : I < r.length) (h : (r.take I).find? (fun a => a.f == f) = none) (e : (r[I]).f = f) : r.find? (fun a => a.f == f) = some r[I] := by
 have e1 : r = r.take I ++ r[I] :: r.drop (I + 1) := by rw [← List.drop_eq_getElem_cons hI, List.take_append_drop]
 refine (congrArg (List.find? fun a => a.f == f) e1).trans ?_
 rw [List.find?_append, h, Option.none_or, List.find?_cons_of_pos (by simp [e])]

set_option maxHeartbeats 8000000 in
set_option maxRecDepth 100000 in
theorem dbehind_step (k : Nat) (IH : BehindOf k) : BehindOf (k + 1) := by
 intro F p m mt L D row rv b w hbk hb hrl hrow h
 have HM := Hd h
 have HIH := Hd IH
 have HB := Hd (And.intro hbk hb)
 have HRO := Hd hrow
 have HND := Hd (dnode_any p m mt L D b w h hb)
 have HUP := Hd (show behindP (k + 1) L row b = (if (nodeP L b).f < 0 then leafR L ((nodeP L b).leaf.map (joinA row)) else
   match row.find? fun a => a.f == (nodeP L b).f with
   | some a => if a.n = (nodeP L b).n then behindP k L row (nodeP L b).hi.toNat else behindP k L row (nodeP L b).lo.toNat
   | none => bindR (behindP k L row (nodeP L b).hi.toNat) fun h L1 => bindR (behindP k L1 row (nodeP L b).lo.toNat) fun l L2 => pickP (h + l + 1) L2 ((nodeP L b).f, (nodeP L b).n) h l) from by rw [behindP]; rfl)
 have HKD := Hd (fun hf => h.inv.kids hb hf)
 have HLF := Hd (h.leafs hb)
 have HTB := Hd (fun hf => h.testB hb hf)
 generalize behindP (k + 1) L row b = R at *
 obtain ⟨x, hx⟩ : ∃ x, x = nodeP L b := ⟨_, rfl⟩
 rw [← hx] at HND HUP HKD HLF HTB
 obtain ⟨pr, lr, cr, rfl, hlr, hlc, hlm, -⟩ := id hrow
 have HLR := Hd hlr
 have HAT := Hd (rowAt HRO.out)
 have hlr2 : lr ≤ 9000 := by omega
 have HRL := Hd hrl
 clear h IH hbk hb hrow hx hlr hrl
 go_enter Tryz.func113, Tryz.ntmps113
 go_wp2_with fail
 refine HND.out.mono ?_
 rintro e w1 ⟨q, kk, c, rfl, hrv, hx1⟩
 obtain ⟨w2, h2⟩ : ∃ W : World, w1.alloc (.cells #[.int .i8 x.f, .int .u64 x.n, .int .i64 x.hi, .int .i64 x.lo, .slice q kk c] 42) = W := ⟨_, rfl⟩
 have x2 : Ext w1 w2 := h2 ▸ Ext.alloc _ _
 obtain ⟨d0, d1, d2, d3, d4⟩ : w2.cell? ⟨w1.heap.size, 0, none⟩ = some (.int .i8 x.f) ∧ w2.cell? ⟨w1.heap.size, 1, none⟩ = some (.int .u64 x.n) ∧ w2.cell? ⟨w1.heap.size, 2, none⟩ = some (.int .i64 x.hi) ∧ w2.cell? ⟨w1.heap.size, 3, none⟩ = some (.int .i64 x.lo) ∧ w2.cell? ⟨w1.heap.size, 4, none⟩ = some (.slice q kk c) := by rw [← h2]; exact dcell5 _ _ _ _ _ _
 have hs1 : w.heap.size ≤ w1.heap.size := hx1.size
 have HX := Hd (hx1.trans x2)
 have HRV := Hd (hrv.ext x2)
 have HE2 := Hd h2
 clear h2 x2 hx1 hrv HND
 go_upto_region 2 with fail
 rw [HE2.out]
 clear HE2
 have HM2 := Hd (HM.out.ext HX.out)
 by_cases hxf : x.f < 0
 case pos =>
  -- the leaf
  have HUL := Hd (HUP.out.trans (if_pos hxf))
  obtain ⟨_, _, _, he, hkl, hkc, hkm, -⟩ := id HRV.out
  cases he
  have HKL := Hd hkl
  have hk64 : kk ≤ 64 := by have := HLF.out.1; omega
  obtain ⟨vs, hvs, hva⟩ := rowsVs HRV.out
  have HVS := Hd hvs
  have HVA := Hd (show ∀ W, Ext w2 W → ∀ i (hi : i < x.leaf.length) (hi' : i < vs.length), ∃ b o, q = some ⟨b, o, none⟩ ∧ W.cell? ⟨b, o + i, none⟩ = some vs[i] ∧ RowOn (fun z => w.heap.size ≤ z) W (x.leaf[i]) vs[i] from fun W hW i hi hi' => by
   rcases hva with e | ⟨b', o, rfl, hr⟩
   ·rw [e] at hi; simp at hi
   ·exact ⟨b', o, rfl, hW.later _ _ (hr i _ (List.getElem?_eq_getElem hi')), (hvs.2 i hi hi').ext hW⟩)
  have HVL := Hd hvs.1
  clear hvs hva hkl
  go_wp2_with fail
  go_loopw [8, 22] (fun ov i wr => ∃ (I : Nat) (us : List Value), I ≤ kk ∧ i = .int .i64 I ∧ Hid (OutSt w2.heap.size wr ov ((x.leaf.take I).map (joinA row)) us) ∧ Hid (Ext w2 wr)) (fun _ i _ => kk - (intOf i).toNat)
  case atStart => exact ⟨0, [], Nat.zero_le _, rfl, by show OutSt w2.heap.size _ _ ((x.leaf.take 0).map (joinA row)) []; rw [List.take_zero]; exact ⟨World.ownsRow_nil _ _ _ _, RowsV.nil⟩, Ext.refl _⟩
  case round =>
   obtain ⟨wo, rfl⟩ : ∃ wo : World, wo = wr := ⟨_, rfl⟩
   obtain ⟨I, us, hI, rfl, hst, hx⟩ := hrel
   by_cases h1 : I < kk
   case neg =>
    have hfull : x.leaf.take I = x.leaf := List.take_of_length_le (by have := HKL.out; omega)
    rw [hfull] at hst
    have hrows : RowsOn AnyB wo (x.leaf.map (joinA row)) u8 := RowsOn.of_owns (base := w2.heap.size) hst.out.o (hst.out.v.mono fun _ _ _ => trivial) (fun _ _ => trivial)
    have hMo := HM2.out.ext hx.out
    have HMo := Hd hMo
    have HLEAF := Hd (leafS_any p L (x.leaf.map (joinA row)) u8 wo hMo.st hrows (by rw [List.length_map]; have := HLF.out.1; omega) (fun r hr => by
     obtain ⟨r0, hr0, rfl⟩ := List.mem_map.1 hr
     have h5 := HLF.out.2 r0 hr0
     have h6 := HRL.out
     have h7 := List.length_filter_le (fun a : AcD => !r0.any fun b => a.f == b.f) row
     unfold joinA
     rw [List.length_append]
     omega) hMo.tab)
    obtain ⟨T, hT⟩ : ∃ T, T = leafP L (x.leaf.map (joinA row)) := ⟨_, rfl⟩
    have HTR := Hd (show leafR L (x.leaf.map (joinA row)) = ((T.1.2, T.1.1.toNat), T.2) from by rw [hT]; rfl)
    have HTN := Hd (show T.1.2 = 0 → T.1.1 = ((T.1.1.toNat : Nat) : Int) from fun h5 => by rw [hT] at h5 ⊢; exact leafP_nn h5)
    have htf := leafR_fine HM.out.inv (x.leaf.map (joinA row))
    rw [HTR.out] at htf
    have HTF := Hd htf
    rw [← hT] at HLEAF
    have km := hMo.c0
    obtain ⟨pu, cu, rfl, -⟩ := owns_form hst.out.o
    rw [List.length_map] at HLEAF
    have HXo := Hd (HX.out.trans hx.out)
    clear hT htf hMo hst hx hfull hrows hxf HUP d0 d1 d2 d3 d4
    go_wp2_with fail
    refine HLEAF.out.mono ?_
    rintro e w5 ⟨rfl, F5, hto⟩
    have HM5 := Hd (HMo.out.op hto HTF.out.pre HTF.out.inv)
    have HW5 := Hd ((Went.ofExt (F := F) (mt := mt) HXo.out).trans (Went.op hto))
    have HMU := Hd (dmust_any T.1.1 T.1.2 w5)
    clear hto km
    go_wp2_with fail
    refine HMU.out.mono ?_
    rintro e w6 ⟨he, rfl⟩
    by_cases r3 : T.1.2 = 0
    case neg =>
     rw [endD_no r3] at he
     subst he
     have HFIN := Hd (show MPost F w p m mt R (.panicked (stopC T.1.2)) w5 from by
      rw [HUL.out, HTR.out]
      exact ⟨(endD_no r3 _).symm, F5, D, HM5.out, HW5.out.1, HW5.out.2⟩)
     clear r3
     go_wp2_with fail
     exact ⟨rfl, HFIN.out⟩
    rw [r3, endD_ok] at he
    subst he
    have HFIN := Hd (show MPost F w p m mt R (.returned (.int .i64 T.1.1)) w5 from by
     rw [HUL.out, HTR.out]
     refine ⟨?_, F5, D, HM5.out, HW5.out.1, HW5.out.2⟩
     show _ = endD T.1.2 (.int .i64 (T.1.1.toNat : Nat))
     rw [r3, endD_ok, ← HTN.out r3])
    clear r3
    go_wp2_with fail
    go_ret
    exact HFIN.out
   have hIl : I < x.leaf.length := by rw [← HKL.out]; exact h1
   have hIv : I < vs.length := by rw [HVL.out]; exact hIl
   obtain ⟨b', o, rfl, hc, hrw⟩ := HVA.out wo hx.out I hIl hIv
   have HTK := Hd (show (x.leaf.take (I + 1)).map (joinA row) = (x.leaf.take I).map (joinA row) ++ [joinA row x.leaf[I]] from by rw [List.take_succ_eq_append_getElem hIl, List.map_append]; rfl)
   have hm11 := HLF.out.2 _ (List.getElem_mem hIl)
   obtain ⟨more, hmo⟩ : ∃ more, more = x.leaf[I] := ⟨_, rfl⟩
   obtain ⟨mv, hmv⟩ : ∃ mv, mv = vs[I] := ⟨_, rfl⟩
   rw [← hmo] at HTK hm11 hrw
   rw [← hmv] at hc hrw
   have HJ := Hd (djoin_any row more (.slice pr lr cr) mv wo (HRO.out.ext (HX.out.trans hx.out)) hrw (by have := HRL.out; omega) (by omega))
   obtain ⟨pm, cm, rfl, -⟩ := hrw.form
   have hul : ((x.leaf.take I).map (joinA row)).length ≤ 64 := by rw [List.length_map, List.length_take]; omega
   clear hmo hmv hm11 hrw hxf
   go_wp2_with fail
   refine HJ.out.mono ?_
   rintro e w3 ⟨⟨jq, jn, jc, rfl, hjr⟩, hxj⟩
   have HST := Hd (hst.out.more (hxj.andAlloc (.cells #[.slice jq jn jc] 78)))
   have HXn := Hd ((hx.out.trans hxj).andAlloc (.cells #[.slice jq jn jc] 78))
   have HJR := Hd (show RowOn (fun z => w2.heap.size ≤ z ∧ u8.ownBlock ≠ some z) (w3.alloc (.cells #[.slice jq jn jc] 78)) (joinA row more) (.slice jq jn jc) from
    (hjr.ext (Ext.alloc w3 (.cells #[.slice jq jn jc] 78))).mono fun z hz hb => ⟨Nat.le_trans hx.out.size hb, fun e => by have := (owns_lt hst.out.o z e).2; omega⟩)
   have hsz := HXn.out.size
   clear hst hx hxj hjr hc
   go_wp2_with (at_builtin; refine wpList_append_E elemR rfl (.tmp 26) (.tmp 30) rfl w2.heap.size u8 _ us rfl HST.out.o (some ⟨w3.heap.size, 0, none⟩) 1 1 [.slice jq jn jc] rfl rfl (.inr ⟨_, rfl, fun i u hu => by
    cases i with
    | zero => simp at hu; subst hu; simp [go_sem]
    | succ i => simp at hu⟩) (by intro u hu; simp at hu; subst hu; rfl) (by omega) (by omega) hsz ?_; intro v' w' o1 g1 t1)
   have HST1 := Hd (HST.out.put HJR.out o1 g1 t1)
   have HX1 := Hd (HXn.out.grownV g1 (fun i hi => (owns_lt HST.out.o i hi).1))
   clear o1 g1 t1
   go_roundw
   case rel => exact ⟨I + 1, us ++ [.slice jq jn jc], by omega, by go_num, by rw [HTK.out]; exact HST1.out, HX1.out⟩
   case measure => simp [intOf]; omega
 -- a test
 have hxf0 : 0 ≤ x.f := by omega
 obtain ⟨hhi, hlo, hhl, hll, -⟩ := HKD.out hxf0
 have HUN := Hd (HUP.out.trans (if_neg hxf))
 have HTS := Hd (HTB.out hxf0)
 obtain ⟨ih, hih⟩ : ∃ ih, ih = x.hi.toNat := ⟨_, rfl⟩
 obtain ⟨il, hil⟩ : ∃ il, il = x.lo.toNat := ⟨_, rfl⟩
 rw [← hih] at hhi hhl HUN
 rw [← hil] at hlo hll HUN
 rw [hhi] at d2
 rw [hlo] at d3
 have HHL := Hd (show (ih < k ∧ ih < L.length) ∧ (il < k ∧ il < L.length) from by have := HB.out; omega)
 have HRF2 := Hd (HRO.out.ext HX.out)
 have HD := Hd (And.intro d0 (And.intro d1 (And.intro d2 d3)))
 obtain ⟨xf, hxfe⟩ : ∃ xf, xf = x.f := ⟨_, rfl⟩
 obtain ⟨xn, hxne⟩ : ∃ xn, xn = x.n := ⟨_, rfl⟩
 rw [← hxfe, ← hxne] at HUN HTS
 rw [← hxfe, ← hxne] at HD
 rw [← hxfe] at hxf hxf0 d0
 rw [← hxne] at d1
 clear hhi hlo hhl hll hih hil HUP HKD HLF HTB HRV hxfe hxne d4
 go_wp2_with fail
 go_loopw [44] (fun i wr => ∃ I : Nat, I ≤ lr ∧ i = .int .i64 I ∧ Hid ((row.take I).find? (fun a => a.f == xf) = none) ∧ Hid (Ext w2 wr)) (fun i _ => lr - (intOf i).toNat)
 case atStart => exact ⟨0, Nat.zero_le _, rfl, by show (row.take 0).find? _ = none; rw [List.take_zero]; rfl, Ext.refl _⟩
 case round =>
  obtain ⟨wo, rfl⟩ : ∃ wo : World, wo = wr := ⟨_, rfl⟩
  obtain ⟨I, hI, rfl, hno, hx⟩ := hrel
  by_cases h1 : I < lr
  case pos =>
   have hIl : I < row.length := by rw [← HLR.out]; exact h1
   obtain ⟨b', o, rfl, c0, c1, c2⟩ := HAT.out wo (HX.out.trans hx.out) I hIl
   have HFA := Hd (fun e : (row[I]).f = xf => find_at hIl hno.out e)
   have HTK := Hd (show (row[I]).f ≠ xf → (row.take (I + 1)).find? (fun a => a.f == xf) = none from fun e => by
    rw [List.take_succ_eq_append_getElem hIl, List.find?_append, hno.out]
    simp [e])
   obtain ⟨a, ha⟩ : ∃ a, a = row[I] := ⟨_, rfl⟩
   rw [← ha] at c0 c1 c2 HFA HTK
   obtain ⟨af, haf⟩ : ∃ af, af = a.f := ⟨_, rfl⟩
   obtain ⟨an, han⟩ : ∃ an, an = a.n := ⟨_, rfl⟩
   rw [← haf] at c1 HFA HTK
   rw [← han] at c2
   have HAN := Hd han
   obtain ⟨wS, hS⟩ : ∃ W : World, wo.alloc (.cells #[.int .i8 a.d, .int .i8 af, .int .u64 an] 81) = W := ⟨_, rfl⟩
   have xS : Ext wo wS := hS ▸ Ext.alloc _ _
   have e1 : wS.cell? ⟨wo.heap.size, 1, none⟩ = some (.int .i8 af) := by rw [← hS]; simp [go_sem]
   have e2 : wS.cell? ⟨wo.heap.size, 2, none⟩ = some (.int .u64 an) := by rw [← hS]; simp [go_sem]
   have HEQ := Hd hS
   have HXS := Hd (hx.out.trans xS)
   clear hS xS hno haf han ha
   have d0 := hx.out.later _ _ HD.out.1
   go_upto_region 13 with (first | (refine wpList_store_new rfl 81 _ _ rfl _ #[.int .i8 a.d, .int .i8 af, .int .u64 an] rfl rfl (by kernel_rfl) rfl (by rfl) ?_))
   rw [HEQ.out]
   try simp only [Act.put]
   clear c0 c1 c2 HEQ d0
   have d0 := HXS.out.later _ _ HD.out.1
   have d1 := HXS.out.later _ _ HD.out.2.1
   have d2 := HXS.out.later _ _ HD.out.2.2.1
   have d3 := HXS.out.later _ _ HD.out.2.2.2
   by_cases q1 : af = xf
   case neg =>
    have hq1 : (af == xf) = false := by rw [beq_eq_false_iff_ne]; exact q1
    have HN := Hd (HTK.out q1)
    clear q1
    go_wp2_with fail
    go_roundw
    case rel => exact ⟨I + 1, by omega, by go_num, HN.out, HXS.out⟩
    case measure => simp [intOf]; omega
   have hq1 : (af == xf) = true := by rw [beq_iff_eq]; exact q1
   have HUS := Hd (show R = (if an = xn then behindP k L row ih else behindP k L row il) from by
    have h5 := HUN.out
    rw [HFA.out q1] at h5
    rw [HAN.out]
    exact h5)
   clear q1
   have HMS := Hd (HM2.out.ext HXS.out)
   have HRS := Hd (HRF2.out.ext HXS.out)
   have HXX := Hd (HX.out.trans HXS.out)
   by_cases q2 : an = xn
   case pos =>
    have hq2 : (an == xn) = true := by rw [beq_iff_eq]; exact q2
    have HF := Hd (HUS.out.trans (if_pos q2))
    have HC := Hd (HIH.out F p m mt L D row _ ih wS HHL.out.1.1 HHL.out.1.2 HRL.out HRS.out HMS.out)
    rw [← HF.out] at HC
    clear q2 HUS HF
    go_wp2_with fail
    refine HC.out.mono ?_
    intro e w5 hp
    have HP := Hd (hp.from HXX.out)
    obtain ⟨he, -⟩ := hp
    by_cases hr : R.1.1 = 0
    ·rw [hr, endD_ok] at he
     subst he
     have HFIN := Hd (show MPost F w p m mt R (.returned (.int .i64 R.1.2)) w5 from HP.out)
     clear hr d0 d1 d2 d3 e1 e2
     generalize R.1.2 = rr at *
     go_wp2_with fail
     go_ret
     exact HFIN.out
    ·rw [endD_no hr] at he
     subst he
     clear hr d0 d1 d2 d3 e1 e2
     go_wp2_with fail
     exact ⟨rfl, HP.out⟩
   ·have hq2 : (an == xn) = false := by rw [beq_eq_false_iff_ne]; exact q2
    have HF := Hd (HUS.out.trans (if_neg q2))
    have HC := Hd (HIH.out F p m mt L D row _ il wS HHL.out.2.1 HHL.out.2.2 HRL.out HRS.out HMS.out)
    rw [← HF.out] at HC
    clear q2 HUS HF
    go_wp2_with fail
    refine HC.out.mono ?_
    intro e w5 hp
    have HP := Hd (hp.from HXX.out)
    obtain ⟨he, -⟩ := hp
    by_cases hr : R.1.1 = 0
    ·rw [hr, endD_ok] at he
     subst he
     have HFIN := Hd (show MPost F w p m mt R (.returned (.int .i64 R.1.2)) w5 from HP.out)
     clear hr d0 d1 d2 d3 e1 e2
     generalize R.1.2 = rr at *
     go_wp2_with fail
     go_ret
     exact HFIN.out
    ·rw [endD_no hr] at he
     subst he
     clear hr d0 d1 d2 d3 e1 e2
     go_wp2_with fail
     exact ⟨rfl, HP.out⟩
  -- no setting of the field
  have HUQ := Hd (show R = bindR (behindP k L row ih) fun h L1 => bindR (behindP k L1 row il) fun l L2 => pickP (h + l + 1) L2 (xf, xn) h l from by
   have h3 := hno.out
   rw [List.take_of_length_le (by have := HLR.out; omega)] at h3
   have h5 := HUN.out
   rw [h3] at h5
   exact h5)
  have xzo : Ext wo wo.drew := Ext.drew _
  have HXo := Hd (hx.out.trans xzo)
  have HMo := Hd (HM2.out.ext HXo.out)
  have HXX := Hd (HX.out.trans HXo.out)
  have HWo := Hd (Went.ofExt (F := F) (mt := mt) HXX.out)
  have HROo := Hd (HRF2.out.ext HXo.out)
  obtain ⟨R1, hR1⟩ : ∃ R1, R1 = behindP k L row ih := ⟨_, rfl⟩
  obtain ⟨R2, hR2⟩ : ∃ R2, R2 = behindP k R1.2 row il := ⟨_, rfl⟩
  have hfn1 : Fine L R1 := by rw [hR1]; exact behindP_fine HM.out.inv HHL.out.1.2
  have hfn2 : Fine R1.2 R2 := by rw [hR2]; exact behindP_fine hfn1.inv (by have := HHL.out.2.2; have := hfn1.pre.length_le; omega)
  have HRR := Hd (show R = (if R1.1.1 = 0 then (if R2.1.1 = 0 then pickP (R1.1.2 + R2.1.2 + 1) R2.2 (xf, xn) R1.1.2 R2.1.2 else R2) else R1) from by
   rw [HUQ.out, ← hR1]
   unfold bindR
   dsimp only
   rw [← hR2])
  have HFN1 := Hd hfn1
  have HFN2 := Hd hfn2
  have HC1 := Hd (show Calls Tryz.prog 113 #[.pointer (some ⟨m, 0, none⟩), .slice pr lr cr, .int .i64 ih] wo.drew (MPost F wo.drew p m mt R1) from by
   rw [hR1]; exact HIH.out F p m mt L D row (.slice pr lr cr) ih wo.drew HHL.out.1.1 HHL.out.1.2 HRL.out HROo.out HMo.out)
  have HC2 := Hd (show ∀ F1 D1 W, RowF F1 mt W row (.slice pr lr cr) → Mk F1 W p m mt R1.2 D1 → Calls Tryz.prog 113 #[.pointer (some ⟨m, 0, none⟩), .slice pr lr cr, .int .i64 il] W (MPost F1 W p m mt R2) from fun F1 D1 W hr hM => by
   rw [hR2]; exact HIH.out F1 p m mt R1.2 D1 row (.slice pr lr cr) il W HHL.out.2.1 (by have := HHL.out.2.2; have := hfn1.pre.length_le; omega) HRL.out hr hM)
  have HSW := Hd (show ∀ (F' : Nat → Prop) (W : World), Went F mt w F' W → Ext w2 wo.drew → Keep (fun z => F z ∨ z = mt) wo.drew W → (fun W : World => W.cell? ⟨w1.heap.size, 0, none⟩ = some (.int .i8 xf) ∧ W.cell? ⟨w1.heap.size, 1, none⟩ = some (.int .u64 xn) ∧ W.cell? ⟨w1.heap.size, 2, none⟩ = some (.int .i64 ih) ∧ W.cell? ⟨w1.heap.size, 3, none⟩ = some (.int .i64 il)) W from fun F' W hw hxo hk => by
   have nf : ¬ (F w1.heap.size ∨ w1.heap.size = mt) := by
    have hlt := HM.out.lt
    rintro (e | e)
    ·have := hlt.1 _ e; omega
    ·have := hlt.2.2; omega
   exact ⟨hk.cell (hxo.later _ _ HD.out.1) nf, hk.cell (hxo.later _ _ HD.out.2.1) nf, hk.cell (hxo.later _ _ HD.out.2.2.1) nf, hk.cell (hxo.later _ _ HD.out.2.2.2) nf⟩)
  have hS0 := HSW.out F wo.drew HWo.out HXo.out (Keep.refl _ _)
  have d0 := HXo.out.later _ _ HD.out.1
  clear hfn1 hfn2 hR1 hR2 hno hx xzo
  go_upto_region 18 with fail
  clear d0 d1 d2 d3
  refine wp_region_held_drew (S := (fun W : World => W.cell? ⟨w1.heap.size, 0, none⟩ = some (.int .i8 xf) ∧ W.cell? ⟨w1.heap.size, 1, none⟩ = some (.int .u64 xn) ∧ W.cell? ⟨w1.heap.size, 2, none⟩ = some (.int .i64 ih) ∧ W.cell? ⟨w1.heap.size, 3, none⟩ = some (.int .i64 il))) (by kernel_rfl) (hS0) (fun hHeld => ?_)
  refine tk 0 (.pointer (some ⟨m, 0, none⟩)) ?_
  try simp only [tkN]
  refine tk 1 (.pointer (some ⟨w1.heap.size, 0, none⟩)) ?_
  try simp only [tkN]
  refine tk 2 (.int .i8 xf) ?_
  try simp only [tkN]
  refine tk 3 (.pointer (some ⟨w1.heap.size, 1, none⟩)) ?_
  try simp only [tkN]
  refine tk 4 (.int .u64 xn) ?_
  try simp only [tkN]
  refine tk 5 (.pointer (some ⟨m, 0, none⟩)) ?_
  try simp only [tkN]
  refine tk 6 (.slice pr lr cr) ?_
  try simp only [tkN]
  refine tk 7 (.pointer (some ⟨w1.heap.size, 2, none⟩)) ?_
  try simp only [tkN]
  refine tk 8 (.int .i64 ih) ?_
  try simp only [tkN]
  refine tk 10 (.pointer (some ⟨m, 0, none⟩)) ?_
  try simp only [tkN]
  refine tk 11 (.slice pr lr cr) ?_
  try simp only [tkN]
  refine tk 12 (.pointer (some ⟨w1.heap.size, 3, none⟩)) ?_
  try simp only [tkN]
  refine tk 13 (.int .i64 il) ?_
  try simp only [tkN]
  refine tk1 9 rfl (AllReadyH.cons rfl (fun K hK => ?_) AllReadyH.nil)
  go_simp
  go_at_call 113
  refine (HC1.out).mono ?_
  rintro e w11 ⟨he, F11, D11, mk11, hs11, hk11⟩
  have we11 : Went F mt w F11 w11 := Went.trans HWo.out ⟨hs11, hk11⟩
  have wo11 : Went F mt wo.drew F11 w11 := ⟨hs11, hk11⟩
  by_cases r11 : R1.1.1 = 0
  case neg =>
   rw [endD_no r11] at he
   subst he
   have HFIN := Hd (show MPost F w p m mt R (.panicked (stopC R1.1.1)) w11 from by
    rw [HRR.out, if_neg r11]
    exact ⟨(endD_no r11 _).symm, F11, D11, mk11, we11.1, we11.2⟩)
   go_wp2_with fail
   exact ⟨rfl, HFIN.out⟩
  rw [r11, endD_ok] at he
  subst he
  refine hK.out _ _ (HSW.out F11 w11 we11 HXo.out wo11.2) (fun hh11 => ?_)
  clear hK K
  try simp only [tkN]
  refine tk1 14 rfl (AllReadyH.cons rfl (fun K hK => ?_) AllReadyH.nil)
  go_simp
  go_at_call 113
  refine (HC2.out F11 D11 w11 (HROo.out.went wo11) mk11).mono ?_
  rintro e w12 ⟨he, F12, D12, mk12, hs12, hk12⟩
  have we12 : Went F mt w F12 w12 := Went.trans we11 ⟨hs12, hk12⟩
  have wo12 : Went F mt wo.drew F12 w12 := Went.trans wo11 ⟨hs12, hk12⟩
  by_cases r12 : R2.1.1 = 0
  case neg =>
   rw [endD_no r12] at he
   subst he
   have HFIN := Hd (show MPost F w p m mt R (.panicked (stopC R2.1.1)) w12 from by
    rw [HRR.out, if_pos r11, if_neg r12]
    exact ⟨(endD_no r12 _).symm, F12, D12, mk12, we12.1, we12.2⟩)
   go_wp2_with fail
   exact ⟨rfl, HFIN.out⟩
  rw [r12, endD_ok] at he
  subst he
  refine hK.out _ _ (HSW.out F12 w12 we12 HXo.out wo12.2) (fun hh12 => ?_)
  clear hK K
  try simp only [tkN]
  obtain ⟨R3, hR3⟩ : ∃ R3, R3 = pickP (R1.1.2 + R2.1.2 + 1) R2.2 (xf, xn) R1.1.2 R2.1.2 := ⟨_, rfl⟩
  have HC3 := Hd (show Calls Tryz.prog 112 #[.pointer (some ⟨m, 0, none⟩), .int .i8 xf, .int .u64 xn, .int .i64 R1.1.2, .int .i64 R2.1.2] w12 (MPost F12 w12 p m mt R3) from by
   rw [hR3]; exact dpick_any _ F12 p m mt R2.2 D12 xf xn R1.1.2 R2.1.2 w12 (by omega) (by have := HFN1.out.lt r11; have := HFN2.out.pre.length_le; omega) (HFN2.out.lt r12) HTS.out mk12)
  have HR3 := Hd (show R = R3 from by rw [HRR.out, if_pos r11, if_pos r12, hR3])
  clear hR3
  refine tk1 15 rfl (AllReadyH.cons rfl (fun K hK => ?_) AllReadyH.nil)
  go_simp
  go_at_call 112
  refine (HC3.out).mono ?_
  rintro e w13 ⟨he, F13, D13, mk13, hs13, hk13⟩
  have we13 : Went F mt w F13 w13 := Went.trans we12 ⟨hs13, hk13⟩
  have wo13 : Went F mt wo.drew F13 w13 := Went.trans wo12 ⟨hs13, hk13⟩
  by_cases r13 : R3.1.1 = 0
  case neg =>
   rw [endD_no r13] at he
   subst he
   have HFIN := Hd (show MPost F w p m mt R (.panicked (stopC R3.1.1)) w13 from by
    rw [HR3.out]
    exact ⟨(endD_no r13 _).symm, F13, D13, mk13, we13.1, we13.2⟩)
   go_wp2_with fail
   exact ⟨rfl, HFIN.out⟩
  rw [r13, endD_ok] at he
  subst he
  refine hK.out _ _ (HSW.out F13 w13 we13 HXo.out wo13.2) (fun hh13 => ?_)
  clear hK K
  try simp only [tkN]
  refine tk 16 (.int .i64 R3.1.2) ?_
  try simp only [tkN]
  refine wpAnyH_done (by kernel_rfl) ?_ _
  have HFIN := Hd (show MPost F w p m mt R (.returned (.int .i64 R3.1.2)) w13 from by
   rw [HR3.out]
   refine ⟨?_, F13, D13, mk13, we13.1, we13.2⟩
   rw [r13]
   exact (endD_ok _).symm)
  go_wp2_with fail
  go_ret
  exact HFIN.out
theorem dbehind_any : ∀ k, BehindOf k
 | 0 => fun _ _ _ _ _ _ _ _ _ _ hab => absurd hab (Nat.not_lt_zero _)
 | k + 1 => dbehind_step k (dbehind_any k)
end Go.Proofs.YtjjbdbklbghlhaaGreatDoor
