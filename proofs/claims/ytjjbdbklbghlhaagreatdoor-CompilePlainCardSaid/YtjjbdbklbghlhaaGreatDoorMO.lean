/- diagram.Run: what a diagram makes of a header. -/
import Derived.Test.YtjjbdbklbghlhaaGreatDoorMA
import Derived.Test.YtjjbdbklbghlhaaGreatDoorMM
import Derived.Test.YtjjbdbklbghlhaaGreatDoorMN
namespace Go.Proofs.YtjjbdbklbghlhaaGreatDoor
open Go.RowKit Go.Sort Go.Maps Go.Lib
set_option linter.unusedSimpArgs false

theorem elemH : Elem Tryz.prog 36 49 11 88 :=
 ⟨Tryz.underlying36, by obtain ⟨i, h1, h2, h3, h4⟩ := info_parts (show (Tryz.prog.info? 49).map (fun i => (i.zero, i.size, i.bytes)) = some (some (.agg (Array.replicate 11 (.int .u64 0))), 11, 88) from by kernel_rfl); exact ⟨i, _, h1, h2, h3, h4, rfl⟩, by omega, fun w => by kernel_rfl, by omega⟩
theorem flatH_app (a b : List Hdr) : flatH (a ++ b) = flatH a ++ flatH b := by simp [flatH]
/-- one word of a header set anew -/
theorem range_put {w : World} {g : Nat} {k : Hdr} (h : w.rangeAt g 0 k.cs.toList) (i : Nat) (n : Int) (hn : 0 ≤ n ∧ n ≤ 18446744073709551615) : (w.setCell ⟨g, i, none⟩ (.int .u64 n)).rangeAt g 0 (k.put i n).cs.toList := fun j u hu => by
 rw [Hdr.cs_put k i n hn, Array.toList_setIfInBounds, List.getElem?_set] at hu
 by_cases hij : i = j
 ·subst hij
  rw [if_pos rfl] at hu
  split at hu
  ·rename_i hl
   cases hu
   rw [Nat.zero_add]
   have := h i _ (List.getElem?_eq_getElem hl)
   rw [Nat.zero_add] at this
   exact World.cell?_setCell_same _ _ _ this
  ·cases hu
 ·rw [if_neg hij] at hu
  rw [Nat.zero_add, World.cell?_setCell_other _ _ _ _ (fun e => by injection e; omega)]
  have := h j u hu
  rwa [Nat.zero_add] at this
theorem dcompact_none (w : World) : Calls Tryz.prog 33 #[.slice none 0 0] w fun e w' => e = .returned (.slice none 0 0) ∧ w = w' := by
 go_enter Tryz.func33, Tryz.ntmps33
 go_wp2_with fail
 go_ret
 exact ⟨rfl, rfl⟩
/-- equal neighbours once, in a list of one's own -/
theorem dcompact_own (l : List Hdr) (v : Value) (base : Nat) (w : World) (h : w.ownsRow base 49 11 v l.length (flatH l)) :
  Calls Tryz.prog 33 #[v] w fun e w' => ∃ u, e = .returned u ∧ HSl w' base (dd l) u ∧ ∀ a : World, a.heap.size ≤ base → Ext a w → Ext a w' := by
 rcases h.2 with ⟨rfl, h0⟩ | ⟨g, cap, cur, rfl, hb, hg, hn, hm, hs, ht⟩
 ·have hnil : l = [] := List.length_eq_zero_iff.1 h0
  subst hnil
  refine (dcompact_none w).mono ?_
  rintro e w' ⟨rfl, rfl⟩
  exact ⟨_, rfl, ⟨none, 0, 0, rfl, by simp [dd], .inl (by simp [dd])⟩, fun a _ ha => ha⟩
 ·have hr := ownsRow_range h
  have hth : w.there g 0 (l.length * 11) := fun j hj => by
   have hj2 : j < (flatH l).length := by rw [flatH_len]; exact hj
   have h1 := hr j _ (List.getElem?_eq_getElem hj2)
   exact ⟨by rw [h1]; rfl, by simp [World.frozen?, hg]⟩
  obtain ⟨_, _, he, hc1, hc2⟩ := owns_form h
  cases he
  refine (dcompact_any l g l.length cap w rfl hc1 hc2 hr hth).mono ?_
  rintro e w' ⟨rfl, hr', hk⟩
  exact ⟨_, rfl, ⟨_, _, _, rfl, rfl, .inr ⟨g, 0, rfl, hb, hr'⟩⟩, fun a ha hx => hx.andKeep hk (fun i hi => by rw [hi]; omega)⟩
def RunPost (L : List NdD) (a : Int) (h : Hdr) (w : World) (e : Ending) (w' : World) : Prop := (∃ v, e = .returned (.tuple #[v, .int .i64 (runH L a h).1]) ∧ HSl w' w.heap.size (runH L a h).2 v) ∧ Ext w w'
theorem runH_none {L : List NdD} {a : Int} {h : Hdr} (hn : (getP L a).isSome = false) : runH L a h = (5, []) := by unfold runH; rw [hn]; rfl

/-- the cells of a node in the program's own memory -/
def DNdAt (W : World) (z : Nat) (x : NdD) (q : Option Addr) (n c : Nat) : Prop := W.cell? ⟨z, 0, none⟩ = some (.int .i8 x.f) ∧ W.cell? ⟨z, 1, none⟩ = some (.int .u64 x.n) ∧ W.cell? ⟨z, 2, none⟩ = some (.int .i64 x.hi) ∧ W.cell? ⟨z, 3, none⟩ = some (.int .i64 x.lo) ∧ W.cell? ⟨z, 4, none⟩ = some (.slice q n c)
theorem DNdAt.ext {W W' : World} {z : Nat} {x : NdD} {q : Option Addr} {n c : Nat} (h : DNdAt W z x q n c) (hx : Ext W W') : DNdAt W' z x q n c :=
 ⟨hx.later _ _ h.1, hx.later _ _ h.2.1, hx.later _ _ h.2.2.1, hx.later _ _ h.2.2.2.1, hx.later _ _ h.2.2.2.2⟩
theorem dNdAt_set (W : World) (z : Nat) (x : NdD) (q : Option Addr) (n c : Nat) (ht : W.there z 0 5) : DNdAt (W.setCells z 0 [.int .i8 x.f, .int .u64 x.n, .int .i64 x.hi, .int .i64 x.lo, .slice q n c]) z x q n c := by
 have h := World.rangeAt_setCells_same W z 0 [.int .i8 x.f, .int .u64 x.n, .int .i64 x.hi, .int .i64 x.lo, .slice q n c] (fun j hj => ht j hj)
 exact ⟨h 0 _ rfl, h 1 _ rfl, h 2 _ rfl, h 3 _ rfl, h 4 _ rfl⟩

set_option maxRecDepth 100000 in
set_option maxHeartbeats 8000000 in
theorem dRun_any {F : Nat → Prop} (p : Nat) (L : List NdD) (a : Int) (h : Hdr) (w : World) (hs : St F w p L) (hI : InvO L) (hIF : InvF L) (ha : -9223372036854775808 ≤ a ∧ a ≤ 9223372036854775807) :
  Calls Tryz.prog 17 #[.pointer (some ⟨p, 0, none⟩), .int .i64 a, .agg h.cs] w (RunPost L a h w) := by
 have HS := Hd hs
 have HI := Hd hI
 have HIF := Hd hIF
 have HLV := Hd (show ∀ c, c < L.length → (nodeP L c).leaf.length ≤ 64 ∧ (∀ r ∈ (nodeP L c).leaf, r.length ≤ 11 ∧ ∀ y ∈ r, 0 ≤ y.f ∧ y.f ≤ 10) from fun c hc => by
  rcases (hs.inv.2.2 _ (List.mem_of_getElem? (nodeP_some hc))).2 with ⟨l', -, hl', h64⟩ | ⟨-, hl'⟩
  ·refine ⟨h64, fun r hr => ⟨rowsP_short hl' r hr, fun y hy => ?_⟩⟩
   have := okA_bd (List.all_eq_true.1 (rowsP_ok hl' r hr) y hy)
   exact ⟨this.2.1, this.2.2.1⟩
  ·rw [hl']; exact ⟨by simp, (fun r hr => by cases hr)⟩)
 obtain ⟨wA, hA⟩ : ∃ W : World, w.alloc (.cells h.cs 49) = W := ⟨_, rfl⟩
 have xA : Ext w wA := hA ▸ Ext.alloc _ _
 have HHR := Hd (show ∀ W, Ext wA W → W.rangeAt w.heap.size 0 h.cs.toList from fun W hW => World.rangeAt.later hW.later (by rw [← hA]; exact rangeAt_new w h.cs 49))
 have hsA : wA.heap.size = w.heap.size + 1 := by rw [← hA, World.size_alloc]
 have HXA := Hd xA
 have HEA := Hd hA
 have HGE := Hd (getS_new p L a wA (hs.ext xA) ha)
 clear hs hI hIF xA hA
 go_enter Tryz.func17, Tryz.ntmps17
 go_upto_region 1 with fail
 rw [HEA.out]
 clear HEA
 go_wp2_with fail
 refine HGE.out.mono ?_
 rintro e w3 ⟨⟨v3, rfl, hv3⟩, hx3⟩
 obtain ⟨lv, rfl, hlf⟩ := hv3
 obtain ⟨q3, n3, c3, rfl, -⟩ := id hlf
 obtain ⟨x0, hx0⟩ : ∃ x0, x0 = (getP L a).getD zNode := ⟨_, rfl⟩
 obtain ⟨bb, hbb⟩ : ∃ bb, bb = (getP L a).isSome := ⟨_, rfl⟩
 rw [← hx0] at hlf ⊢
 rw [← hbb]
 obtain ⟨w4, h4⟩ : ∃ W : World, w3.alloc (.cells #[.int .i8 x0.f, .int .u64 x0.n, .int .i64 x0.hi, .int .i64 x0.lo, .slice q3 n3 c3] 42) = W := ⟨_, rfl⟩
 have x4 : Ext w3 w4 := h4 ▸ Ext.alloc _ _
 have HX3 := Hd hx3
 have HX4 := Hd x4
 have HN4 := Hd (show DNdAt w4 w3.heap.size x0 q3 n3 c3 from by rw [← h4]; exact dcell5 _ _ _ _ _ _)
 have HT4 := Hd (show w4.there w3.heap.size 0 5 from thereF (cs := #[.int .i8 x0.f, .int .u64 x0.n, .int .i64 x0.hi, .int .i64 x0.lo, .slice q3 n3 c3]) (t := 42) (by rw [h4]; exact Ext.refl _))
 have HR4 := Hd (show RowsOn (fun b => w.heap.size ≤ b ∧ b ≠ w3.heap.size) w4 x0.leaf (.slice q3 n3 c3) from (hlf.mono (C := fun b => w.heap.size ≤ b ∧ b ≠ w3.heap.size) (fun b hlt hb => ⟨by omega, by omega⟩)).ext x4)
 have hs3 : w.heap.size ≤ w3.heap.size := Nat.le_trans HXA.out.size hx3.size
 have HE4 := Hd h4
 have HBB := Hd hbb
 have HX0 := Hd hx0
 clear h4 x4 hx3 hlf hbb hx0 HGE
 go_upto_region 4 with fail
 try simp only [Option.getD_some]
 rw [HE4.out]
 clear HE4
 cases bb with
 | false =>
  have HF := Hd (runH_none (h := h) HBB.out.symm)
  go_wp2_with fail
  go_ret2
  refine ⟨⟨_, by rw [HF.out]; rfl, ?_⟩, (HXA.out.trans HX3.out).trans HX4.out⟩
  rw [HF.out]
  exact ⟨none, 0, 0, rfl, rfl, .inl rfl⟩
 | true =>
  obtain ⟨A, hAe⟩ : ∃ A : Nat, A = a.toNat := ⟨_, rfl⟩
  have hbd := getP_bd HBB.out.symm
  have haA : a = (A : Int) := by omega
  have HRH := Hd (show runH L a h = (0, makeL L (downP (A + 1) L A h) h) from by unfold runH; rw [← HBB.out, if_pos rfl, hAe])
  have HX0N := Hd (show x0 = nodeP L A from by
   rw [HX0.out]
   unfold getP
   rw [if_pos ⟨by omega, by omega⟩, ← hAe, nodeP_some (by omega)]
   rfl)
  have hAL : A < L.length := by omega
  have HR4' := HR4.out
  have HN4' := HN4.out
  rw [HX0N.out] at HR4' HN4'
  have HRR := Hd HR4'
  have HNN := Hd HN4'
  have HPO := Hd (show ∀ v W, HSl W w.heap.size (makeL L (downP (A + 1) L A h) h) v → Ext w W → RunPost L a h w (.returned (.tuple #[v, .int .i64 0])) W from fun v W hv hW => by
   refine ⟨⟨v, ?_, ?_⟩, hW⟩
   ·rw [HRH.out]
   ·rw [HRH.out]; exact hv)
  rw [haA]
  clear haA hAe hbd HRH HR4' HN4' HBB HX0 HX0N HR4 HN4
  go_wp2_with fail
  go_loopw [1] (fun i wr => ∃ (c : Nat) (q : Option Addr) (n cc : Nat), i = .int .i64 c ∧ c < L.length ∧ Hid (downP (A + 1) L A h = downP (c + 1) L c h) ∧ Hid (DNdAt wr w3.heap.size (nodeP L c) q n cc) ∧ Hid (RowsOn (fun b => w.heap.size ≤ b ∧ b ≠ w3.heap.size) wr (nodeP L c).leaf (.slice q n cc)) ∧ Hid (wr.there w3.heap.size 0 5) ∧ Hid (Ext w3 wr)) (fun i _ => (intOf i).toNat)
  case atStart => exact ⟨A, q3, n3, c3, rfl, hAL, rfl, HNN.out, HRR.out, HT4.out, HX4.out⟩
  case round =>
   obtain ⟨wo, rfl⟩ : ∃ wo : World, wo = wr := ⟨_, rfl⟩
   obtain ⟨c, q, n, cc, rfl, hcL, hdn, hna, hro, hth, hx⟩ := hrel
   obtain ⟨d0, d1, d2, d3, d4⟩ := hna.out
   have HKD := Hd (fun hf => HI.out.kids hcL hf)
   have HDC := Hd (show downP (c + 1) L c h = (if (nodeP L c).f < 0 then c else downP c L (if h.f (nodeP L c).f.toNat = (nodeP L c).n then (nodeP L c).hi.toNat else (nodeP L c).lo.toNat) h) from by rw [downP])
   have HFB := Hd (show 0 ≤ (nodeP L c).f → (nodeP L c).f ≤ 10 from fun hf => (fits_bd (HIF.out _ (List.mem_of_getElem? (nodeP_some hcL)) hf)).2)
   have HLC := Hd (HLV.out c hcL)
   obtain ⟨x, hxe⟩ : ∃ x, x = nodeP L c := ⟨_, rfl⟩
   have HXE := Hd hxe
   rw [← hxe] at d0 d1 d2 d3 HKD HDC HFB hro HLC
   clear hxe hna
   by_cases hxf : x.f < 0
   case pos =>
    have hgd : decide (0 ≤ x.f) = false := decide_eq_false (by omega)
    have HDD := Hd (show downP (A + 1) L A h = c from by rw [hdn.out, HDC.out, if_pos hxf])
    have HPO2 := Hd (show ∀ v W, HSl W w.heap.size (dd (sortH (x.leaf.map fun r => setRow r h))) v → Ext w W → RunPost L a h w (.returned (.tuple #[v, .int .i64 0])) W from fun v W hv hW => by
     refine HPO.out v W ?_ hW
     rw [HDD.out]
     unfold makeL
     rw [← HXE.out]
     exact hv)
    obtain ⟨_, _, _, he, hnl, hnc, hnm, hor⟩ := id hro.out
    cases he
    have HNL := Hd hnl
    have hn64 : n ≤ 64 := by have := HLC.out.1; omega
    have HX0 := Hd ((HXA.out.trans HX3.out).trans hx.out)
    have HRA := Hd (show ∀ W, Ext wo W → ∀ i (hi : i < x.leaf.length), ∃ b o u, q = some ⟨b, o, none⟩ ∧ W.cell? ⟨b, o + i, none⟩ = some u ∧ RowOn (fun b => w.heap.size ≤ b ∧ b ≠ w3.heap.size) W (x.leaf[i]) u from fun W hW i hi => by
     rcases hor with e | ⟨b, o, vs, hp, -, -, hvl, hrr, hrow⟩
     ·rw [e] at hi; simp at hi
     ·have hi' : i < vs.length := by rw [hvl]; exact hi
      exact ⟨b, o, vs[i], hp, hW.later _ _ (hrr i _ (List.getElem?_eq_getElem hi')), (hrow i hi hi').ext hW⟩)
    have HOH := Hd (fun W (hW : Ext wo W) => HHR.out W ((HX3.out.trans hx.out).trans hW))
    clear hnl hor hdn hro hth hx HKD HDC HFB HPO d1 d2 d3 hxf HDD HXE HRR HNN
    go_wp2_with fail
    clear d0 d4
    go_loopw [10, 49] (fun ov i wr => ∃ I : Nat, I ≤ n ∧ i = .int .i64 I ∧ Hid (wr.ownsRow wo.heap.size 49 11 ov ((x.leaf.take I).map fun r => setRow r h).length (flatH ((x.leaf.take I).map fun r => setRow r h))) ∧ Hid (Ext wo wr)) (fun _ i _ => n - (intOf i).toNat)
    case atStart => exact ⟨0, Nat.zero_le _, rfl, World.ownsRow_nil _ _ _ _, Ext.refl _⟩
    case round =>
     obtain ⟨wi, rfl⟩ : ∃ wi : World, wi = wr := ⟨_, rfl⟩
     obtain ⟨I, hI, rfl, how, hxi⟩ := hrel
     by_cases h1 : I < n
     case neg =>
      have hfull : x.leaf.take I = x.leaf := List.take_of_length_le (by have := HNL.out; omega)
      rw [hfull] at how
      have HSO := Hd (sort_any (x.leaf.map fun r => setRow r h) u10 wo.heap.size wi how.out (by rw [List.length_map]; have := HLC.out.1; omega))
      have HOW := Hd how.out
      obtain ⟨pu, cu, rfl, -⟩ := owns_form how.out
      rw [List.length_map] at HSO HOW
      clear how hfull
      go_wp2_with fail
      refine HSO.out.mono ?_
      rintro e w6 ⟨rfl, ho6, hg6⟩
      have HX6 := Hd (show Ext wo w6 from hxi.out.grownV hg6 (fun i hi => (owns_lt HOW.out i hi).1))
      have hsl : (sortH (x.leaf.map fun r => setRow r h)).length = x.leaf.length := by unfold sortH; rw [List.length_mergeSort, List.length_map]
      have ho6' : w6.ownsRow wo.heap.size 49 11 (.slice pu x.leaf.length cu) (sortH (x.leaf.map fun r => setRow r h)).length (flatH (sortH (x.leaf.map fun r => setRow r h))) := by
       rw [hsl]; exact ho6
      have HCO := Hd (dcompact_own _ _ _ w6 ho6')
      clear ho6 ho6' hg6 hsl
      go_wp2_with fail
      refine HCO.out.mono ?_
      rintro e w7 ⟨u, rfl, hu, hxu⟩
      have HFIN := Hd (HPO2.out u w7 (by
       obtain ⟨pp, ll, cc2, he, hll, hor⟩ := hu
       have := HX0.out.size
       exact ⟨pp, ll, cc2, he, hll, hor.imp id fun ⟨b, o, hp, hb, hr⟩ => ⟨b, o, hp, by omega, hr⟩⟩) (hxu w HX0.out.size (HX0.out.trans HX6.out)))
      clear hu hxu HCO
      go_wp2_with fail
      go_ret2
      exact HFIN.out
     have hIl : I < x.leaf.length := by rw [← HNL.out]; exact h1
     obtain ⟨b, o, rv, hqe, hcell, hrow⟩ := HRA.out wi hxi.out I hIl
     have HRB := Hd (HLC.out.2 _ (List.getElem_mem hIl))
     have HTK := Hd (show (x.leaf.take (I + 1)).map (fun r => setRow r h) = (x.leaf.take I).map (fun r => setRow r h) ++ [setRow x.leaf[I] h] from by rw [List.take_succ_eq_append_getElem hIl, List.map_append]; rfl)
     obtain ⟨row, hro2⟩ : ∃ row, row = x.leaf[I] := ⟨_, rfl⟩
     rw [← hro2] at hrow HRB HTK
     obtain ⟨pr, lr, cr, rfl, hlr, hlc, hlm, hrok, -⟩ := id hrow
     have HLR := Hd hlr
     have HROK := Hd hrok
     have hlr11 : lr ≤ 11 := by have := HRB.out.1; omega
     have HAT := Hd (rowAt hrow)
     have HHI := Hd (HOH.out wi hxi.out)
     obtain ⟨wk, hwk⟩ : ∃ W : World, wi.alloc (.cells h.cs 49) = W := ⟨_, rfl⟩
     have xk : Ext wi wk := hwk ▸ Ext.alloc _ _
     have HKR := Hd (show wk.rangeAt wi.heap.size 0 h.cs.toList from by rw [← hwk]; exact rangeAt_new wi h.cs 49)
     have HKT := Hd (show wk.there wi.heap.size 0 11 from by
      have := thereF (cs := h.cs) (t := 49) (w := wi) (W := wk) (by rw [hwk]; exact Ext.refl _)
      rwa [h.size_cs] at this)
     have HXK := Hd xk
     have HEK := Hd hwk
     have hul : ((x.leaf.take I).map fun r => setRow r h).length ≤ 64 := by rw [List.length_map, List.length_take]; omega
     subst hqe
     clear hlr hrok hrow hwk xk hro2
     go_upto_region 16 with (first | (refine wpList_load_H rfl _ rfl w.heap.size 0 rfl h HHI.out ?_) | (refine wpList_store_new rfl 49 _ _ rfl _ h.cs rfl rfl (by rw [h.size_cs]; kernel_rfl) (by rw [h.size_cs]; rfl) (all_oneCell_toArray h.one) ?_))
     try simp only [Act.put]
     rw [HEK.out]
     clear HEK hcell
     go_wp2_with fail
     go_loopw [56] (fun j wr => ∃ J : Nat, J ≤ lr ∧ j = .int .i64 J ∧ Hid (wr.rangeAt wi.heap.size 0 (setRow (row.take J) h).cs.toList) ∧ Hid (wr.there wi.heap.size 0 11) ∧ Hid (Ext wi wr)) (fun j _ => lr - (intOf j).toNat)
     case atStart => exact ⟨0, Nat.zero_le _, rfl, by show wk.rangeAt wi.heap.size 0 (setRow (row.take 0) h).cs.toList; rw [List.take_zero]; exact HKR.out, HKT.out, HXK.out⟩
     case round =>
      obtain ⟨wj, rfl⟩ : ∃ wj : World, wj = wr := ⟨_, rfl⟩
      obtain ⟨J, hJ, rfl, hkr, hkt, hxj⟩ := hrel
      by_cases h2 : J < lr
      case neg =>
       have hfull : row.take J = row := List.take_of_length_le (by have := HLR.out; omega)
       rw [hfull] at hkr
       obtain ⟨k, hk⟩ : ∃ k, k = setRow row h := ⟨_, rfl⟩
       rw [← hk] at hkr HTK
       have HO := Hd (owns_ext how.out (hxj.out.andAlloc (.cells k.cs 49)))
       have HXn := Hd ((hxi.out.trans hxj.out).andAlloc (.cells k.cs 49))
       have hsz := HXn.out.size
       have HKN := Hd (rangeAt_new wj k.cs 49)
       have hkcs := k.size_cs
       clear how hfull hk HKR HKT hkt
       go_wp2_with (first | (refine wpList_load_H rfl _ rfl wi.heap.size 0 rfl k hkr.out ?_) | (refine wpList_one_H rfl _ rfl k rfl ?_) | (at_builtin; refine wpList_append_E elemH rfl (.tmp 66) (.tmp 68) rfl wo.heap.size u10 _ _ rfl HO.out (some ⟨wj.heap.size, 0, none⟩) 1 1 k.cs.toList rfl (show k.cs.toList.length = 1 * 11 from k.len_cs) (.inr ⟨_, rfl, fun i u hu => by rw [Addr.add_mid]; exact HKN.out i u hu⟩) k.one (by omega) (by omega) hsz ?_; intro v4 w5 o4 g4 t4))
       have HO4 := Hd (show w5.ownsRow wo.heap.size 49 11 v4 ((x.leaf.take (I + 1)).map fun r => setRow r h).length (flatH ((x.leaf.take (I + 1)).map fun r => setRow r h)) from by
        rw [HTK.out, flatH_app, List.length_append]
        simpa [flatH] using o4)
       have HX4 := Hd (HXn.out.grownV g4 (fun i hi => (owns_lt HO.out i hi).1))
       clear o4 g4 t4
       go_roundw
       case rel => exact ⟨I + 1, by omega, by go_num, HO4.out, HX4.out⟩
       case measure => simp [intOf]; omega
      have hJl : J < row.length := by rw [← HLR.out]; exact h2
      obtain ⟨b3, o3, rfl, c0, c1, c2⟩ := HAT.out wj hxj.out J hJl
      have hyb := HRB.out.2 _ (List.getElem_mem hJl)
      have hyo := HROK.out _ (List.getElem_mem hJl)
      have HTJ := Hd (show setRow (row.take (J + 1)) h = (setRow (row.take J) h).put (row[J]).f.toNat (row[J]).n from by
       unfold setRow
       rw [List.take_succ_eq_append_getElem hJl, List.foldl_append]
       rfl)
      obtain ⟨y, hy⟩ : ∃ y, y = row[J] := ⟨_, rfl⟩
      rw [← hy] at c0 c1 c2 hyb hyo HTJ
      obtain ⟨yf, hyf⟩ : ∃ yf : Nat, yf = y.f.toNat := ⟨_, rfl⟩
      have hyf2 : y.f = (yf : Int) := by omega
      have hyf10 : yf ≤ 10 := by omega
      obtain ⟨yn, hyn⟩ : ∃ yn, yn = y.n := ⟨_, rfl⟩
      have hynb : 0 ≤ yn ∧ yn ≤ 18446744073709551615 := by rw [hyn]; exact hyo.2.2
      rw [← hyf, ← hyn] at HTJ
      rw [hyf2] at c1
      rw [← hyn] at c2
      obtain ⟨k, hk⟩ : ∃ k, k = setRow (row.take J) h := ⟨_, rfl⟩
      rw [← hk] at HTJ hkr
      obtain ⟨wS, hS⟩ : ∃ W : World, wj.alloc (.cells #[.int .i8 y.d, .int .i8 yf, .int .u64 yn] 81) = W := ⟨_, rfl⟩
      have xS : Ext wj wS := hS ▸ Ext.alloc _ _
      have e1 : wS.cell? ⟨wj.heap.size, 1, none⟩ = some (.int .i8 yf) := by rw [← hS]; simp [go_sem]
      have e2 : wS.cell? ⟨wj.heap.size, 2, none⟩ = some (.int .u64 yn) := by rw [← hS]; simp [go_sem]
      have hks := World.rangeAt.later xS.later hkr.out
      have hkc : wS.cell? ⟨wi.heap.size, yf, none⟩ = some (.int .u64 (k.f yf)) := by
       have := hks yf _ (by rw [Array.getElem?_toList]; exact k.cell yf (by omega))
       rwa [Nat.zero_add] at this
      have hkt2 := there_keep hkt.out xS
      have hkf : wS.frozen? ⟨wi.heap.size, yf, none⟩ = false := by
       have := (hkt2 yf (by omega)).2
       rwa [Nat.zero_add] at this
      have HKR2 := Hd (range_put hks yf yn hynb)
      have HKT2 := Hd (show (wS.setCell ⟨wi.heap.size, yf, none⟩ (.int .u64 yn)).there wi.heap.size 0 11 from by
       have := World.there_setCells hkt2 wi.heap.size yf [.int .u64 yn]
       exact this)
      have HXS := Hd (show Ext wi (wS.setCell ⟨wi.heap.size, yf, none⟩ (.int .u64 yn)) from (hxj.out.trans xS).andKeep (Keep.set (S := fun i => i = wi.heap.size) wS ⟨wi.heap.size, yf, none⟩ (.int .u64 yn) rfl) (fun i hi => by rw [hi]; exact Nat.le_refl _))
      have HEQ := Hd hS
      have hyf11 : ((yf : Int) < 11) := by omega
      clear hS xS hks hkt2 hk hy hyf hyf2 hyn hyb hyo hkr hkt HKR HKT
      go_upto_region 19 with (first | (refine wpList_store_new rfl 81 _ _ rfl _ #[.int .i8 y.d, .int .i8 yf, .int .u64 yn] rfl rfl (by kernel_rfl) rfl (by rfl) ?_))
      rw [HEQ.out]
      try simp only [Act.put]
      clear c0 c1 c2 HEQ
      go_wp2_with fail
      go_roundw
      case rel => exact ⟨J + 1, by omega, by go_num, by rw [HTJ.out]; exact HKR2.out, HKT2.out, HXS.out⟩
      case measure => simp [intOf]; omega
   have hxf0 : 0 ≤ x.f := by omega
   have hgd : decide (0 ≤ x.f) = true := decide_eq_true hxf0
   have hf10 := HFB.out hxf0
   obtain ⟨hhi, hlo, hhl, hll, -⟩ := HKD.out hxf0
   obtain ⟨xf, hxfe⟩ : ∃ xf : Nat, xf = x.f.toNat := ⟨_, rfl⟩
   have hxf2 : x.f = (xf : Int) := by omega
   obtain ⟨ih, hih⟩ : ∃ ih, ih = x.hi.toNat := ⟨_, rfl⟩
   obtain ⟨il, hil⟩ : ∃ il, il = x.lo.toNat := ⟨_, rfl⟩
   obtain ⟨xn, hxne⟩ : ∃ xn, xn = x.n := ⟨_, rfl⟩
   have HDN := Hd (show downP (A + 1) L A h = downP c L (if h.f xf = xn then ih else il) h from by rw [hdn.out, HDC.out, if_neg hxf, ← hxfe, ← hxne, ← hih, ← hil])
   rw [← hih] at hhi hhl
   rw [← hil] at hlo hll
   rw [hhi] at d2
   rw [hlo] at d3
   rw [hxf2] at d0 hgd
   rw [← hxne] at d1
   have hxf10 : xf ≤ 10 := by omega
   have HD := Hd (And.intro d0 (And.intro d1 (And.intro d2 d3)))
   have HHC := Hd (show ∀ W, Ext wo W → W.cell? ⟨w.heap.size, xf, none⟩ = some (.int .u64 (h.f xf)) from fun W hW => by
    have := HHR.out W ((HX3.out.trans hx.out).trans hW) xf _ (by rw [Array.getElem?_toList]; exact h.cell xf (by omega))
    rwa [Nat.zero_add] at this)
   obtain ⟨hv, hhv⟩ : ∃ hv, hv = h.f xf := ⟨_, rfl⟩
   rw [← hhv] at HDN HHC
   have xz : Ext wo wo.drew := Ext.drew _
   have HXD := Hd xz
   have HSD := Hd (show (fun W : World => W.cell? ⟨w3.heap.size, 0, none⟩ = some (.int .i8 xf) ∧ W.cell? ⟨w3.heap.size, 1, none⟩ = some (.int .u64 xn) ∧ W.cell? ⟨w.heap.size, xf, none⟩ = some (.int .u64 hv)) wo.drew from ⟨xz.later _ _ d0, xz.later _ _ d1, HHC.out _ xz⟩)
   have hS0 := HSD.out
   have hxf11 : ((xf : Int) < 11) := by omega
   have HNX := Hd (show ∀ c2, c2 < c → downP c L c2 h = downP (c2 + 1) L c2 h from fun c2 h2 => downP_fuel HI.out (by omega) h2 (by omega))
   have hz3 : w3.heap.size < wo.heap.size := by
    have h0 := (hth.out 0 (by omega)).1
    obtain ⟨v, hv⟩ := Option.isSome_iff_exists.1 h0
    exact World.block_lt_of_cell? wo _ hv
   clear xz hhi hlo hih hil hxfe hxf2 hxne hdn HDC HKD hxf hxf0 hhv hf10 hro
   go_upto_region 8 with fail
   clear d0 d1 d4 hgd
   refine wp_region_noPanic ?_
   refine wp_region_held_drew (S := (fun W : World => W.cell? ⟨w3.heap.size, 0, none⟩ = some (.int .i8 xf) ∧ W.cell? ⟨w3.heap.size, 1, none⟩ = some (.int .u64 xn) ∧ W.cell? ⟨w.heap.size, xf, none⟩ = some (.int .u64 hv))) (by kernel_rfl) (hS0) (fun hHeld => ?_)
   refine tk 0 (.pointer (some ⟨w3.heap.size, 0, none⟩)) ?_
   try simp only [tkN]
   refine tk 1 (.int .i8 xf) ?_
   try simp only [tkN]
   refine tk 2 (.pointer (some ⟨w.heap.size, xf, none⟩)) ?_
   try simp only [tkN]
   refine tk 3 (.int .u64 hv) ?_
   try simp only [tkN]
   refine tk 4 (.pointer (some ⟨w3.heap.size, 1, none⟩)) ?_
   try simp only [tkN]
   refine tk 5 (.int .u64 xn) ?_
   try simp only [tkN]
   refine tk 6 (.bool (hv == xn)) ?_
   try simp only [tkN]
   refine wpAnyH_done (by kernel_rfl) ?_ _
   refine NoPanic.normal ?_
   have d2 := HXD.out.later _ _ d2
   have d3 := HXD.out.later _ _ d3
   obtain ⟨nx, hnx⟩ : ∃ nx, nx = (if hv = xn then ih else il) := ⟨_, rfl⟩
   have hnc : nx < c := by rw [hnx]; split <;> omega
   have HDN2 := Hd (show downP (A + 1) L A h = downP (nx + 1) L nx h from by rw [HDN.out, ← hnx]; exact HNX.out nx hnc)
   have hnL : nx < L.length := by omega
   have hXo : Ext w wo.drew := ((HXA.out.trans HX3.out).trans hx.out).trans HXD.out
   have HGE := Hd (getS_new p L (nx : Int) wo.drew (HS.out.ext hXo) ⟨by omega, by have := HS.out.inv.2.1; omega⟩)
   have HGP := Hd (show getP L (nx : Int) = some (nodeP L nx) from by
    unfold getP
    rw [if_pos ⟨by omega, by omega⟩, Int.toNat_natCast, nodeP_some hnL])
   have HTT := Hd (there_keep hth.out HXD.out)
   have HXx := Hd (hx.out.trans HXD.out)
   have hszd : wo.drew.heap.size = wo.heap.size := rfl
   clear hXo HDN HNX
   cases hb : (hv == xn) with
   | true =>
    obtain rfl : nx = ih := by
     rw [hnx]
     rw [if_pos (by simpa using hb)]
    clear hb hnx
    go_wp2_with fail
    refine HGE.out.mono ?_
    rintro e w5 ⟨⟨v5, rfl, hv5⟩, hx5⟩
    rw [HGP.out] at hv5 ⊢
    obtain ⟨lv5, rfl, hl5⟩ := hv5
    obtain ⟨q5, n5, c5, rfl, -⟩ := id hl5
    have HNA := Hd (dNdAt_set w5 w3.heap.size (nodeP L nx) q5 n5 c5 (there_keep HTT.out hx5))
    have HTS := Hd (World.there_setCells (there_keep HTT.out hx5) w3.heap.size 0 [.int .i8 (nodeP L nx).f, .int .u64 (nodeP L nx).n, .int .i64 (nodeP L nx).hi, .int .i64 (nodeP L nx).lo, .slice q5 n5 c5])
    have hks := keep_setCells (w := w5) w3.heap.size 0 [.int .i8 (nodeP L nx).f, .int .u64 (nodeP L nx).n, .int .i64 (nodeP L nx).hi, .int .i64 (nodeP L nx).lo, .slice q5 n5 c5]
    have HX6 := Hd ((HXx.out.trans hx5).andKeep hks (fun i hi => by rw [hi]; exact Nat.le_refl _))
    have HRO := Hd (show RowsOn (fun b => w.heap.size ≤ b ∧ b ≠ w3.heap.size) (w5.setCells w3.heap.size 0 [.int .i8 (nodeP L nx).f, .int .u64 (nodeP L nx).n, .int .i64 (nodeP L nx).hi, .int .i64 (nodeP L nx).lo, .slice q5 n5 c5]) (nodeP L nx).leaf (.slice q5 n5 c5) from
     ((hl5.mono (C := fun b => w.heap.size ≤ b ∧ b ≠ w3.heap.size) (fun b hlt hb => ⟨by omega, by omega⟩)).keep hks.size (fun b hb hlt => hks.block b hlt hb.2)))
    have HT5 := Hd (there_keep HTT.out hx5)
    clear hl5 hx5 hks d2 d3
    try simp only [Option.getD_some]
    go_wp2_with (first | (refine wpList_store_mid rfl 42 _ _ rfl w3.heap.size 0 #[.int .i8 (nodeP L nx).f, .int .u64 (nodeP L nx).n, .int .i64 (nodeP L nx).hi, .int .i64 (nodeP L nx).lo, .slice q5 n5 c5] rfl rfl HT5.out (infoNd _ _ _ _ _) (nd_one _ _ _ _ _ _ _) ?_))
    try simp only [Act.put]
    go_roundw
    case rel => exact ⟨nx, q5, n5, c5, rfl, hnL, HDN2.out, HNA.out, HRO.out, HTS.out, HX6.out⟩
    case measure => simp [intOf]; omega
   | false =>
    obtain rfl : nx = il := by
     rw [hnx]
     rw [if_neg (by simpa using hb)]
    clear hb hnx
    go_wp2_with fail
    refine HGE.out.mono ?_
    rintro e w5 ⟨⟨v5, rfl, hv5⟩, hx5⟩
    rw [HGP.out] at hv5 ⊢
    obtain ⟨lv5, rfl, hl5⟩ := hv5
    obtain ⟨q5, n5, c5, rfl, -⟩ := id hl5
    have HNA := Hd (dNdAt_set w5 w3.heap.size (nodeP L nx) q5 n5 c5 (there_keep HTT.out hx5))
    have HTS := Hd (World.there_setCells (there_keep HTT.out hx5) w3.heap.size 0 [.int .i8 (nodeP L nx).f, .int .u64 (nodeP L nx).n, .int .i64 (nodeP L nx).hi, .int .i64 (nodeP L nx).lo, .slice q5 n5 c5])
    have hks := keep_setCells (w := w5) w3.heap.size 0 [.int .i8 (nodeP L nx).f, .int .u64 (nodeP L nx).n, .int .i64 (nodeP L nx).hi, .int .i64 (nodeP L nx).lo, .slice q5 n5 c5]
    have HX6 := Hd ((HXx.out.trans hx5).andKeep hks (fun i hi => by rw [hi]; exact Nat.le_refl _))
    have HRO := Hd (show RowsOn (fun b => w.heap.size ≤ b ∧ b ≠ w3.heap.size) (w5.setCells w3.heap.size 0 [.int .i8 (nodeP L nx).f, .int .u64 (nodeP L nx).n, .int .i64 (nodeP L nx).hi, .int .i64 (nodeP L nx).lo, .slice q5 n5 c5]) (nodeP L nx).leaf (.slice q5 n5 c5) from
     ((hl5.mono (C := fun b => w.heap.size ≤ b ∧ b ≠ w3.heap.size) (fun b hlt hb => ⟨by omega, by omega⟩)).keep hks.size (fun b hb hlt => hks.block b hlt hb.2)))
    have HT5 := Hd (there_keep HTT.out hx5)
    clear hl5 hx5 hks d2 d3
    try simp only [Option.getD_some]
    go_wp2_with (first | (refine wpList_store_mid rfl 42 _ _ rfl w3.heap.size 0 #[.int .i8 (nodeP L nx).f, .int .u64 (nodeP L nx).n, .int .i64 (nodeP L nx).hi, .int .i64 (nodeP L nx).lo, .slice q5 n5 c5] rfl rfl HT5.out (infoNd _ _ _ _ _) (nd_one _ _ _ _ _ _ _) ?_))
    try simp only [Act.put]
    go_roundw
    case rel => exact ⟨nx, q5, n5, c5, rfl, hnL, HDN2.out, HNA.out, HRO.out, HTS.out, HX6.out⟩
    case measure => simp [intOf]; omega
end Go.Proofs.YtjjbdbklbghlhaaGreatDoor
/- The law's own must and made: a diagram out of parts. -/
namespace Go.Proofs.YtjjbdbklbghlhaaGreatDoor
open Go.RowKit Go.Sort Go.Maps Go.Lib
set_option linter.unusedSimpArgs false

theorem SD.tab {F : Nat → Prop} {w : World} {p : Nat} {L : List NdD} (h : SD F w p L) : Tb w := by
 obtain ⟨w0, t1, t2, t3⟩ := h.tb
 exact t1.ext t2
theorem SD.op {F F' : Nat → Prop} {w w' : World} {p : Nat} {L L' : List NdD} (h : SD F w p L) (hto : StTo F w w' p L' F') (hi : InvO L') : SD F' w' p L' := by
 refine ⟨hto.st, hi, ?_⟩
 obtain ⟨w0, t1, t2, t3⟩ := h.tb
 refine ⟨w0, t1, t2.andKeep hto.kp t3, fun b hb => ?_⟩
 rcases hto.sub b hb with e | e
 ·exact t3 b e
 ·exact Nat.le_trans t2.size e
theorem OpPost.d {F : Nat → Prop} {w w' : World} {p : Nat} {L : List NdD} {R : (Int × Int) × List NdD} {e : Ending} (h : SD F w p L) (hi : InvO R.2) (hp : OpPost F w p R e w') : DPost F w p R e w' := by
 obtain ⟨he, F', hto⟩ := hp
 exact ⟨he, F', h.op hto hi, hto.sub, hto.kp⟩
theorem leafD_any {F B : Nat → Prop} (p : Nat) (L : List NdD) (l : List RowD) (v : Value) (w : World) (h : SD F w p L) (hv : RowsOn B w l v) (hl : l.length ≤ 5864062014634) (hrl : ∀ r ∈ l, r.length ≤ 8796093021952) :
  Calls Tryz.prog 64 #[.pointer (some ⟨p, 0, none⟩), v] w (DPost F w p (leafP L l)) :=
 (leafS_any p L l v w h.st hv hl hrl h.tab).mono fun _ _ hp => hp.d h (leafR_fine h.inv l).inv
theorem testD_any {F : Nat → Prop} (p : Nat) (L : List NdD) (f n hi lo : Int) (w : World) (h : SD F w p L) (hf : -128 ≤ f ∧ f ≤ 127) (hn : 0 ≤ n ∧ n ≤ 18446744073709551615) (hhi : -9223372036854775808 ≤ hi ∧ hi ≤ 9223372036854775807) (hlo : -9223372036854775808 ≤ lo ∧ lo ≤ 9223372036854775807) :
  Calls Tryz.prog 43 #[.pointer (some ⟨p, 0, none⟩), .int .i8 f, .int .u64 n, .int .i64 hi, .int .i64 lo] w (DPost F w p (testP L f n hi lo)) :=
 (testS_any p L f n hi lo w h.st hf hn hhi hlo).mono fun _ _ hp => hp.d h (by
  rcases testP_cases L f n hi lo with e | ⟨e, ht⟩
  ·rw [e]; exact h.inv
  ·rw [e]; exact h.inv.snoc fun _ => ht)
structure PartD where
 f : Int
 n : Int
 sets : List RowD
def PartD.ok (x : PartD) : Prop := (-128 ≤ x.f ∧ x.f ≤ 127) ∧ (0 ≤ x.n ∧ x.n ≤ 18446744073709551615) ∧ x.sets.length ≤ 5864062014634 ∧ ∀ r ∈ x.sets, r.length ≤ 8796093021952
def PartsAt (B : Nat → Prop) (w : World) (l : List PartD) (v : Value) : Prop :=
 ∃ p n c, v = .slice p n c ∧ n = l.length ∧ n ≤ c ∧ c ≤ 9223372036854775807 ∧ ∀ i (h : i < l.length), (l[i]).ok ∧ ∃ b o q k e, p = some ⟨b, o, none⟩ ∧ B b ∧ b < w.heap.size ∧ w.cell? ⟨b, o + i * 3, none⟩ = some (.int .i8 (l[i]).f) ∧ w.cell? ⟨b, o + i * 3 + 1, none⟩ = some (.int .u64 (l[i]).n) ∧ w.cell? ⟨b, o + i * 3 + 2, none⟩ = some (.slice q k e) ∧ RowsOn B w (l[i]).sets (.slice q k e)
theorem PartsAt.ext {B : Nat → Prop} {w w' : World} {l : List PartD} {v : Value} (h : PartsAt B w l v) (hx : Ext w w') : PartsAt B w' l v := by
 obtain ⟨p, n, c, h1, h2, h3, h4, h5⟩ := h
 refine ⟨p, n, c, h1, h2, h3, h4, fun i hi => ?_⟩
 obtain ⟨ho, b, o, q, k, e, e1, e2, e3, e4, e5, e6, e7⟩ := h5 i hi
 exact ⟨ho, b, o, q, k, e, e1, e2, Nat.lt_of_lt_of_le e3 hx.size, hx.later _ _ e4, hx.later _ _ e5, hx.later _ _ e6, e7.ext hx⟩
theorem PartsAt.mono {B C : Nat → Prop} {w : World} {l : List PartD} {v : Value} (h : PartsAt B w l v) (hB : ∀ b, b < w.heap.size → B b → C b) : PartsAt C w l v := by
 obtain ⟨p, n, c, h1, h2, h3, h4, h5⟩ := h
 refine ⟨p, n, c, h1, h2, h3, h4, fun i hi => ?_⟩
 obtain ⟨ho, b, o, q, k, e, e1, e2, e3, e4, e5, e6, e7⟩ := h5 i hi
 exact ⟨ho, b, o, q, k, e, e1, hB b e3 e2, e3, e4, e5, e6, e7.mono hB⟩

end Go.Proofs.YtjjbdbklbghlhaaGreatDoor
