/- nodes.rows: rows in order, each once; or they are none. -/
import Derived.Test.YtjjbdbklbghlhaaGreatDoorMA
import Derived.Test.YtjjbdbklbghlhaaGreatDoorMC
import Derived.Shelf.Strconv.AppendIntPublic10
import Derived.Shelf.Strconv.AppendUint10
import Derived.Lib.ItoaLen
import Derived.Lib.AppendIntMem
import Derived.Laws.IdiomStrings
import Derived.Test.YtjjbdbklbghlhaaGreatDoorMB
import Derived.Lib.LaidTab
import Derived.LaidLaws
import Derived.SizedLaws
import Derived.Maps.Keyed
import Derived.Maps.RangeRun
import Derived.DeepKeys4
import Derived.WideKeyArr
import Derived.Carry
import Derived.WideKeyEntry
import Derived.StringKeys
import Derived.Deep.RegionLaw
namespace Go.Proofs.YtjjbdbklbghlhaaGreatDoor
open Go.RowKit Go.Sort Go.Maps Go.Lib
set_option linter.unusedSimpArgs false

set_option maxHeartbeats 1000000 in
theorem fitsN_any (f n : Int) (w : World) (hf : -128 ≤ f ∧ f ≤ 127) (_hn : 0 ≤ n ∧ n ≤ 18446744073709551615) :
   Calls Tryz.prog 66 #[.int .i8 f, .int .u64 n] w fun e w' => e = .returned (.bool (fitsB f n)) ∧ Ext w w' := by
  have HW := Hd (fun w => width_any f hf w)
  obtain ⟨k, hk, hk2⟩ := widthI_le f
  unfold fitsB
  rw [hk] at HW
  rw [hk, Int.toNat_natCast]
  clear hk
  go_enter Tryz.func66, Tryz.ntmps66
  go_wp2_with fail
  refine (HW.out _).mono ?_
  rintro e w1 ⟨rfl, hx⟩
  by_cases hz : (k : Int) = 0
  · have h1 : ((k : Int) == 0) = true := by simpa using hz
    have HF : Hid (fitsK k n = false) := by simp only [Hid, fitsK, h1, if_true]
    have hz2 : ¬ (0 : Int) < k := by omega
    go_wp2_with fail
    go_ret
    exact ⟨by rw [HF.out]; rfl, hx⟩
  · have h1 : ((k : Int) == 0) = false := by simpa using hz
    have hz2 : (0 : Int) < k := by omega
    go_wp2_with fail
    all_goals (go_ret; refine ⟨?_, hx⟩; simp_all [fitsK])

/-- rows so far: the slice of the call's own, the rows beside it -/
structure OutSt (lo : Nat) (w : World) (ov : Value) (m : List RowD) (vs : List Value) : Prop where
 o : w.ownsRow lo 78 1 ov m.length vs
 v : RowsV (fun b => lo ≤ b ∧ ov.ownBlock ≠ some b) w m vs
theorem OutSt.more {lo : Nat} {w w' : World} {ov : Value} {m : List RowD} {vs : List Value} (h : OutSt lo w ov m vs) (hx : Ext w w') : OutSt lo w' ov m vs := ⟨owns_ext h.o hx, h.v.ext hx⟩
theorem OutSt.put {lo : Nat} {w w' : World} {ov ov' : Value} {m : List RowD} {vs : List Value} {r : RowD} {u : Value} (h : OutSt lo w ov m vs) (hr : RowOn (fun b => lo ≤ b ∧ ov.ownBlock ≠ some b) w r u)
  (ho : w'.ownsRow lo 78 1 ov' (m.length + 1) (vs ++ [u])) (hg : w.grownBy w' ov.ownBlock) (hat : ov'.ownBlock = ov.ownBlock ∨ ov'.ownBlock = some w.heap.size) : OutSt lo w' ov' (m ++ [r]) (vs ++ [u]) := by
 refine ⟨by rw [List.length_append]; exact ho, ?_⟩
 have h1 := (h.v.snoc hr).mono (C := fun b => lo ≤ b ∧ ov.ownBlock ≠ some b ∧ b < w.heap.size) (fun b hlt hb => ⟨hb.1, hb.2, hlt⟩)
 have h2 := h1.keep hg.size (fun b hb hlt => hg.block b hlt (fun e => hb.2.1 e.symm))
 refine h2.mono fun b _ hb => ⟨hb.1, ?_⟩
 rcases hat with e | e
 ·rw [e]; exact hb.2.1
 ·rw [e]; intro e2; have := hb.2.2; injection e2 with e2; omega
def RowsPost (l : List RowD) (lo : Nat) (e : Ending) (w' : World) : Prop := match rowsP l with
 | none => e = .returned (.tuple #[.slice none 0 0, .bool false])
 | some m => ∃ u, e = .returned (.tuple #[u, .bool true]) ∧ RowsOn (fun b => lo ≤ b) w' m u
theorem RowsPost.no {l : List RowD} {lo : Nat} {w' : World} (h : rowsP l = none) : RowsPost l lo (.returned (.tuple #[.slice none 0 0, .bool false])) w' := by
 unfold RowsPost; rw [h]
theorem RowsPost.yes {l m : List RowD} {lo : Nat} {w' : World} {u : Value} (h : rowsP l = some m) (hu : RowsOn (fun b => lo ≤ b) w' m u) : RowsPost l lo (.returned (.tuple #[u, .bool true])) w' := by
 unfold RowsPost; rw [h]; exact ⟨u, rfl, hu⟩
theorem rowsP_none {l : List RowD} {r : RowD} (hr : r ∈ l) (h : rowP r = none) : rowsP l = none := by
 unfold rowsP; rw [mapM_none hr h]; rfl
theorem rowP_bad {r : RowD} {a : AcD} (ha : a ∈ r) (h : okA a = false) : rowP r = none := by
 unfold rowP
 rw [if_neg]
 intro h2
 have := List.all_eq_true.1 h2.1 a ha
 rw [h] at this; cases this
theorem zip_fst {α β : Type} : ∀ {l : List α} {m : List β}, m.length = l.length → (l.zip m).map Prod.fst = l
 | [], _, _ => rfl
 | x :: l, [], h => by simp at h
 | x :: l, y :: m, h => by rw [List.zip_cons_cons, List.map_cons, zip_fst (by simpa using h)]
theorem compactEmpty_any (p : Option Addr) (c : Nat) (w : World) :
  Calls Tryz.prog 129 #[.slice p 0 c, rowsFn] w fun e w' => e = .returned (.slice p 0 c) ∧ w = w' := by
 go_enter Tryz.func129, Tryz.ntmps129
 go_wp2_with fail
 go_ret
 exact ⟨rfl, rfl⟩

/-- the last step: what CompactFunc leaves -/
theorem compactOut_any {B : Nat → Prop} (l : List RowD) (vs : List Value) (u : Value) (lo : Nat) (w : World) (ho : w.ownsRow lo 78 1 u l.length vs) (hv : RowsV B w l vs) {lo0 : Nat} (hB : ∀ b, B b → lo0 ≤ b ∧ u.ownBlock ≠ some b) (hlo : lo0 ≤ lo) :
  Calls Tryz.prog 129 #[u, rowsFn] w fun e w' => ∃ u', e = .returned u' ∧ RowsOn (fun b => lo0 ≤ b) w' (ddR l) u' ∧ w.grownBy w' u.ownBlock := by
 rcases owns_range ho with ⟨h0, -⟩ | ⟨g, c, rfl, hb, hlt, hr⟩
 ·have hl : l = [] := List.length_eq_zero_iff.1 h0
  subst hl
  obtain ⟨p, c, rfl, -, hcm⟩ := owns_form ho
  refine (compactEmpty_any p c w).mono ?_
  rintro e w' ⟨rfl, rfl⟩
  exact ⟨_, rfl, ⟨p, 0, c, rfl, rfl, Nat.zero_le _, hcm, .inl rfl⟩, ⟨rfl, rfl, rfl, Nat.le_refl _, fun _ _ _ => rfl⟩⟩
 ·obtain ⟨p', c', he, hlc, hcm⟩ := owns_form ho
  cases he
  have hzl : (l.zip vs).length = l.length := by rw [List.length_zip, hv.1, Nat.min_self]
  have hmem : ∀ p ∈ l.zip vs, RowOn B w p.1 p.2 := fun p hp => by
   obtain ⟨i, hi, rfl⟩ := List.getElem_of_mem hp
   rw [List.getElem_zip]
   exact hv.2 i (by omega) (by rw [hv.1]; omega)
  have hfz : ∀ i, w.frozen? ⟨g, i, none⟩ = false := fun i => by
   rcases ho.2 with ⟨e0, _⟩ | ⟨g', cap', cur, e0, _, hg, _⟩
   ·cases e0
   ·cases e0; simp [World.frozen?, hg]
  have hC : Cells1 w g (l.zip vs) := ⟨fun i hi => by
   have := hr i _ (List.getElem?_eq_getElem (by rw [hv.1]; omega : i < vs.length))
   rw [Nat.zero_add] at this
   rw [this, List.getElem_zip], fun i _ => hfz i⟩
  have hBg : ¬ B g := fun h => (hB g h).2 rfl
  have hcon := compactRows_any (B := B) (l.zip vs) g l.length c w hzl.symm hlc hcm hC hBg hmem
  refine hcon.mono ?_
  rintro e w' ⟨rfl, hcells, hk⟩
  have hdd : (ddG qP (l.zip vs)).map Prod.fst = ddR l := by
   have h1 := ddG_map (fun (r s : RowD) => cmpR r s == 0) (Prod.fst : PairR → RowD) (l.zip vs)
   rw [zip_fst hv.1] at h1
   exact h1
  have hle : (ddG qP (l.zip vs)).length = (ddR l).length := by rw [← hdd, List.length_map]
  have hsub : ∀ m : List PairR, (ddG qP m).length ≤ m.length := fun m => by
   have go : ∀ (l : List PairR) (x : PairR), (ddGo qP x l).length ≤ l.length := by
    intro l
    induction l with
    | nil => intro x; simp [ddGo]
    | cons y l ih =>
     intro x
     rw [ddGo]
     have := ih y
     split <;> simp <;> omega
   cases m with
   | nil => simp [ddG]
   | cons x m => have := go m x; simp [ddG]; omega
  have hgrow : w.grownBy w' (some g) := Keep.grownBy hk
  refine ⟨_, rfl, ⟨some ⟨g, 0, none⟩, (ddG qP (l.zip vs)).length, c, rfl, hle, by have := hsub (l.zip vs); omega, hcm, .inr ⟨g, 0, (ddG qP (l.zip vs)).map Prod.snd, rfl, by omega, by have := hk.size; omega, by rw [List.length_map, hle], fun j v hv => ?_, fun i h h' => ?_⟩⟩, hgrow⟩
  ·rw [List.getElem?_map] at hv
   obtain ⟨p, hp, rfl⟩ := Option.map_eq_some_iff.1 hv
   obtain ⟨hj, rfl⟩ := List.getElem?_eq_some_iff.1 hp
   rw [Nat.zero_add]
   exact hcells j hj
  ·have hi : i < (ddG qP (l.zip vs)).length := by simpa using h'
   have e1 : (ddR l)[i] = ((ddG qP (l.zip vs))[i]).1 := by
    simp only [← hdd, List.getElem_map]
   rw [e1, List.getElem_map]
   have hm := ddG_mem qP (l.zip vs) _ (List.getElem_mem hi)
   exact ((hmem _ hm).keep hk.size (fun b hb hlt => hk.block b hlt (fun e => hBg (e ▸ hb)))).mono fun b _ hb => (hB b hb).1

set_option maxHeartbeats 8000000 in
set_option maxRecDepth 100000 in
theorem rows_any {B : Nat → Prop} (l : List RowD) (v : Value) (w : World) (h : RowsOn B w l v) (hl : l.length ≤ 5864062014634) (hrl : ∀ r ∈ l, r.length ≤ 8796093021952) :
  Calls Tryz.prog 103 #[v] w fun e w' => RowsPost l w.heap.size e w' ∧ Ext w w' := by
 have HV := Hd h
 obtain ⟨p, len, cap, rfl, hlen, hlc, hcm, hr⟩ := h
 have HL := Hd hlen
 have hlm : len ≤ 5864062014634 := by omega
 have HRL := Hd hrl
 have HR := Hd (fun W (hW : Ext w W) i (hi : i < l.length) => show ∃ b o u, p = some ⟨b, o, none⟩ ∧ W.cell? ⟨b, o + i, none⟩ = some u ∧ RowOn B W (l[i]) u from by
  rcases hr with rfl | ⟨b, o, vs, hp, -, -, hvl, hrr, hrow⟩
  ·simp at hi
  ·have hi' : i < vs.length := by rw [hvl]; exact hi
   exact ⟨b, o, vs[i], hp, hW.later _ _ (hrr i _ (List.getElem?_eq_getElem hi')), (hrow i hi hi').ext hW⟩)
 clear hlen hr hrl
 go_enter Tryz.func103, Tryz.ntmps103
 go_wp2_with fail
 go_loopw [4, 13] (fun ov i wr => ∃ (j : Nat) (m : List RowD) (vs : List Value), j ≤ len ∧ i = .int .i64 j ∧ Hid ((l.take j).mapM rowP = some m) ∧ Hid (OutSt w.heap.size wr ov m vs) ∧ Hid (Ext w wr)) (fun _ i _ => len - (intOf i).toNat)
 case atStart => exact ⟨0, [], [], Nat.zero_le _, rfl, by show (l.take 0).mapM rowP = some []; rw [List.take_zero]; rfl, ⟨World.ownsRow_nil _ _ _ _, RowsV.nil⟩, Ext.refl _⟩
 case round =>
  obtain ⟨wo, rfl⟩ : ∃ wo : World, wo = wr := ⟨_, rfl⟩
  obtain ⟨j, m, vs, hj, rfl, hm, hst, hx⟩ := hrel
  have HML := Hd (show m.length = (l.take j).length from mapM_len hm.out)
  by_cases hlt : j < len
  case neg =>
   have HMM := Hd (show l.mapM rowP = some m from by
    have := hm.out
    rwa [List.take_of_length_le (by have := HL.out; omega)] at this)
   have hml : m.length ≤ 5864062014634 := by have := HML.out; rw [List.length_take] at this; omega
   have HRO := Hd (show RowsOn (fun b => w.heap.size ≤ b ∧ b < wo.heap.size) wo m u4 from
    (RowsOn.of_owns (B := fun b => w.heap.size ≤ b) hst.out.o (hst.out.v.mono fun b _ hb => hb.1) (fun b hb => (owns_lt hst.out.o b hb).1)).mono fun b hlt hb => ⟨hb, hlt⟩)
   have HSO := Hd (sortedR_any m u4 wo HRO.out hml (fun b hb => hb.2))
   obtain ⟨po, co, rfl, -⟩ := owns_form hst.out.o
   clear hm hst HRO
   go_wp2_with fail
   refine HSO.out.mono ?_
   rintro e w2 ⟨u, rfl, l', vs', ⟨hp1, hp2⟩, ho2, hv2, hx2⟩
   have HLS := Hd (show l' = sortR m from rsorted_eq (mapM_ok HMM.out) hp1 hp2 (sortR_perm m) (sortR_sorted m))
   have HX2 := Hd (hx.out.trans hx2)
   have HCO := Hd (compactOut_any (lo0 := w.heap.size) l' vs' u wo.heap.size w2 ho2 hv2 (fun b hb => ⟨hb.1, fun e => by have := (owns_lt ho2 b e).1; omega⟩) hx.out.size)
   have HOB := Hd (fun i (hi : u.ownBlock = some i) => (owns_lt ho2 i hi).1)
   obtain ⟨pu, cu, rfl, -⟩ := owns_form ho2
   clear hp1 hp2 ho2 hv2 hx2
   go_wp2_with fail
   refine HCO.out.mono ?_
   rintro e w3 ⟨u', rfl, hu3, hg3⟩
   have HF := Hd (show rowsP l = some (ddR l') from by unfold rowsP; rw [HMM.out, HLS.out]; rfl)
   have HU3 := Hd hu3
   have HX3 := Hd (HX2.out.grownV hg3 (fun i hi => Nat.le_trans hx.out.size (HOB.out i hi)))
   clear hu3 hg3
   go_wp2_with fail
   go_ret2
   exact ⟨RowsPost.yes HF.out HU3.out, HX3.out⟩
  have hjl : j < l.length := by rw [← HL.out]; exact hlt
  obtain ⟨b, o, rv, hpe, hcell, hrow⟩ := HR.out wo hx.out j hjl
  have HIN := Hd (show l[j] ∈ l from List.getElem_mem _)
  have HTk := Hd (List.take_succ_eq_append_getElem hjl)
  have hrl := HRL.out _ HIN.out
  generalize l[j] = r at *
  have HROW := Hd hrow
  have hrow2 := hrow
  obtain ⟨pr, lr, cr, rfl, hlr, hlcr, hcmr, hokr, hrr⟩ := hrow2
  have HLR := Hd hlr
  have hlr2 : lr ≤ 8796093021952 := by omega
  have HOKR := Hd hokr
  have HRR := Hd (show r = [] ∨ ∃ b o, pr = some ⟨b, o, none⟩ ∧ ∀ W, Ext wo W → W.rangeAt b o (flatA r) from
   hrr.imp id fun ⟨b, o, hp, _, _, h⟩ => ⟨b, o, hp, fun W hW => World.rangeAt.later hW.later h⟩)
  subst hpe
  clear hlr hokr hrr hrow
  go_wp2_with fail
  clear hcell
  go_loopw [19] (fun i wr => ∃ k : Nat, k ≤ lr ∧ i = .int .i64 k ∧ Hid (okR (r.take k) = true) ∧ Hid (Ext wo wr)) (fun i _ => lr - (intOf i).toNat)
  case atStart => exact ⟨0, Nat.zero_le _, rfl, by show okR (r.take 0) = true; simp [okR], Ext.refl _⟩
  case round =>
   obtain ⟨wn, rfl⟩ : ∃ wn : World, wn = wr := ⟨_, rfl⟩
   obtain ⟨k, hk, rfl, hok, hxn⟩ := hrel
   by_cases hlt2 : k < lr
   ·have hkl : k < r.length := by rw [← HLR.out]; exact hlt2
    rcases HRR.out with h | ⟨br, or', rfl, hrr⟩
    ·exfalso; subst h; simp at hkl
    obtain ⟨c0, c1, c2⟩ := acAt (hrr wn hxn.out) k hkl
    have HINA := Hd (show r[k] ∈ r from List.getElem_mem _)
    have HTK := Hd (List.take_succ_eq_append_getElem hkl)
    have hoka := HOKR.out _ HINA.out
    generalize r[k] = a at *
    obtain ⟨wS, hS⟩ : ∃ W : World, wn.alloc (.cells #[.int .i8 a.d, .int .i8 a.f, .int .u64 a.n] 81) = W := ⟨_, rfl⟩
    have xS : Ext wn wS := hS ▸ Ext.alloc _ _
    have e0 : wS.cell? ⟨wn.heap.size, 0, none⟩ = some (.int .i8 a.d) := by rw [← hS]; simp [go_sem]
    have e1 : wS.cell? ⟨wn.heap.size, 1, none⟩ = some (.int .i8 a.f) := by rw [← hS]; simp [go_sem]
    have e2 : wS.cell? ⟨wn.heap.size, 2, none⟩ = some (.int .u64 a.n) := by rw [← hS]; simp [go_sem]
    have HEQ := Hd hS
    have HXS := Hd (hxn.out.trans xS)
    have HFI := Hd (fitsN_any a.f a.n wS hoka.2.1 hoka.2.2)
    have HOKA := Hd (show okA a = (decide (a.d = 0) && fitsB a.f a.n) from by unfold okA; congr 1)
    clear hS xS hrr hoka
    go_upto_region 8 with (first | (refine wpList_store_new rfl 81 _ _ rfl _ #[.int .i8 a.d, .int .i8 a.f, .int .u64 a.n] rfl rfl (by kernel_rfl) rfl (by rfl) ?_))
    rw [HEQ.out]
    try simp only [Act.put]
    clear c0 c1 c2 HEQ
    by_cases hd0 : a.d = 0
    case neg =>
     have HF := Hd (show rowsP l = none from rowsP_none HIN.out (rowP_bad HINA.out (by rw [HOKA.out]; simp [hd0])))
     have hd1 : (a.d != 0) = true := by simpa using hd0
     generalize a.d = y at *
     go_wp2_with fail
     go_ret2
     exact ⟨RowsPost.no HF.out, hx.out.trans HXS.out⟩
    rw [hd0] at e0
    have HOKB := Hd (show okA a = fitsB a.f a.n from by rw [HOKA.out]; simp [hd0])
    clear hd0 HOKA
    go_wp2_with fail
    refine HFI.out.mono ?_
    rintro e w4 ⟨rfl, hx4⟩
    have HX4 := Hd (HXS.out.trans hx4)
    clear e0 e1 e2 hx4
    cases hb : fitsB a.f a.n with
    | false =>
     have HF := Hd (show rowsP l = none from rowsP_none HIN.out (rowP_bad HINA.out (by rw [HOKB.out, hb])))
     clear hb
     go_wp2_with fail
     go_ret2
     exact ⟨RowsPost.no HF.out, hx.out.trans HX4.out⟩
    | true =>
     have HOK2 := Hd (show okR (r.take (k + 1)) = true from by
      have h1 := hok.out
      unfold okR at *
      rw [HTK.out, List.all_append, h1]
      simp [HOKB.out, hb])
     clear hb
     go_wp2_with fail
     go_roundw
     case rel => exact ⟨k + 1, by omega, by go_num, HOK2.out, HX4.out⟩
     case measure => simp [intOf]; omega
   ·have HOKA := Hd (show okR r = true from by
     have := hok.out
     rwa [List.take_of_length_le (by have := HLR.out; omega)] at this)
    have HSA := Hd (sortedA_any r (.slice pr lr cr) wn (HROW.out.ext hxn.out) (by have := HLR.out; omega))
    clear hok
    go_wp2_with fail
    refine HSA.out.mono ?_
    rintro e w4 ⟨sv, rfl, s, hs, hos, hx4⟩
    have HSS := Hd hs
    have HOS := Hd hos
    have HX4 := Hd (hxn.out.trans hx4)
    have hsl : s.length ≤ 8796093021952 := by have := hs.1.length_eq; have := HLR.out; omega
    obtain ⟨ps, cs, rfl, hsc, hsm⟩ := owns_form hos
    obtain ⟨sn, hsn⟩ : ∃ sn, sn = s.length := ⟨_, rfl⟩
    have HSN := Hd hsn
    rw [← hsn] at hsc hsl ⊢
    have HSR := Hd (show (sn = 0) ∨ ∃ g, ps = some ⟨g, 0, none⟩ ∧ ∀ W, Ext w4 W → W.rangeAt g 0 (flatA s) from by
     rcases owns_range hos with ⟨h0, -⟩ | ⟨g, c, he, -, -, hr⟩
     ·exact .inl (hsn.trans h0)
     ·cases he
      exact .inr ⟨g, rfl, fun W hW => World.rangeAt.later hW.later hr⟩)
    clear hs hos hx4 hsn HSA
    go_wp2_with fail
    go_loopw [10] (fun i wr => ∃ k : Nat, (k + 1 ≤ sn ∨ k = 0) ∧ i = .int .i64 (k + 1 : Nat) ∧ Hid (∀ m (h : m < s.length), 0 < m → m < k + 1 → (s[m - 1]).f ≠ (s[m]).f) ∧ Hid (Ext w4 wr)) (fun i _ => sn + 1 - (intOf i).toNat)
    case atStart => exact ⟨0, .inr rfl, rfl, fun m h h0 h1 => by omega, Ext.refl _⟩
    case round =>
     obtain ⟨wq, rfl⟩ : ∃ wq : World, wq = wr := ⟨_, rfl⟩
     obtain ⟨q, hq, rfl, hne, hxq⟩ := hrel
     by_cases hlt3 : q + 1 < sn
     case neg =>
      have HRP := Hd (show rowP r = some s from by
       have hn : (s.map AcD.f).Nodup := nodup_of_steps HSS.out.2 (fun m h h0 => hne.out m h h0 (by have := HSN.out; omega))
       have hn2 : (r.map AcD.f).Nodup := (HSS.out.1.map AcD.f).nodup_iff.1 hn
       unfold rowP
       rw [if_pos ⟨HOKA.out, hn2⟩]
       exact congrArg some (fsorted_eq hn2 (sortF_perm r) (sortF_sorted r) HSS.out.1 HSS.out.2))
      have HM2 := Hd (show (l.take (j + 1)).mapM rowP = some (m ++ [s]) from by rw [HTk.out]; exact mapM_snoc HRP.out hm.out)
      have HXq := Hd (HX4.out.trans hxq.out)
      have HSTq := Hd (hst.out.more (HXq.out.trans (Ext.alloc wq (.cells #[.slice ps sn cs] 78))))
      have HROWs := Hd (show RowOn (fun b => w.heap.size ≤ b ∧ u4.ownBlock ≠ some b) (wq.alloc (.cells #[.slice ps sn cs] 78)) s (.slice ps sn cs) from by
       have hxa : Ext w4 (wq.alloc (.cells #[.slice ps sn cs] 78)) := hxq.out.andAlloc _
       refine ⟨ps, sn, cs, rfl, HSN.out, hsc, hsm, fun x hx => ?_, ?_⟩
       ·exact HOKR.out x (HSS.out.1.mem_iff.1 hx)
       ·rcases owns_range HOS.out with ⟨h0, -⟩ | ⟨g, c, he, hb, hlt, hr⟩
        ·exact .inl (List.length_eq_zero_iff.1 h0)
        ·cases he
         have h1 : wn.heap.size ≤ g := hb
         have h2 := hx.out.size
         have h3 := hxn.out.size
         refine .inr ⟨g, 0, rfl, ⟨by omega, fun e => ?_⟩, by have := hxa.size; omega, World.rangeAt.later hxa.later hr⟩
         have := (owns_lt hst.out.o g e).2
         omega)
      have hmn : m.length ≤ 5864062014634 := by have := HML.out; rw [List.length_take] at this; omega
      have hszq : w.heap.size ≤ (wq.alloc (.cells #[.slice ps sn cs] 78)).heap.size := ((hx.out.trans HXq.out).andAlloc _).size
      clear hne hxq hst hm
      go_wp2_with (at_builtin; refine wpList_append_E elemR rfl (.tmp 55) (.tmp 57) rfl w.heap.size u4 m.length vs rfl HSTq.out.o (some ⟨wq.heap.size, 0, none⟩) 1 1 [.slice ps sn cs] rfl rfl (.inr ⟨_, rfl, fun i u hu => by
       cases i with
       | zero => simp at hu; subst hu; simp [go_sem]
       | succ i => simp at hu⟩) (by intro u hu; simp at hu; subst hu; rfl) (by omega) (by omega) hszq ?_; intro v' w' o1 g1 t1)
      go_roundw
      case rel => exact ⟨j + 1, m ++ [s], vs ++ [.slice ps sn cs], by omega, by go_num, HM2.out, HSTq.out.put HROWs.out o1 g1 t1, ((hx.out.trans HXq.out).andAlloc _).grownV g1 (fun i hi => (owns_lt HSTq.out.o i hi).1)⟩
      case measure => simp [intOf]; omega
     have hql : q + 1 < s.length := by rw [← HSN.out]; exact hlt3
     obtain ⟨g, rfl, hrg⟩ := HSR.out.resolve_left (by omega)
     have hca := fun W (hW : Ext wq W) => (acAt (hrg W (hxq.out.trans hW)) (q + 1) hql).2.1
     have hcb := fun W (hW : Ext wq W) => (acAt (hrg W (hxq.out.trans hW)) q (by omega)).2.1
     simp only [Nat.zero_add] at hca hcb
     obtain ⟨fa, hfa⟩ : ∃ fa, fa = (s[q + 1]).f := ⟨_, rfl⟩
     obtain ⟨fb, hfb⟩ : ∃ fb, fb = (s[q]'(by omega)).f := ⟨_, rfl⟩
     rw [← hfa] at hca
     rw [← hfb] at hcb
     have HFA := Hd hfa
     have HFB := Hd hfb
     have HSX := Hd (fun W (hW : Ext wq W) => (show (fun W => W.cell? ⟨g, (q + 1) * 3 + 1, none⟩ = some (.int .i8 fa) ∧ W.cell? ⟨g, q * 3 + 1, none⟩ = some (.int .i8 fb)) W from ⟨hca W hW, hcb W hW⟩))
     have hxd := Ext.drew wq
     have hadd : ((q : Int) + 1 - 1) = q := by omega
     clear hca hcb hfa hfb hrg
     go_upto_region 15 with fail
     refine wp_region_noPanic ?_
     refine wp_region_held_drew (S := (fun W => W.cell? ⟨g, (q + 1) * 3 + 1, none⟩ = some (.int .i8 fa) ∧ W.cell? ⟨g, q * 3 + 1, none⟩ = some (.int .i8 fb))) (by kernel_rfl) (HSX.out _ hxd) (fun hHeld => ?_)
     refine tk 0 (.slice (some ⟨g, 0, none⟩) sn cs) ?_
     try simp only [tkN]
     refine tk 1 (.int .i64 (q + 1 : Nat)) ?_
     try simp only [tkN]
     refine tk 2 (.pointer (some ⟨g, (q + 1) * 3, none⟩)) ?_
     try simp only [tkN]
     refine tk 3 (.pointer (some ⟨g, (q + 1) * 3 + 1, none⟩)) ?_
     try simp only [tkN]
     refine tk 4 (.int .i8 fa) ?_
     try simp only [tkN]
     refine tk 5 (.slice (some ⟨g, 0, none⟩) sn cs) ?_
     try simp only [tkN]
     refine tk 6 (.int .i64 (q + 1 : Nat)) ?_
     try simp only [tkN]
     refine tk 7 (.int .i64 q) ?_
     try simp only [tkN]
     refine tk 8 (.pointer (some ⟨g, q * 3, none⟩)) ?_
     try simp only [tkN]
     refine tk 9 (.pointer (some ⟨g, q * 3 + 1, none⟩)) ?_
     try simp only [tkN]
     refine tk 10 (.int .i8 fb) ?_
     try simp only [tkN]
     refine tk 11 (.bool (fa == fb)) ?_
     try simp only [tkN]
     refine wpAnyH_done (by kernel_rfl) ?_ _
     refine NoPanic.normal ?_
     clear hHeld
     by_cases hfe : fa = fb
     ·have HF := Hd (show rowsP l = none from rowsP_none HIN.out (by
       unfold rowP
       rw [if_neg]
       intro h2
       have hn : (s.map AcD.f).Nodup := (HSS.out.1.map AcD.f).nodup_iff.2 h2.2
       exact not_nodup (m := q) hql (by rw [← HFA.out, ← HFB.out]; exact hfe.symm) hn))
      have hfe2 : (fa == fb) = true := by simpa using hfe
      rw [hfe2]
      clear hfe hfe2
      go_wp2_with fail
      go_ret2
      exact ⟨RowsPost.no HF.out, hx.out.trans (HX4.out.trans (hxq.out.trans hxd))⟩
     ·have HN := Hd (show ∀ m (h : m < s.length), 0 < m → m < q + 1 + 1 → (s[m - 1]).f ≠ (s[m]).f from fun m h h0 h1 => by
       rcases Nat.lt_succ_iff_lt_or_eq.1 h1 with h2 | rfl
       ·exact hne.out m h h0 h2
       ·show (s[q]'(by omega)).f ≠ (s[q + 1]).f
        rw [← HFA.out, ← HFB.out]
        exact fun e => hfe e.symm)
      have hfe2 : (fa == fb) = false := by simpa using hfe
      rw [hfe2]
      clear hfe hfe2 hne
      go_wp2_with fail
      go_roundw
      case rel => exact ⟨q + 1, .inl (by omega), by go_num, HN.out, hxq.out.trans hxd⟩
      case measure => simp [intOf]; omega
end Go.Proofs.YtjjbdbklbghlhaaGreatDoor
/- nodes.key: rows as a key. -/
namespace Go.Proofs.YtjjbdbklbghlhaaGreatDoor
open Go.RowKit Go.Sort Go.Maps Go.Lib
set_option linter.unusedSimpArgs false

/-- the table of strconv's reads as it was laid -/
def Tb (w : World) : Prop := Lib.TabIs Tryz.prog w "internal/strconv.uint64pow10" .u64 Lib.pow10Tab
theorem Tb.ext {w w' : World} (h : Tb w) (hx : Ext w w') : Tb w' := Lib.tabBelow_of_tabIs h w' hx
def actK (a : AcD) : List UInt8 := 32 :: (Lib.itoa a.f ++ 61 :: Lib.decDigits a.n.toNat)
def rowK (r : RowD) : List UInt8 := r.flatMap actK ++ [59]
def keyK (l : List RowD) : List UInt8 := l.flatMap rowK
theorem elemB : Elem Tryz.prog 128 5 1 1 :=
 ⟨Tryz.underlying128, by obtain ⟨i, h1, h2, h3, h4⟩ := info_parts (show (Tryz.prog.info? 5).map (fun i => (i.zero, i.size, i.bytes)) = some (some (.int .u8 0), 1, 1) from by kernel_rfl); exact ⟨i, _, h1, h2, h3, h4, rfl⟩, by omega, fun w => by kernel_rfl, by omega⟩
theorem appInt_any (B n : Nat) (i : Int) (h0 : -9223372036854775808 ≤ i) (h1 : i ≤ 9223372036854775807) (sv : Value) (xs : List Value) (w : World) (hown : w.ownsRow B 5 1 sv n xs) (hBw : B ≤ w.heap.size) (hlim : n + 21 ≤ 140737488355328)
  (htab : Lib.TabBelow Tryz.prog B w "internal/strconv.uint64pow10" .u64 Lib.pow10Tab) :
  Calls Tryz.prog 131 #[sv, .int .i64 i, .int .i64 10] w fun e w' => ∃ v', e = .returned v' ∧ w'.ownsRow B 5 1 v' (n + (Lib.itoa i).length) (xs ++ Lib.byteCells (Lib.itoa i)) ∧ Below B w w' ∧ Lib.OthersKept 5 none w w' :=
 Any.strconv_AppendInt_10 Tryz.appendI B n i h0 h1 sv xs w hown hBw hlim htab
theorem appUintI_any (B n u : Nat) (hu : u < 18446744073709551616) (sv : Value) (xs : List Value) (w : World) (hown : w.ownsRow B 5 1 sv n xs) (hBw : B ≤ w.heap.size) (hlim : n + 20 ≤ 140737488355328) (htab : Tb w) :
  Calls Tryz.prog 143 #[sv, .int .u64 u, .int .i64 10] w fun e w' => ∃ v', e = .returned v' ∧ w'.ownsRow B 5 1 v' (n + (Lib.decDigits u).length) (xs ++ Lib.byteCells (Lib.decDigits u)) ∧ Below B w w' ∧ Lib.OthersKept 5 none w w' := by
 by_cases h : u < 100
 ·exact Any.internal_strconv_AppendUint_10_small Tryz.appendU B n u h sv xs w hown hBw hlim
 ·exact Any.internal_strconv_AppendUint_10_big Tryz.appendU B n u (by omega) hu sv xs w hown hBw hlim htab
def AppPost (B n : Nat) (xs ys : List Value) (w : World) (e : Ending) (w' : World) : Prop := ∃ v', e = .returned v' ∧ w'.ownsRow B 5 1 v' (n + ys.length) (xs ++ ys) ∧ Below B w w' ∧ Lib.OthersKept 5 none w w'
theorem appUint_any (B n u : Nat) (hu : u < 18446744073709551616) (sv : Value) (xs : List Value) (w : World) (hown : w.ownsRow B 5 1 sv n xs) (hBw : B ≤ w.heap.size) (hlim : n + 20 ≤ 140737488355328) (htab : Tb w) :
  Calls Tryz.prog 132 #[sv, .int .u64 u, .int .i64 10] w (AppPost B n xs (Lib.byteCells (Lib.decDigits u)) w) := by
 have HC := Hd (appUintI_any B n u hu sv xs w hown hBw hlim htab)
 obtain ⟨p, c, rfl, -⟩ := owns_form hown
 obtain ⟨ui, hui⟩ : ∃ ui : Int, ui = (u : Int) := ⟨_, rfl⟩
 rw [← hui] at HC ⊢
 clear hui
 go_enter Tryz.func132, Tryz.ntmps132
 go_wp2_with fail
 refine HC.out.mono ?_
 rintro e w1 ⟨v', rfl, h1, h2, h3⟩
 have HP := Hd (show AppPost B n xs (Lib.byteCells (Lib.decDigits u)) w (.returned v') w1 from ⟨v', rfl, by rw [Lib.byteCells_length]; exact h1, h2, h3⟩)
 clear h1 h2 h3
 go_wp2_with fail
 go_ret
 exact HP.out
theorem itoa_small (i : Int) (h0 : -128 ≤ i) (h1 : i ≤ 127) : (Lib.itoa i).length ≤ 21 := Lib.itoa_length_le i (by omega) (by omega)
theorem dec_len (u : Nat) (hu : u < 18446744073709551616) : (Lib.decDigits u).length ≤ 20 := by
 rw [Lib.decDigits_length]
 exact Lib.nDigits_le20 u hu
theorem actK_len (a : AcD) (h : a.ok) : (actK a).length ≤ 43 := by
 unfold actK
 have h1 := itoa_small a.f h.2.1.1 h.2.1.2
 have h2 := dec_len a.n.toNat (by have := h.2.2; omega)
 simp only [List.length_cons, List.length_append]
 omega

set_option maxHeartbeats 8000000 in
set_option maxRecDepth 100000 in
theorem key_any {B : Nat → Prop} (l : List RowD) (v : Value) (w : World) (h : RowsOn B w l v) (hl : l.length ≤ 64) (hrl : ∀ r ∈ l, r.length ≤ 10000) (ht : Tb w) :
  Calls Tryz.prog 104 #[v] w fun e w' => e = .returned (.string ⟨(keyK l).toArray⟩) ∧ Ext w w' := by
 obtain ⟨p, len, cap, rfl, hlen, hlc, hcm, hr⟩ := h
 have HL := Hd hlen
 have hlm : len ≤ 64 := by omega
 have HRL := Hd hrl
 have HTB := Hd (Lib.tabBelow_of_tabIs ht)
 have HR := Hd (fun i (hi : i < l.length) => show ∃ b o u, p = some ⟨b, o, none⟩ ∧ (∀ W, Ext w W → W.cell? ⟨b, o + i, none⟩ = some u) ∧ RowOn B w (l[i]) u from by
  rcases hr with rfl | ⟨b, o, vs, hp, -, -, hvl, hrr, hrow⟩
  ·simp at hi
  ·have hi' : i < vs.length := by rw [hvl]; exact hi
   exact ⟨b, o, vs[i], hp, fun W hW => hW.later _ _ (hrr i _ (List.getElem?_eq_getElem hi')), hrow i hi hi'⟩)
 clear hlen hr hrl ht
 go_enter Tryz.func104, Tryz.ntmps104
 go_wp2_with fail
 go_loopw [3, 10] (fun bv i wr => ∃ (j n : Nat) (bs : List UInt8), j ≤ len ∧ i = .int .i64 j ∧ Hid (bs = keyK (l.take j)) ∧ Hid (n = bs.length) ∧ n ≤ j * 500000 ∧ Hid (wr.ownsRow w.heap.size 5 1 bv n (Lib.byteCells bs)) ∧ Hid (Ext w wr)) (fun _ i _ => len - (intOf i).toNat)
 case atStart => exact ⟨0, 0, [], Nat.zero_le _, rfl, by show [] = keyK (l.take 0); rw [List.take_zero]; rfl, rfl, by omega, World.ownsRow_nil _ _ _ _, Ext.refl _⟩
 case round =>
  obtain ⟨wo, rfl⟩ : ∃ wo : World, wo = wr := ⟨_, rfl⟩
  obtain ⟨j, n, bs, hj, rfl, hbs, hn, hnb, how, hx⟩ := hrel
  by_cases hlt : j < len
  case neg =>
   have HF := Hd (show bs = keyK l from by
    have := hbs.out
    rwa [List.take_of_length_le (by have := HL.out; omega)] at this)
   rcases owns_range how.out with ⟨h0, h1⟩ | ⟨g, c, rfl, hb, hlt', hrg⟩
   ·have hbe : bs = [] := by
     have := hn.out
     rw [h0] at this
     exact List.length_eq_zero_iff.1 this.symm
    subst hbe
    obtain ⟨po, co, rfl, -⟩ := owns_form how.out
    subst h0
    have hcv : (convert 128 9 (.slice po 0 co)).run Tryz.prog wo = .ok (.string ⟨#[]⟩) wo := by
     rw [run_convert_bytes_string wo 128 9 5 po 0 co Tryz.underlying128 Tryz.underlying5 Tryz.underlying9]
     cases po <;> simp [Conv.bytesToString, loadCells, loadCellsFrom, Result.andThen] <;> rfl
    have HXo := Hd hx.out
    clear hbs hn how h1
    go_wp2_with fail
    go_ret
    exact ⟨by rw [← HF.out]; rfl, HXo.out⟩
   ·have hn' := hn.out
    have hcv := run_convert_bytes_back (P := Tryz.prog) wo 128 9 5 ⟨g, 0, none⟩ c bs Tryz.underlying128 Tryz.underlying5 Tryz.underlying9 (fun i hi => by
     rw [Addr.add_mid]
     exact hrg i _ (by simp [Lib.byteCells, hi]))
    rw [← hn'] at hcv
    have HXo := Hd hx.out
    clear hbs hn how hrg hn'
    go_wp2_with fail
    go_ret
    exact ⟨by rw [HF.out]; rfl, HXo.out⟩
  have hjl : j < l.length := by rw [← HL.out]; exact hlt
  obtain ⟨b, o, rv, hpe, hcell, hrow⟩ := HR.out j hjl
  have hcell := hcell wo hx.out
  have HIN := Hd (show l[j] ∈ l from List.getElem_mem _)
  have HTk := Hd (List.take_succ_eq_append_getElem hjl)
  have hrl := HRL.out _ HIN.out
  generalize l[j] = r at *
  obtain ⟨pr, lr, cr, rfl, hlr, hlcr, hcmr, hokr, hrr⟩ := hrow
  have HLR := Hd hlr
  have hlr2 : lr ≤ 10000 := by omega
  have HOKR := Hd hokr
  have HRR := Hd (show r = [] ∨ ∃ b o, pr = some ⟨b, o, none⟩ ∧ ∀ W, Ext w W → W.rangeAt b o (flatA r) from
   hrr.imp id fun ⟨b, o, hp, _, _, h⟩ => ⟨b, o, hp, fun W hW => World.rangeAt.later hW.later h⟩)
  subst hpe
  clear hlr hokr hrr
  go_wp2_with fail
  clear hcell
  go_loopw [3, 16] (fun bv i wr => ∃ (k n' : Nat) (bs' : List UInt8), k ≤ lr ∧ i = .int .i64 k ∧ Hid (bs' = keyK (l.take j) ++ (r.take k).flatMap actK) ∧ Hid (n' = bs'.length) ∧ n' ≤ j * 500000 + k * 43 ∧ Hid (wr.ownsRow w.heap.size 5 1 bv n' (Lib.byteCells bs')) ∧ Hid (Ext w wr)) (fun _ i _ => lr - (intOf i).toNat)
  case atStart => exact ⟨0, n, bs, Nat.zero_le _, rfl, by show bs = keyK (l.take j) ++ (r.take 0).flatMap actK; rw [List.take_zero, List.flatMap_nil, List.append_nil]; exact hbs.out, hn.out, Nat.le_trans hnb (Nat.le_add_right _ _), how.out, hx.out⟩
  case round =>
   obtain ⟨wn, rfl⟩ : ∃ wn : World, wn = wr := ⟨_, rfl⟩
   obtain ⟨k, n1, bs1, hk, rfl, hbs1, hn1, hnb1, how1, hxn⟩ := hrel
   have hszn : w.heap.size ≤ wn.heap.size := hxn.out.size
   by_cases hlt2 : k < lr
   case neg =>
    have HO := Hd (owns_ext how1.out (Ext.alloc wn (.cells #[.int .u8 59] 5)))
    have HXa := Hd (hxn.out.andAlloc (.cells #[.int .u8 59] 5))
    have hsza : w.heap.size ≤ (wn.alloc (.cells #[.int .u8 59] 5)).heap.size := HXa.out.size
    have HBS := Hd (show bs1 ++ [59] = keyK (l.take (j + 1)) from by
     have h1 := hbs1.out
     rw [List.take_of_length_le (l := r) (by have := HLR.out; omega)] at h1
     rw [h1, HTk.out]
     simp [keyK, rowK])
    have HN := Hd (show n1 + 1 = (bs1 ++ [59]).length from by rw [List.length_append, hn1.out]; rfl)
    have HCE := Hd (show Lib.byteCells bs1 ++ [Value.int .u8 59] = Lib.byteCells (bs1 ++ [59]) from by simp [Lib.byteCells])
    have HBL := Hd (fun i (hi : u3.ownBlock = some i) => (owns_lt how1.out i hi).1)
    clear hbs1 hn1 how1 hbs hn how
    go_wp2_with (at_builtin; refine wpList_append_E elemB rfl (.tmp 34) (.tmp 35) rfl w.heap.size u3 n1 (Lib.byteCells bs1) rfl HO.out (some ⟨wn.heap.size, 0, none⟩) 1 1 [.int .u8 59] rfl rfl (.inr ⟨_, rfl, fun i u hu => by
     cases i with
     | zero => simp at hu; subst hu; simp [go_sem]
     | succ i => simp at hu⟩) (by intro u hu; simp at hu; subst hu; rfl) (by omega) (by omega) hsza ?_; intro v' w' o1 g1 t1)
    go_roundw
    case rel => exact ⟨j + 1, n1 + 1, bs1 ++ [59], by omega, by go_num, HBS.out, HN.out, by omega, by rw [← HCE.out]; exact o1, HXa.out.grownV g1 HBL.out⟩
    case measure => simp [intOf]; omega
   have hkl : k < r.length := by rw [← HLR.out]; exact hlt2
   rcases HRR.out with h | ⟨br, or', rfl, hrr⟩
   ·exfalso; subst h; simp at hkl
   obtain ⟨c0, c1, c2⟩ := acAt (hrr wn hxn.out) k hkl
   have HINA := Hd (show r[k] ∈ r from List.getElem_mem _)
   have HTK := Hd (List.take_succ_eq_append_getElem hkl)
   have hoka := HOKR.out _ HINA.out
   have HAL := Hd (actK_len (r[k]) hoka)
   obtain ⟨un, hun⟩ : ∃ un : Nat, (r[k]).n = un := ⟨(r[k]).n.toNat, by have := hoka.2.2; omega⟩
   have hunb : un < 18446744073709551616 := by have := hoka.2.2; omega
   have hfb : -128 ≤ (r[k]).f ∧ (r[k]).f ≤ 127 := hoka.2.1
   rw [hun] at c2
   have HAK := Hd (show actK (r[k]) = [32] ++ Lib.itoa (r[k]).f ++ [61] ++ Lib.decDigits un from by unfold actK; rw [hun, Int.toNat_natCast]; simp)
   clear hoka hun
   generalize r[k] = a at *
   generalize ha : a.d = ad at *
   generalize hf : a.f = af at *
   clear ha hf
   have HFL := Hd (itoa_small af hfb.1 hfb.2)
   have HDL := Hd (dec_len un hunb)
   have HAKL := Hd (show (actK a).length = 1 + (Lib.itoa af).length + 1 + (Lib.decDigits un).length from by rw [HAK.out]; simp only [List.length_append, List.length_cons, List.length_nil])
   obtain ⟨wS, hS⟩ : ∃ W : World, wn.alloc (.cells #[.int .i8 ad, .int .i8 af, .int .u64 un] 81) = W := ⟨_, rfl⟩
   have xS : Ext wn wS := hS ▸ Ext.alloc _ _
   have e1 : wS.cell? ⟨wn.heap.size, 1, none⟩ = some (.int .i8 af) := by rw [← hS]; simp [go_sem]
   have e2 : wS.cell? ⟨wn.heap.size, 2, none⟩ = some (.int .u64 un) := by rw [← hS]; simp [go_sem]
   have eh : wS.heap[wn.heap.size]? = some (.cells #[.int .i8 ad, .int .i8 af, .int .u64 un] 81 (0, 0)) := by rw [← hS]; exact heap_alloc_new wn _
   have HEQ := Hd hS
   have HXS := Hd (hxn.out.trans xS)
   have HOW := Hd (owns_ext how1.out xS)
   have HLT := Hd (fun i (hi : u3.ownBlock = some i) => owns_lt how1.out i hi)
   have HSS := Hd (fun (W : World) (hW : W.heap[wn.heap.size]? = some (.cells #[.int .i8 ad, .int .i8 af, .int .u64 un] 81 (0, 0))) => show (fun W => W.cell? ⟨wn.heap.size, 1, none⟩ = some (.int .i8 af) ∧ W.cell? ⟨wn.heap.size, 2, none⟩ = some (.int .u64 un)) W from
    ⟨by rw [World.cell?_of_block (a := ⟨wn.heap.size, 1, none⟩) (w := wS) (by rw [hW, eh])]; exact e1, by rw [World.cell?_of_block (a := ⟨wn.heap.size, 2, none⟩) (w := wS) (by rw [hW, eh])]; exact e2⟩)
   have HEH := Hd eh
   have hszS : w.heap.size ≤ wS.heap.size := HXS.out.size
   have HNK := Hd (show n1 + 1 + (Lib.itoa af).length + 1 + (Lib.decDigits un).length ≤ j * 500000 + (k + 1) * 43 from by have h1 := HAL.out; rw [HAKL.out] at h1; omega)
   clear hS hrr how1 hxn e1 e2 eh xS hbs hn how
   go_upto_region 8 with (first | (refine wpList_store_new rfl 81 _ _ rfl _ #[.int .i8 ad, .int .i8 af, .int .u64 un] rfl rfl (by kernel_rfl) rfl (by rfl) ?_))
   rw [HEQ.out]
   try simp only [Act.put]
   clear c0 c1 c2 HEQ
   have hszwS : w.heap.size ≤ wS.heap.size := hszS
   have HXwS := HXS
   have hwr : IntKind.i64.wrap af = af := by rw [IntKind.wrap_i64]; omega
   have hne0 : ¬ u3.ownBlock = some wn.heap.size := fun e => by have := (HLT.out _ e).2; omega
   obtain ⟨z8, hz8⟩ : ∃ Z : World, wS.drew = Z := ⟨_, rfl⟩
   have xz8 : Ext wS z8 := hz8 ▸ Ext.drew _
   have ez8 : z8.heap[wn.heap.size]? = some (.cells #[.int .i8 ad, .int .i8 af, .int .u64 un] 81 (0, 0)) := by rw [Below.block xz8 _ (Array.getElem?_eq_some_iff.1 HEH.out).1]; exact HEH.out
   obtain ⟨y8, hy8⟩ : ∃ Y : World, z8.alloc (.cells #[.int .u8 32] 5) = Y := ⟨_, rfl⟩
   have xy8 : Ext z8 y8 := hy8 ▸ Ext.alloc _ _
   have ey8 : y8.heap[wn.heap.size]? = some (.cells #[.int .i8 ad, .int .i8 af, .int .u64 un] 81 (0, 0)) := by rw [Below.block xy8 _ (Array.getElem?_eq_some_iff.1 ez8).1]; exact ez8
   have oy8 := owns_ext (owns_ext HOW.out xz8) xy8
   have cy8 : y8.cell? ⟨z8.heap.size, 0, none⟩ = some (.int .u8 32) := by rw [← hy8]; simp [go_sem]
   have XY8 := Hd (xz8.trans xy8)
   have szy8 : w.heap.size ≤ y8.heap.size := Nat.le_trans hszwS XY8.out.size
   refine wp_region_noPanic ?_
   refine wp_region_held_drew (S := (fun W => W.cell? ⟨wn.heap.size, 1, none⟩ = some (.int .i8 af) ∧ W.cell? ⟨wn.heap.size, 2, none⟩ = some (.int .u64 un))) (by kernel_rfl) (HSS.out _ (by rw [hz8]; exact ez8)) (fun hHeld => ?_)
   rw [hz8] at hHeld ⊢
   refine tk 0 u3 ?_
   try simp only [tkN]
   refine tk 3 (.pointer (some ⟨wn.heap.size, 1, none⟩)) ?_
   try simp only [tkN]
   refine tk 4 (.int .i8 af) ?_
   try simp only [tkN]
   refine tk 5 (.int .i64 af) ?_
   try simp only [tkN]
   refine tk1 1 rfl (AllReadyH.cons rfl (fun K hK => ?_) AllReadyH.nil)
   go_simp
   try rw [hy8]
   refine hK.out _ _ (HSS.out _ ey8) (fun hHeld1 => ?_)
   clear hK K
   try simp only [tkN]
   refine tk1 2 rfl (AllReadyH.cons rfl (fun K hK => ?_) AllReadyH.nil)
   refine step_append_E elemB rfl (.tmp 20) (.tmp 21) rfl w.heap.size u3 (n1) (Lib.byteCells bs1) (by rfl) oy8 (some ⟨z8.heap.size, 0, none⟩) 1 1 [.int .u8 32] (by rfl) rfl (.inr ⟨_, rfl, fun i u hu => by
    cases i with
    | zero => simp at hu; subst hu; rw [Addr.add_mid]; exact cy8
    | succ i => simp at hu⟩) (by intro u hu; simp at hu; subst hu; rfl) (by omega) (by omega) szy8 ?_
   intro v8 q8 oq8 gq8 tq8
   have eq8 : q8.heap[wn.heap.size]? = some (.cells #[.int .i8 ad, .int .i8 af, .int .u64 un] 81 (0, 0)) := by
    rw [gq8.block _ (Array.getElem?_eq_some_iff.1 ey8).1 (fun e => hne0 e.symm)]; exact ey8
   have xq8 : Ext w q8 := (HXwS.out.trans XY8.out).grownV gq8 (fun i hi => (owns_lt oy8 i hi).1)
   have szq8 : w.heap.size ≤ q8.heap.size := xq8.size
   refine hK.out _ _ (HSS.out _ eq8) (fun hHeld2 => ?_)
   clear hK K
   try simp only [tkN]
   refine tk1 6 rfl (AllReadyH.cons rfl (fun K hK => ?_) AllReadyH.nil)
   go_simp
   go_at_call 131
   refine (appInt_any w.heap.size (n1 + 1) af (by omega) (by omega) v8 _ q8 oq8 szq8 (by omega) (HTB.out.on xq8)).mono ?_
   rintro e p8 ⟨a8, rfl, op8, bp8, kp8⟩
   have ep8 : p8.heap[wn.heap.size]? = some (.cells #[.int .i8 ad, .int .i8 af, .int .u64 un] 81 (0, 0)) := kp8 _ _ eq8 (by simp) (fun c fz e => by injection e with _ e2; exact absurd e2 (by decide))
   refine hK.out _ _ (HSS.out _ ep8) (fun hHeld3 => ?_)
   clear hK K
   try simp only [tkN]
   refine tk 7 a8 ?_
   try simp only [tkN]
   refine wpAnyH_done (by kernel_rfl) ?_ _
   refine NoPanic.normal ?_
   have HEp := Hd ep8
   have HOp := Hd op8
   have HXp8 := Hd (show Ext w p8 from xq8.trans' bp8)
   have hszp8 : w.heap.size ≤ p8.heap.size := HXp8.out.size
   have hne8 : ¬ a8.ownBlock = some wn.heap.size := fun e => by
    have h1 := HOp.out
    rcases h1.2 with ⟨rfl, -⟩ | ⟨g, cap, cur, rfl, -, hg, -⟩
    ·cases e
    ·have e2 : g = wn.heap.size := by injection e
     have h2 := HEp.out
     rw [← e2, hg] at h2
     injection h2 with h2
     injection h2 with _ hg2
     exact absurd hg2 (by decide)
   have hfl := HFL.out
   have hdl := HDL.out
   have hnk := HNK.out
   clear hHeld hHeld1 hHeld2 hHeld3 ep8 op8 bp8 kp8 eq8 xq8 szq8 gq8 tq8 oq8 hy8 cy8 oy8 ey8 ez8 xy8 xz8 hz8 hwr
   go_upto_region 9 with fail
   obtain ⟨z9, hz9⟩ : ∃ Z : World, p8.drew = Z := ⟨_, rfl⟩
   have xz9 : Ext p8 z9 := hz9 ▸ Ext.drew _
   have ez9 : z9.heap[wn.heap.size]? = some (.cells #[.int .i8 ad, .int .i8 af, .int .u64 un] 81 (0, 0)) := by rw [Below.block xz9 _ (Array.getElem?_eq_some_iff.1 HEp.out).1]; exact HEp.out
   obtain ⟨y9, hy9⟩ : ∃ Y : World, z9.alloc (.cells #[.int .u8 61] 5) = Y := ⟨_, rfl⟩
   have xy9 : Ext z9 y9 := hy9 ▸ Ext.alloc _ _
   have ey9 : y9.heap[wn.heap.size]? = some (.cells #[.int .i8 ad, .int .i8 af, .int .u64 un] 81 (0, 0)) := by rw [Below.block xy9 _ (Array.getElem?_eq_some_iff.1 ez9).1]; exact ez9
   have oy9 := owns_ext (owns_ext HOp.out xz9) xy9
   have cy9 : y9.cell? ⟨z9.heap.size, 0, none⟩ = some (.int .u8 61) := by rw [← hy9]; simp [go_sem]
   have XY9 := Hd (xz9.trans xy9)
   have szy9 : w.heap.size ≤ y9.heap.size := Nat.le_trans hszp8 XY9.out.size
   refine wp_region_noPanic ?_
   refine wp_region_held_drew (S := (fun W => W.cell? ⟨wn.heap.size, 1, none⟩ = some (.int .i8 af) ∧ W.cell? ⟨wn.heap.size, 2, none⟩ = some (.int .u64 un))) (by kernel_rfl) (HSS.out _ (by rw [hz9]; exact ez9)) (fun hHeld => ?_)
   rw [hz9] at hHeld ⊢
   refine tk 0 a8 ?_
   try simp only [tkN]
   refine tk 3 (.pointer (some ⟨wn.heap.size, 2, none⟩)) ?_
   try simp only [tkN]
   refine tk 4 (.int .u64 un) ?_
   try simp only [tkN]
   refine tk1 1 rfl (AllReadyH.cons rfl (fun K hK => ?_) AllReadyH.nil)
   go_simp
   try rw [hy9]
   refine hK.out _ _ (HSS.out _ ey9) (fun hHeld1 => ?_)
   clear hK K
   try simp only [tkN]
   refine tk1 2 rfl (AllReadyH.cons rfl (fun K hK => ?_) AllReadyH.nil)
   refine step_append_E elemB rfl (.tmp 27) (.tmp 28) rfl w.heap.size a8 (n1 + 1 + (Lib.itoa af).length) (Lib.byteCells bs1 ++ [.int .u8 32] ++ Lib.byteCells (Lib.itoa af)) (by rfl) oy9 (some ⟨z9.heap.size, 0, none⟩) 1 1 [.int .u8 61] (by rfl) rfl (.inr ⟨_, rfl, fun i u hu => by
    cases i with
    | zero => simp at hu; subst hu; rw [Addr.add_mid]; exact cy9
    | succ i => simp at hu⟩) (by intro u hu; simp at hu; subst hu; rfl) (by omega) (by omega) szy9 ?_
   intro v9 q9 oq9 gq9 tq9
   have eq9 : q9.heap[wn.heap.size]? = some (.cells #[.int .i8 ad, .int .i8 af, .int .u64 un] 81 (0, 0)) := by
    rw [gq9.block _ (Array.getElem?_eq_some_iff.1 ey9).1 (fun e => hne8 e.symm)]; exact ey9
   have xq9 : Ext w q9 := (HXp8.out.trans XY9.out).grownV gq9 (fun i hi => (owns_lt oy9 i hi).1)
   have szq9 : w.heap.size ≤ q9.heap.size := xq9.size
   refine hK.out _ _ (HSS.out _ eq9) (fun hHeld2 => ?_)
   clear hK K
   try simp only [tkN]
   refine tk1 5 rfl (AllReadyH.cons rfl (fun K hK => ?_) AllReadyH.nil)
   go_simp
   go_at_call 132
   refine (appUint_any w.heap.size (n1 + 1 + (Lib.itoa af).length + 1) un hunb v9 _ q9 oq9 szq9 (by omega) (HTB.out.on xq9).here).mono ?_
   rintro e p9 ⟨a9, rfl, op9, bp9, kp9⟩
   have ep9 : p9.heap[wn.heap.size]? = some (.cells #[.int .i8 ad, .int .i8 af, .int .u64 un] 81 (0, 0)) := kp9 _ _ eq9 (by simp) (fun c fz e => by injection e with _ e2; exact absurd e2 (by decide))
   refine hK.out _ _ (HSS.out _ ep9) (fun hHeld3 => ?_)
   clear hK K
   try simp only [tkN]
   refine tk 6 a9 ?_
   try simp only [tkN]
   refine wpAnyH_done (by kernel_rfl) ?_ _
   refine NoPanic.normal ?_
   have HXp9 := Hd (show Ext w p9 from xq9.trans' bp9)
   have HBS := Hd (show (bs1 ++ actK a) = keyK (l.take j) ++ (r.take (k + 1)).flatMap actK from by
    rw [hbs1.out, HTK.out]; simp)
   have HN := Hd (show n1 + 1 + (Lib.itoa af).length + 1 + (Lib.decDigits un).length = (bs1 ++ actK a).length from by
    rw [List.length_append, HAKL.out, ← hn1.out]; omega)
   have HO9 := Hd (show p9.ownsRow w.heap.size 5 1 a9 (n1 + 1 + (Lib.itoa af).length + 1 + (Lib.decDigits un).length) (Lib.byteCells (bs1 ++ actK a)) from by
    have e : Lib.byteCells (bs1 ++ actK a) = Lib.byteCells bs1 ++ [.int .u8 32] ++ Lib.byteCells (Lib.itoa af) ++ [.int .u8 61] ++ Lib.byteCells (Lib.decDigits un) := by
     rw [HAK.out]; simp [Lib.byteCells]
    rw [e]
    have := op9
    rw [Lib.byteCells_length] at this
    exact this)
   clear hHeld hHeld1 hHeld2 hHeld3 ep9 op9 bp9 kp9 eq9 xq9 szq9 gq9 tq9 oq9 hy9 cy9 oy9 ey9 ez9 xy9 xz9 hz9
   go_wp2_with fail
   go_roundw
   case rel => exact ⟨k + 1, n1 + 1 + (Lib.itoa af).length + 1 + (Lib.decDigits un).length, bs1 ++ actK a, by omega, by go_num, HBS.out, HN.out, hnk, HO9.out, HXp9.out⟩
   case measure => simp [intOf]; omega
end Go.Proofs.YtjjbdbklbghlhaaGreatDoor
/- The rows of law 20: what their premises on the tables give; a start that meets them. -/
namespace Go.Proofs.YtjjbdbklbghlhaaGreatDoor
open Go.ChangeShapes Go.WideShapes Go.ChangeAt Go.RowKit Go.Lib
set_option linter.unusedSimpArgs false

abbrev laid20 : List (String × DataW Unit) := [("math/bits.deBruijn32tab", Rows.laid_math_bits_deBruijn32tab), ("math/bits.deBruijn64tab", Rows.laid_math_bits_deBruijn64tab), ("internal/strconv.uint64pow10", Rows.laid_internal_strconv_uint64pow10)]
theorem pow_data : (Rows.laid_internal_strconv_uint64pow10 : DataW Unit) = tabData .u64 Lib.pow10Tab := by kernel_rfl
theorem gPow : (Tryz.prog.globalNamed "internal/strconv.uint64pow10").isSome = true := by kernel_rfl
theorem tb_of_laid {W : World} (h : laidMet Tryz.prog laid20 W) : Tb W := by
 obtain ⟨ps, ⟨_, _, _, _, _, _, _, _, _, _, ⟨_, _, _, _, _, _, _, _, _, _, ⟨g', t', cs, fuel, p, q, hg', ht', hvar, hd, _, _⟩, _⟩, _⟩, _⟩ := h
 obtain ⟨g, hg⟩ := Option.isSome_iff_exists.1 gPow
 have hgg : (Tryz.prog.globalNamed "internal/strconv.uint64pow10").bind (fun g => (Tryz.prog.globals[g]?).map (·.type)) = some 230 := by kernel_rfl
 rw [hg'] at hgg
 obtain rfl := Option.some.inj (ht'.symm.trans hgg)
 rw [pow_data] at hd
 unfold Tb TabIs
 rw [hvar, ← cells_of_tab Tryz.underlying230 Tryz.underlying23 (by kernel_rfl) (by kernel_rfl) hd]

def intsOf {H : Type} : DataW H → Array Value
 | .agg l => (l.map fun d => match d with | .lit (.int k n) => Value.int k n | _ => Value.int .i64 0).toArray
 | _ => #[]
noncomputable def laidWorld (os : Os) : World :=
 let w0 := World.holding Tryz.prog os ⟨#[], #[], []⟩
 let put (h : Array Obj) (name : String) (cs : Array Value) : Array Obj := h.modify ((Tryz.prog.globalNamed name).getD 0) fun
  | .cells _ t frozen => .cells cs t frozen
  | o => o
 { w0 with heap := put (put (put w0.heap "math/bits.deBruijn32tab" (intsOf (H := Unit) Rows.laid_math_bits_deBruijn32tab)) "math/bits.deBruijn64tab" (intsOf (H := Unit) Rows.laid_math_bits_deBruijn64tab)) "internal/strconv.uint64pow10" (intsOf (H := Unit) Rows.laid_internal_strconv_uint64pow10) }
set_option maxRecDepth 1000000 in
theorem laid_met (os : Os) (args : Array Value) : laidMet Tryz.prog laid20 ((laidWorld os).forCall (fun _ _ => 0) ⟨#[], args, []⟩).memory :=
 laidMet_of_run' 8 (by kernel_rfl) (by kernel_rfl)
end Go.Proofs.YtjjbdbklbghlhaaGreatDoor
/- The arguments of law 20 with their bounds; acts. -/
namespace Go.Proofs.YtjjbdbklbghlhaaGreatDoor
open Go.ChangeShapes Go.WideShapes Go.ChangeAt Go.RowKit Go.Deep
set_option linter.unusedSimpArgs false

abbrev maxB : Nat := 140737488351232
structure ActD where
 d : Int
 rows : List RowD
 f : Int
 n : Int
 hi : Int
 lo : Int
def ActD.cs (x : ActD) (rv : Value) : List Value := [.int .i64 x.d, rv, .int .i8 x.f, .int .u64 x.n, .int .i64 x.hi, .int .i64 x.lo]
def RowsB (l : List RowD) : Prop := l.length ≤ maxB ∧ ∀ r ∈ l, r.length ≤ maxB
def ActD.ok (x : ActD) : Prop := (-9223372036854775808 ≤ x.d ∧ x.d ≤ 9223372036854775807) ∧ (-128 ≤ x.f ∧ x.f ≤ 127) ∧ (0 ≤ x.n ∧ x.n ≤ 18446744073709551615) ∧ (-9223372036854775808 ≤ x.hi ∧ x.hi ≤ 9223372036854775807) ∧ (-9223372036854775808 ≤ x.lo ∧ x.lo ≤ 9223372036854775807) ∧ RowsB x.rows
section
variable {H : Type} {enc : TypeId × Value → H} {w : World} {spare : Nat → Bool} {held : Bool}
end

section
variable {H : Type} {enc : TypeId × Value → H} {base : Nat}
end
end Go.Proofs.YtjjbdbklbghlhaaGreatDoor
/- Maps in the model's own words: a block that is a map holds entries; look-up, store, range. -/
namespace Go.Proofs.YtjjbdbklbghlhaaGreatDoor
open Go.RowKit Go.Maps
set_option linter.unusedSimpArgs false

/-- block b of w is a map with these entries -/
def MapRaw (w : World) (b : Nat) (m : List (Value × Value)) : Prop :=
 ∃ es clock, w.heap[b]? = some (.map es clock) ∧ es.toList.map (fun e => (e.key, e.val)) = m ∧ (∀ e ∈ es.toList, e.born < clock) ∧ (es.toList.map (·.born)).Nodup

theorem MapRaw.lt {w : World} {b : Nat} {m : List (Value × Value)} (h : MapRaw w b m) : b < w.heap.size := by
 obtain ⟨es, clock, hb, _⟩ := h
 exact (Array.getElem?_eq_some_iff.1 hb).1
theorem MapRaw.kept {w w' : World} {b : Nat} {m : List (Value × Value)} (h : MapRaw w b m) (hk : w'.heap[b]? = w.heap[b]?) : MapRaw w' b m := by
 obtain ⟨es, clock, hb, r⟩ := h
 exact ⟨es, clock, hk.trans hb, r⟩
theorem MapRaw.ext {w w' : World} {b : Nat} {m : List (Value × Value)} (h : MapRaw w b m) (hx : Ext w w') : MapRaw w' b m := h.kept (Below.block hx b h.lt)
theorem MapRaw.made (w : World) : MapRaw (w.alloc (.map #[] 0)) w.heap.size [] := ⟨#[], 0, heap_alloc_new w _, rfl, by simp, by simp⟩

/-- encoded keys and values -/
structure Coded (P : Program) (k : TypeId) {κ : Type} (kv : κ → Value) : Prop where
 keyed : Keyed P k
 key : ∀ x : κ, ∃ l, keyOf P k (kv x) = some l
 inj : ∀ {x y : κ}, kv x = kv y → x = y

/-- block b of w is a map that holds l -/
def MapOf (w : World) {κ α : Type} (kv : κ → Value) (vv : α → Value) (b : Nat) (l : List (κ × α)) : Prop := MapRaw w b (l.map fun p => (kv p.1, vv p.2))

section
variable {P : Program} {k : TypeId} {κ α : Type} [DecidableEq κ] {kv : κ → Value} {vv : α → Value}

def look (x : κ) : List (κ × α) → Option α
 | [] => none
 | p :: r => if p.1 = x then some p.2 else look x r
def store (x : κ) (a : α) : List (κ × α) → List (κ × α)
 | [] => [(x, a)]
 | p :: r => if p.1 = x then (x, a) :: r else p :: store x a r

theorem look_none {x : κ} : ∀ {l : List (κ × α)}, (∀ p ∈ l, p.1 ≠ x) → look x l = none
 | [], _ => rfl
 | p :: r, h => by
  have h1 := look_none (x := x) (l := r) (fun q hq => h q (List.mem_cons_of_mem _ hq))
  simp [look, h p (by simp), h1]
theorem store_new {x : κ} {a : α} : ∀ {l : List (κ × α)}, (∀ p ∈ l, p.1 ≠ x) → store x a l = l ++ [(x, a)]
 | [], _ => rfl
 | p :: r, h => by
  have h1 := store_new (x := x) (a := a) (l := r) (fun q hq => h q (List.mem_cons_of_mem _ hq))
  simp [store, h p (by simp), h1]
theorem look_at {x : κ} {a : α} : ∀ {l : List (κ × α)} (j : Nat), (l.map (·.1)).Nodup → l[j]? = some (x, a) → look x l = some a
 | p :: r, 0, _, h => by simp at h; subst h; simp [look]
 | p :: r, j + 1, hn, h => by
  simp at h hn
  have hm : (x, a) ∈ r := List.mem_of_getElem? h
  have hne : p.1 ≠ x := fun e => (hn.1 a (by rw [e]; exact hm)).elim
  simp only [look, hne, if_false]
  exact look_at j hn.2 h
theorem store_at {x : κ} {a b : α} : ∀ {l : List (κ × α)} (j : Nat), (l.map (·.1)).Nodup → l[j]? = some (x, b) → store x a l = l.modify j fun _ => (x, a)
 | p :: r, 0, _, h => by simp at h; subst h; simp [store]
 | p :: r, j + 1, hn, h => by
  simp at h hn
  have hm : (x, b) ∈ r := List.mem_of_getElem? h
  have hne : p.1 ≠ x := fun e => (hn.1 b (by rw [e]; exact hm)).elim
  simp only [store, hne, if_false, List.modify_succ_cons]
  rw [store_at j hn.2 h]

omit [DecidableEq κ] in
/-- the finding, in words of the list -/
theorem Coded.find (K : Coded P k kv) {l : List (κ × α)} {es : Array MapEntry} (hes : es.toList.map (fun e => (e.key, e.val)) = l.map fun p => (kv p.1, vv p.2)) (x : κ) (w : World) :
  ((Instr.findKey k (kv x) es.toList).run P w = .ok none w ∧ ∀ p ∈ l, p.1 ≠ x) ∨
  ∃ j a, (Instr.findKey k (kv x) es.toList).run P w = .ok (some (j, vv a)) w ∧ l[j]? = some (x, a) ∧ ∃ e, es.toList[j]? = some e ∧ e.key = kv x := by
 obtain ⟨lx, hlx⟩ := K.key x
 have hget : ∀ (j : Nat) (e : MapEntry), es.toList[j]? = some e → ∃ p : κ × α, l[j]? = some p ∧ e.key = kv p.1 ∧ e.val = vv p.2 := by
  intro j e he
  have h1 : (es.toList.map (fun e => (e.key, e.val)))[j]? = some (e.key, e.val) := by rw [List.getElem?_map, he]; rfl
  rw [hes, List.getElem?_map] at h1
  cases hl : l[j]? with
  | none => rw [hl] at h1; cases h1
  | some p =>
   rw [hl] at h1
   simp at h1
   exact ⟨p, rfl, h1.1.symm, h1.2.symm⟩
 have hk : ∀ e ∈ es.toList, ∃ l, keyOf P k e.key = some l := by
  intro e he
  obtain ⟨j, hj⟩ := List.getElem?_of_mem he
  obtain ⟨p, _, hp, _⟩ := hget j e hj
  rw [hp]
  exact K.key p.1
 rcases K.keyed.find w hlx es.toList hk with ⟨h1, h2⟩ | ⟨j, e, h1, h2, h3⟩
 ·refine .inl ⟨h1, fun p hp he => ?_⟩
  obtain ⟨j, hj⟩ := List.getElem?_of_mem hp
  have h4 : (l.map fun p => (kv p.1, vv p.2))[j]? = some (kv p.1, vv p.2) := by rw [List.getElem?_map, hj]; rfl
  rw [← hes, List.getElem?_map] at h4
  cases he' : es.toList[j]? with
  | none => rw [he'] at h4; cases h4
  | some e =>
   rw [he'] at h4
   simp at h4
   exact h2 e (List.mem_of_getElem? he') (by rw [h4.1, he])
 ·obtain ⟨p, hp1, hp2, hp3⟩ := hget j e h2
  have hpx : p.1 = x := K.inj (hp2.symm.trans h3)
  refine .inr ⟨j, p.2, ?_, ?_, e, h2, h3⟩
  ·rw [← hp3]; exact h1
  ·rw [hp1, ← hpx]

theorem run_lookup_of (K : Coded P k kv) {t e : TypeId} (ht : P.underlying t = some (.map k e)) {w : World} {b : Nat} {l : List (κ × α)} (hm : MapOf w kv vv b l) (hn : (l.map (·.1)).Nodup) (x : κ) (z : Value) (hz : (zeroValue e).run P w = .ok z w) (c : Bool) :
  (Instr.lookup t (.map (some b)) (kv x) c).run P w = .ok (if c then .tuple #[((look x l).map vv).getD z, .bool (look x l).isSome] else ((look x l).map vv).getD z) w := by
 obtain ⟨es, clock, hb, hes, -, -⟩ := hm
 obtain ⟨lx, hlx⟩ := K.key x
 have hck := K.keyed.check w es.isEmpty hlx
 rcases K.find hes x w with ⟨h1, h2⟩ | ⟨j, a, h1, h2, -⟩
 ·rw [look_none h2]
  simp only [Instr.lookup, Sem.run_bind, run_underlying ht, getObj, Sem.run, hb, Result.andThen, hck, h1, hz, Sem.run_pure]
  rfl
 ·rw [look_at j hn h2]
  simp only [Instr.lookup, Sem.run_bind, run_underlying ht, getObj, Sem.run, hb, Result.andThen, hck, h1, Sem.run_pure]
  rfl


theorem store_keys {x : κ} {a : α} : ∀ {l : List (κ × α)}, (l.map (·.1)).Nodup → ((store x a l).map (·.1)).Nodup
 | [], _ => by simp [store]
 | p :: r, h => by
  simp only [store]
  simp at h
  split
  ·rename_i e
   subst e
   simpa using h
  ·rename_i e
   have ih := store_keys (x := x) (a := a) (l := r) (by simpa using h.2)
   simp only [List.map_cons, List.nodup_cons]
   refine ⟨fun hm => ?_, ih⟩
   obtain ⟨q, hq, hqp⟩ := List.mem_map.1 hm
   have : q ∈ r ∨ q = (x, a) := by
    clear h ih hm hqp
    induction r with
    | nil => simp [store] at hq; exact .inr hq
    | cons y r ih =>
     simp only [store] at hq
     split at hq
     ·rcases List.mem_cons.1 hq with hq | hq
      ·exact .inr hq
      ·exact .inl (List.mem_cons_of_mem _ hq)
     ·rcases List.mem_cons.1 hq with hq | hq
      ·exact .inl (by rw [hq]; exact List.mem_cons_self)
      ·exact (ih hq).imp (List.mem_cons_of_mem _) id
   rcases this with hr | rfl
   ·exact h.1 q.2 (by rw [← hqp]; exact hr)
   ·exact e hqp.symm

/-- behind a store: only that block has changed -/
theorem run_update_of (K : Coded P k kv) {t e : TypeId} (ht : P.underlying t = some (.map k e)) {w : World} {b : Nat} {l : List (κ × α)} (hm : MapOf w kv vv b l) (hn : (l.map (·.1)).Nodup) (x : κ) (a : α) :
  ∃ w', (Instr.mapUpdate t (.map (some b)) (kv x) (vv a)).run P w = .ok () w' ∧ MapOf w' kv vv b (store x a l) ∧ w.grownBy w' (some b) := by
 obtain ⟨es, clock, hb, hes, hborn, hnd⟩ := hm
 obtain ⟨lx, hlx⟩ := K.key x
 have hck := K.keyed.check w false hlx
 have hset : ∀ o : Obj, (setObj b o).run P w = .ok () (ChangeMaps.setBlock w b o) := fun o => by simp [setObj, Sem.run, hb, ChangeMaps.setBlock]
 have hbl : b < w.heap.size := (Array.getElem?_eq_some_iff.1 hb).1
 have hat : ∀ o : Obj, (ChangeMaps.setBlock w b o).heap[b]? = some o := fun o => by simp [ChangeMaps.setBlock, hbl]
 have hgrow : ∀ o : Obj, w.grownBy (ChangeMaps.setBlock w b o) (some b) := fun o => ⟨rfl, rfl, rfl, by simp [ChangeMaps.setBlock], fun i _ hne => by
  have : b ≠ i := fun e => hne (by rw [e])
  simp [ChangeMaps.setBlock, this]⟩
 rcases K.find hes x w with ⟨h1, h2⟩ | ⟨j, a', h1, h2, e', he1, he2⟩
 ·refine ⟨_, by simp only [Instr.mapUpdate, Sem.run_bind, run_underlying ht, getObj, Sem.run, hb, Result.andThen, hck, h1]; exact hset _, ?_, hgrow _⟩
  refine ⟨_, _, hat _, ?_, ?_, ?_⟩
  ·rw [store_new h2]
   simp [hes]
  ·intro e he
   simp at he
   rcases he with he | rfl
   ·have := hborn e (by simpa using he); omega
   ·show clock < clock + 1; omega
  ·simp only [Array.toList_push, List.map_append, List.map_cons, List.map_nil]
   refine List.nodup_append.2 ⟨hnd, by simp, fun y hy z hz hyz => ?_⟩
   simp at hz
   subst hz
   obtain ⟨e, he, rfl⟩ := List.mem_map.1 hy
   have := hborn e he
   omega
 ·have hst : (Instr.keyThatStays (kv x) (kv x)).run P w = .ok (kv x) w := K.keyed.stays w hlx
  have hkey : ((es[j]?).map (·.key)).getD (kv x) = kv x := by
   rw [show es[j]? = es.toList[j]? from by simp, he1]
   exact he2
  refine ⟨_, by simp only [Instr.mapUpdate, Sem.run_bind, run_underlying ht, getObj, Sem.run, hb, Result.andThen, hck, h1, hkey, hst]; exact hset _, ?_, hgrow _⟩
  have hmod : (es.modify j fun e => { e with key := kv x, val := vv a }).toList = es.toList.modify j fun e => { e with key := kv x, val := vv a } := by simp
  have hb2 : (es.toList.modify j fun e => { e with key := kv x, val := vv a }).map (·.born) = es.toList.map (·.born) := by
   apply List.ext_getElem?
   intro i
   simp only [List.getElem?_map, List.getElem?_modify]
   split <;> cases es.toList[i]? <;> rfl
  refine ⟨_, _, hat _, ?_, ?_, ?_⟩
  ·rw [hmod, store_at j hn h2]
   apply List.ext_getElem?
   intro i
   have hi : (es.toList.map (fun e => (e.key, e.val)))[i]? = (l.map fun p => (kv p.1, vv p.2))[i]? := by rw [hes]
   simp only [List.getElem?_map, List.getElem?_modify] at hi ⊢
   by_cases hij : j = i
   ·subst hij
    simp only [if_true]
    rw [h2, he1]
    rfl
   ·simp only [hij, if_false]
    cases h5 : es.toList[i]? <;> cases h6 : l[i]? <;> simp [h5, h6] at hi ⊢
    exact hi
  ·rw [hmod]
   intro e he
   have : e.born ∈ (es.toList.modify j fun e => { e with key := kv x, val := vv a }).map (·.born) := List.mem_map_of_mem he
   rw [hb2] at this
   obtain ⟨e2, he2', hbe⟩ := List.mem_map.1 this
   rw [← hbe]
   exact hborn e2 he2'
  ·rw [hmod, hb2]
   exact hnd

end
section
variable {P : Program} {ops : Array Oper} {rest : List Oper} {o : Oper} {a : Act} {w : World} {Q : Exit → Act → World → Prop}
theorem wpList_lookup_run (hgd : o.guard = none) (t : TypeId) (m x : Operand) (c : Bool) (ho : o.op = .lookup t m x c) (vm vx v : Value) (hm : a.eval m = vm) (hx : a.eval x = vx)
  (hrun : (Instr.lookup t vm vx c).run P w = .ok v w) (h : wpList P ops Q rest (a.put o.dst v) w) : wpList P ops Q (o :: rest) a w :=
 wpList_plain hgd fun _ hK => by
  unfold Oper.wp execOp
  simp only [ho, hm, hx, Sem.run_bind, hrun, Result.andThen_ok]
  exact hK _ _ h
theorem wpList_update_run (hgd : o.guard = none) (t : TypeId) (m x y : Operand) (ho : o.op = .mapUpdate t m x y ∨ o.op = .insert t m x y) (vm vx vy : Value) (w' : World) (hm : a.eval m = vm) (hx : a.eval x = vx) (hy : a.eval y = vy)
  (hrun : (Instr.mapUpdate t vm vx vy).run P w = .ok () w') (h : wpList P ops Q rest (a.put o.dst undef) w') : wpList P ops Q (o :: rest) a w :=
 wpList_plain hgd fun _ hK => by
  unfold Oper.wp execOp
  rcases ho with ho | ho
  ·simp only [ho, hm, hx, hy, Sem.run_bind, hrun, Result.andThen_ok]
   exact hK _ _ h
  ·simp only [ho, hm, hx, hy, Sem.run_bind, hrun, Result.andThen_ok]
   exact hK _ _ h
end
end Go.Proofs.YtjjbdbklbghlhaaGreatDoor
/- m[k]-- and m[k]++: the entry found or made, the store into it. -/
namespace Go.Proofs.YtjjbdbklbghlhaaGreatDoor
open Go.RowKit Go.Maps Go.ChangeMaps
set_option linter.unusedSimpArgs false

section
variable {P : Program} {k : TypeId} {κ α : Type} [DecidableEq κ] {kv : κ → Value} {vv : α → Value}

theorem look_store (x : κ) (a : α) : ∀ (l : List (κ × α)), look x (store x a l) = some a
 | [] => by simp [store, look]
 | p :: r => by
  simp only [store]
  split
  ·simp [look]
  ·rename_i hne; simp only [look, if_neg hne]; exact look_store x a r
theorem look_other {x y : κ} (a : α) (h : y ≠ x) : ∀ (l : List (κ × α)), look y (store x a l) = look y l
 | [] => by simp [store, look, Ne.symm h]
 | p :: r => by
  simp only [store]
  split
  ·rename_i he; simp [look, he, Ne.symm h]
  ·simp only [look, look_other a h r]

end
end Go.Proofs.YtjjbdbklbghlhaaGreatDoor
/- The store's maps: keys of tests, keys of leaves. -/
namespace Go.Proofs.YtjjbdbklbghlhaaGreatDoor
open Go.RowKit Go.Sort Go.Maps Go.Lib Go.WideMaps
set_option linter.unusedSimpArgs false

/-- a test's key -/
structure TkD where
 f : Int
 n : Int
 hi : Int
 lo : Int
 deriving DecidableEq
def TkD.ok (k : TkD) : Prop := (-128 ≤ k.f ∧ k.f ≤ 127) ∧ (0 ≤ k.n ∧ k.n ≤ 18446744073709551615) ∧ (-9223372036854775808 ≤ k.hi ∧ k.hi ≤ 9223372036854775807) ∧ (-9223372036854775808 ≤ k.lo ∧ k.lo ≤ 9223372036854775807)
abbrev Tk := { k : TkD // k.ok }
def kvT (k : Tk) : Value := .agg #[.int .i8 k.1.f, .int .u64 k.1.n, .int .i64 k.1.hi, .int .i64 k.1.lo]
instance decB : DecidableEq ByteArray := fun a b => decidable_of_iff (a.data = b.data) ⟨fun h => ByteArray.ext h, fun h => by rw [h]⟩
abbrev Sk := { s : List UInt8 // s.length ≤ 9223372036854775807 }
def kvS (s : Sk) : Value := .string ⟨s.1.toArray⟩
def vvI (n : Int) : Value := .int .i64 n
theorem typesN : ∃ m, Tryz.prog.types.size = m + 1 := ⟨_, rfl⟩
theorem laidT : laidOutB Tryz.prog = true := by kernel_rfl
theorem keyT (k : Tk) : ∃ l, keyOf Tryz.prog 136 (kvT k) = some l := by
 obtain ⟨⟨f, n, hi, lo⟩, h1, h2, h3, h4⟩ := k
 have hkt : Tryz.prog.keyType 136 = true := by kernel_rfl
 have w1 : (Lit.int .i8 f).wf = true := by simp [Lit.wf, IntKind.min, IntKind.max, IntKind.bits, IntKind.signed]; exact h1
 have w2 : (Lit.int .u64 n).wf = true := by simp [Lit.wf, IntKind.min, IntKind.max, IntKind.bits, IntKind.signed]; exact h2
 have w3 : (Lit.int .i64 hi).wf = true := by simp [Lit.wf, IntKind.min, IntKind.max, IntKind.bits, IntKind.signed]; exact h3
 have w4 : (Lit.int .i64 lo).wf = true := by simp [Lit.wf, IntKind.min, IntKind.max, IntKind.bits, IntKind.signed]; exact h4
 have hf : (kvT ⟨⟨f, n, hi, lo⟩, h1, h2, h3, h4⟩).formed Tryz.prog 136 = true := by
  unfold kvT
  kernel_rfl
 obtain ⟨m, hm⟩ := typesN
 unfold keyOf
 simp only [Tryz.underlying136]
 rw [if_pos (by rw [hkt, hf]; rfl), hm]
 have q : ∀ (t : TypeId) (k : IntKind) (x : Int), Tryz.prog.underlying t = some (.int k) → (Lit.int k x).wf = true → Tryz.prog.keyLits (m + 1) t [.int k x] = some [.int k x] := fun t k x ht hw => by
  unfold Program.keyLits
  simp [ht, hw]
 unfold Program.keyLits
 simp only [Tryz.underlying136, kvT, Value.cells]
 rw [if_pos ⟨by kernel_rfl, by kernel_rfl⟩]
 have z8 : Tryz.prog.cellsOf 22 = 1 := by kernel_rfl
 have z64 : Tryz.prog.cellsOf 23 = 1 := by kernel_rfl
 have zi : Tryz.prog.cellsOf 3 = 1 := by kernel_rfl
 simp [List.mapM_cons, z8, z64, zi, q _ _ _ Tryz.underlying22 w1, q _ _ _ Tryz.underlying23 w2, q _ _ _ Tryz.underlying3 w3, q _ _ _ Tryz.underlying3 w4]
theorem codedT : Coded Tryz.prog 136 kvT where
 keyed := Keyed.of_law (deep_law_laid laidT (m := 2) (by omega) (of_decide_eq_true (by kernel_rfl)) (by kernel_rfl) (by kernel_rfl))
 key := keyT
 inj := fun {x y} h => by
  obtain ⟨⟨f, n, hi, lo⟩, hx⟩ := x
  obtain ⟨⟨f', n', hi', lo'⟩, hy⟩ := y
  simp [kvT] at h
  obtain ⟨rfl, rfl, rfl, rfl⟩ := h
  rfl
theorem codedS : Coded Tryz.prog 9 kvS where
 keyed := string_keyed Tryz.underlying9
 key := fun x => ⟨_, keyOf_string_mk Tryz.underlying9 (by have := x.2; simpa [maxLen, ByteArray.size] using this)⟩
 inj := fun {x y} h => by
  obtain ⟨x, hx⟩ := x
  obtain ⟨y, hy⟩ := y
  simp [kvS] at h
  subst h; rfl
theorem zeroIv (w : World) : (zeroValue 3).run Tryz.prog w = .ok (vvI 0) w := by kernel_rfl
end Go.Proofs.YtjjbdbklbghlhaaGreatDoor
/- The store in memory; New, Len. -/
namespace Go.Proofs.YtjjbdbklbghlhaaGreatDoor
open Go.RowKit Go.Sort Go.Maps Go.Lib
set_option linter.unusedSimpArgs false

def NdD.ok (x : NdD) : Prop := (-128 ≤ x.f ∧ x.f ≤ 127) ∧ (0 ≤ x.n ∧ x.n ≤ 18446744073709551615) ∧ (-9223372036854775808 ≤ x.hi ∧ x.hi ≤ 9223372036854775807) ∧ (-9223372036854775808 ≤ x.lo ∧ x.lo ≤ 9223372036854775807)
/-- the leaf values of the nodes -/
def NodesV (B : Nat → Prop) (w : World) (L : List NdD) (lvs : List Value) : Prop := lvs.length = L.length ∧ ∀ i (h : i < L.length) (h' : i < lvs.length), RowsOn B w (L[i]).leaf (lvs[i])
def flatN (L : List NdD) (lvs : List Value) : List Value := (L.zip lvs).flatMap fun p => p.1.cs p.2
theorem NodesV.keep {B : Nat → Prop} {w w' : World} {L : List NdD} {lvs : List Value} (h : NodesV B w L lvs) (hs : w.heap.size ≤ w'.heap.size) (hk : ∀ b, B b → b < w.heap.size → w'.heap[b]? = w.heap[b]?) : NodesV B w' L lvs := ⟨h.1, fun i a b => (h.2 i a b).keep hs hk⟩
theorem NodesV.mono {B C : Nat → Prop} {w : World} {L : List NdD} {lvs : List Value} (h : NodesV B w L lvs) (hBC : ∀ b, b < w.heap.size → B b → C b) : NodesV C w L lvs := ⟨h.1, fun i a b => (h.2 i a b).mono hBC⟩
theorem NodesV.snoc {B : Nat → Prop} {w : World} {L : List NdD} {lvs : List Value} (h : NodesV B w L lvs) {x : NdD} {v : Value} (hr : RowsOn B w x.leaf v) : NodesV B w (L ++ [x]) (lvs ++ [v]) := by
 refine ⟨by rw [List.length_append, List.length_append, h.1]; rfl, fun i a b => ?_⟩
 by_cases hi : i < L.length
 ·have e2 : (lvs ++ [v])[i] = lvs[i]'(by rw [h.1]; exact hi) := List.getElem_append_left (by rw [h.1]; exact hi)
  have e : (L ++ [x])[i] = L[i] := List.getElem_append_left hi
  rw [e, e2]
  exact h.2 i hi _
 ·have hl : i = L.length := by simp at a; omega
  subst hl
  have e : (L ++ [x])[L.length] = x := by simp
  have e2 : (lvs ++ [v])[L.length] = v := by
   rw [List.getElem_append_right (by rw [h.1]; exact Nat.le_refl _)]
   simp
  rw [e, e2]
  exact hr
theorem flatN_snoc {L : List NdD} {lvs : List Value} (h : lvs.length = L.length) (x : NdD) (v : Value) : flatN (L ++ [x]) (lvs ++ [v]) = flatN L lvs ++ x.cs v := by
 unfold flatN
 rw [List.zip_append h.symm]
 simp
/-- the cells of one node -/
theorem nodeCells {w : World} {g : Nat} {L : List NdD} {lvs : List Value} (hl : lvs.length = L.length) (hr : w.rangeAt g 0 (flatN L lvs)) (i : Nat) (hi : i < L.length) :
  w.rangeAt g (i * 5) ((L[i]).cs (lvs[i]'(by omega))) := by
 have h1 : i < (L.zip lvs).length := by rw [List.length_zip]; omega
 have := rangeAt_get (k := 5) (enc := fun p : NdD × Value => p.1.cs p.2) (fun p => rfl) (l := L.zip lvs) hr i h1
 rw [Nat.zero_add, List.getElem_zip] at this
 exact this

/-- what may stand in a store -/
def InvL (L : List NdD) : Prop := L.Nodup ∧ L.length ≤ 65536 ∧ ∀ x ∈ L, x.ok ∧ ((∃ l, x = ⟨-1, 0, 0, 0, x.leaf⟩ ∧ rowsP l = some x.leaf ∧ x.leaf.length ≤ 64) ∨ (0 ≤ x.f ∧ x.leaf = []))
theorem InvL.nil : InvL [] := ⟨List.Pairwise.nil, by simp, fun x h => by cases h⟩

structure StM (F : Nat → Prop) (w : World) (p : Nat) (L : List NdD) (lv : Value) (mt ml : Nat) (lvs : List Value) (T : List (Tk × Int)) (S : List (Sk × Int)) : Prop where
 own : w.ownsRow 0 42 5 lv L.length (flatN L lvs)
 c0 : w.cell? ⟨p, 0, none⟩ = some lv
 c1 : w.cell? ⟨p, 1, none⟩ = some (.map (some mt))
 c2 : w.cell? ⟨p, 2, none⟩ = some (.map (some ml))
 fz : w.frozen? ⟨p, 0, none⟩ = false
 leafs : NodesV (fun b => F b ∧ b ≠ p ∧ b ≠ mt ∧ b ≠ ml ∧ lv.ownBlock ≠ some b) w L lvs
 mT : MapOf w kvT vvI mt T
 nT : (T.map (·.1)).Nodup
 mS : MapOf w kvS vvI ml S
 nS : (S.map (·.1)).Nodup
 lT : ∀ (k : Tk) id, look k T = some id ↔ ∃ i : Nat, id = i ∧ L[i]? = some ⟨k.1.f, k.1.n, k.1.hi, k.1.lo, []⟩ ∧ 0 ≤ k.1.f
 lS : ∀ (s : Sk) id, look s S = some id ↔ ∃ (i : Nat) (r : List RowD), id = i ∧ L[i]? = some ⟨-1, 0, 0, 0, r⟩ ∧ s.1 = keyK r
 fp : F p ∧ F mt ∧ F ml ∧ ∀ b, lv.ownBlock = some b → F b
 ne : p ≠ mt ∧ p ≠ ml ∧ mt ≠ ml ∧ lv.ownBlock ≠ some p ∧ lv.ownBlock ≠ some mt ∧ lv.ownBlock ≠ some ml
 lt : ∀ b, F b → b < w.heap.size
 inv : InvL L
/-- block p is a store of the nodes L; what it is made of lies in the blocks F -/
def St (F : Nat → Prop) (w : World) (p : Nat) (L : List NdD) : Prop := ∃ lv mt ml lvs T S, StM F w p L lv mt ml lvs T S
theorem StM.keep {F : Nat → Prop} {w w' : World} {p : Nat} {L : List NdD} {lv : Value} {mt ml : Nat} {lvs : List Value} {T : List (Tk × Int)} {S : List (Sk × Int)} (h : StM F w p L lv mt ml lvs T S)
  (hs : w.heap.size ≤ w'.heap.size) (hk : ∀ b, F b → w'.heap[b]? = w.heap[b]?) : StM F w' p L lv mt ml lvs T S where
 own := by
  refine ⟨h.own.1, h.own.2.imp id fun ⟨g, cap, cur, hv, hb, hg, hn⟩ => ⟨g, cap, cur, hv, hb, ?_, hn⟩⟩
  rw [hk g (h.fp.2.2.2 g (by rw [hv]; rfl))]; exact hg
 c0 := by rw [World.cell?_of_block (hk p h.fp.1)]; exact h.c0
 c1 := by rw [World.cell?_of_block (hk p h.fp.1)]; exact h.c1
 c2 := by rw [World.cell?_of_block (hk p h.fp.1)]; exact h.c2
 fz := by rw [World.frozen?_of_block (hk p h.fp.1)]; exact h.fz
 leafs := h.leafs.keep hs fun b hb _ => hk b hb.1
 mT := MapRaw.kept h.mT (hk mt h.fp.2.1)
 nT := h.nT
 mS := MapRaw.kept h.mS (hk ml h.fp.2.2.1)
 nS := h.nS
 lT := h.lT
 lS := h.lS
 fp := h.fp
 ne := h.ne
 lt := fun b hb => Nat.lt_of_lt_of_le (h.lt b hb) hs
 inv := h.inv
theorem St.keep {F : Nat → Prop} {w w' : World} {p : Nat} {L : List NdD} (h : St F w p L) (hs : w.heap.size ≤ w'.heap.size) (hk : ∀ b, F b → w'.heap[b]? = w.heap[b]?) : St F w' p L := by
 obtain ⟨lv, mt, ml, lvs, T, S, h⟩ := h
 exact ⟨lv, mt, ml, lvs, T, S, h.keep hs hk⟩
theorem St.lt {F : Nat → Prop} {w : World} {p : Nat} {L : List NdD} (h : St F w p L) : ∀ b, F b → b < w.heap.size := by
 obtain ⟨lv, mt, ml, lvs, T, S, h⟩ := h
 exact h.lt
theorem St.ext {F : Nat → Prop} {w w' : World} {p : Nat} {L : List NdD} (h : St F w p L) (hx : Ext w w') : St F w' p L := h.keep hx.size fun b hb => Below.block hx b (h.lt b hb)
theorem St.inv {F : Nat → Prop} {w : World} {p : Nat} {L : List NdD} (h : St F w p L) : InvL L := by
 obtain ⟨lv, mt, ml, lvs, T, S, h⟩ := h
 exact h.inv
/-- what an operation on a store does: its blocks, and new ones -/
structure StTo (F : Nat → Prop) (w w' : World) (p : Nat) (L' : List NdD) (F' : Nat → Prop) : Prop where
 st : St F' w' p L'
 sub : ∀ b, F' b → F b ∨ w.heap.size ≤ b
 kp : Keep F w w'
theorem St.to {F : Nat → Prop} {w w' : World} {p : Nat} {L : List NdD} (h : St F w p L) (hx : Ext w w') : StTo F w w' p L F := ⟨h.ext hx, fun _ h => .inl h, hx.keep F⟩

set_option maxHeartbeats 2000000 in
theorem newS_any (w : World) : Calls Tryz.prog 12 #[] w fun e w' => ∃ (p : Nat) (F : Nat → Prop), e = .returned (.pointer (some ⟨p, 0, none⟩)) ∧ (St F w' p [] ∧ (∀ b, F b → w.heap.size ≤ b) ∧ Ext w w') := by
 have hmm := @run_makeMap Tryz.prog
 obtain ⟨w1, h1⟩ : ∃ W : World, w.alloc (.map #[] 0) = W := ⟨_, rfl⟩
 obtain ⟨w2, h2⟩ : ∃ W : World, w1.alloc (.map #[] 0) = W := ⟨_, rfl⟩
 have s1 : w1.heap.size = w.heap.size + 1 := by rw [← h1, World.size_alloc]
 have s2 : w2.heap.size = w.heap.size + 2 := by rw [← h2, World.size_alloc, s1]
 obtain ⟨w3, h3⟩ : ∃ W : World, w2.alloc (.cells #[.slice none 0 0, .map (some w.heap.size), .map (some (w.heap.size + 1))] 70) = W := ⟨_, rfl⟩
 have s3 : w3.heap.size = w.heap.size + 3 := by rw [← h3, World.size_alloc, s2]
 have x1 : Ext w w1 := h1 ▸ Ext.alloc _ _
 have x2 : Ext w1 w2 := h2 ▸ Ext.alloc _ _
 have x3 : Ext w2 w3 := h3 ▸ Ext.alloc _ _
 have m1 : MapOf w1 kvT vvI w.heap.size ([] : List (Tk × Int)) := by rw [← h1]; exact MapRaw.made w
 have m2 : MapOf w2 kvS vvI (w.heap.size + 1) ([] : List (Sk × Int)) := by
  have := MapRaw.made w1
  rw [h2, s1] at this
  exact this
 have c0 : w3.cell? ⟨w.heap.size + 2, 0, none⟩ = some (.slice none 0 0) := by rw [← h3, ← s2]; simp [go_sem]
 have c1 : w3.cell? ⟨w.heap.size + 2, 1, none⟩ = some (.map (some w.heap.size)) := by rw [← h3, ← s2]; simp [go_sem]
 have c2 : w3.cell? ⟨w.heap.size + 2, 2, none⟩ = some (.map (some (w.heap.size + 1))) := by rw [← h3, ← s2]; simp [go_sem]
 have f0 : w3.frozen? ⟨w.heap.size + 2, 0, none⟩ = false := by rw [← h3, ← s2]; simp [go_sem]
 have HF := Hd (show St (fun b => w.heap.size ≤ b ∧ b < w.heap.size + 3) w3 (w.heap.size + 2) [] from
  ⟨.slice none 0 0, w.heap.size, w.heap.size + 1, [], [], [], {
   own := World.ownsRow_nil _ _ _ _
   c0 := c0, c1 := c1, c2 := c2, fz := f0
   leafs := ⟨rfl, fun i h => by simp at h⟩
   mT := MapRaw.ext m1 (x2.trans x3)
   nT := List.Pairwise.nil
   mS := MapRaw.ext m2 x3
   nS := List.Pairwise.nil
   lT := fun k id => by simp [look]
   lS := fun s id => by simp [look]
   fp := ⟨by omega, by omega, by omega, fun b h => by cases h⟩
   ne := ⟨by omega, by omega, by omega, (fun h => by cases h), (fun h => by cases h), (fun h => by cases h)⟩
   lt := fun b hb => by rw [s3]; exact hb.2
   inv := InvL.nil }⟩)
 have HX := Hd (x1.trans (x2.trans x3))
 have HEQ := Hd (And.intro h1 (And.intro h2 h3))
 have HS := Hd (And.intro s1 s2)
 clear x1 x2 x3 m1 m2 c0 c1 c2 f0 s3 h1 h2 h3 s1 s2
 go_enter Tryz.func12, Tryz.ntmps12
 go_wp2_with fail
 simp only [HEQ.out.1, HEQ.out.2.1, HS.out.1, HS.out.2, HEQ.out.2.2]
 go_ret
 exact ⟨w.heap.size + 2, _, rfl, HF.out, fun b hb => hb.1, HX.out⟩

end Go.Proofs.YtjjbdbklbghlhaaGreatDoor
/- (*Store).add. -/
namespace Go.Proofs.YtjjbdbklbghlhaaGreatDoor
open Go.RowKit Go.Sort Go.Maps Go.Lib
set_option linter.unusedSimpArgs false

theorem step_one_E {P : Program} {sl e : TypeId} {k bt : Nat} (E : Elem P sl e k bt) {z : Value} (hz : ∀ w, (zeroValue e).run P w = .ok z w) {o : Oper} {ops : Array Oper} {a : Act} {w : World} {K : Act → World → Prop} {Q : Exit → Act → World → Prop} {F : Prop} (hgd : o.guard = none) (x : Operand) (ho : o.op = .buildSlice sl 1 #[(0, x)]) (cs : Array Value) (hx : a.eval x = .agg cs) (hc : cs.size = k)
  (h : K (a.put o.dst (.slice (some ⟨w.heap.size, 0, none⟩) 1 1)) (w.alloc (.cells cs e))) :
  if Region.wanted o (yielded ops a.tmps) = true then Oper.wp P o a w K Q else F := by
 have hw : Region.wanted o (yielded ops a.tmps) = true := by simp [Region.wanted, hgd]
 rw [if_pos hw]
 have hr := run_buildSlice_one (P := P) E.und E.szo hz E.pos E.small hc w
 unfold Oper.wp execOp
 simp only [ho, Sem.run_bind, Sem.run_pure, Result.andThen_ok, List.map_toArray, List.map_cons, List.map_nil, hx, hr]
 exact h
theorem zeroNd (w : World) : (zeroValue 42).run Tryz.prog w = .ok (.agg #[.int .i8 0, .int .u64 0, .int .i64 0, .int .i64 0, .slice none 0 0]) w := by kernel_rfl
def AddPost (w : World) (p : Nat) (L : List NdD) (x : NdD) (lv xv : Value) (lvs : List Value) (e : Ending) (w' : World) : Prop :=
 ∃ lv', e = .returned (.tuple #[.int .i64 L.length, .int .i64 0]) ∧ w'.ownsRow 0 42 5 lv' (L.length + 1) (flatN L lvs ++ x.cs xv) ∧ w'.cell? ⟨p, 0, none⟩ = some lv' ∧ w'.frozen? ⟨p, 0, none⟩ = false ∧
  (lv'.ownBlock = lv.ownBlock ∨ ∃ b, lv'.ownBlock = some b ∧ w.heap.size ≤ b) ∧ Keep (fun b => b = p ∨ lv.ownBlock = some b) w w' ∧ ∀ j v, j ≠ 0 → w.cell? ⟨p, j, none⟩ = some v → w'.cell? ⟨p, j, none⟩ = some v

set_option maxHeartbeats 8000000 in
set_option maxRecDepth 100000 in
theorem addS_any {F : Nat → Prop} (p : Nat) (L : List NdD) (lv : Value) (mt ml : Nat) (lvs : List Value) (T : List (Tk × Int)) (S : List (Sk × Int)) (x : NdD) (xv : Value) (w : World) (h : StM F w p L lv mt ml lvs T S) (hl : L.length < 65536) (hxv : xv.oneCell' = true) :
    Calls Tryz.prog 70 #[.pointer (some ⟨p, 0, none⟩), .agg #[.int .i8 x.f, .int .u64 x.n, .int .i64 x.hi, .int .i64 x.lo, xv]] w (AddPost w p L x lv xv lvs) := by
  have HOWN := Hd (fun W (hW : Ext w W) => owns_ext h.own hW)
  have HLT := Hd (fun b (hb : lv.ownBlock = some b) => (owns_lt h.own b hb).2)
  have HNE := Hd h.ne.2.2.2.1
  have hp : p < w.heap.size := World.block_lt_of_cell? w _ h.c0
  obtain ⟨wA, hA⟩ : ∃ W : World, w.alloc (.cells #[.int .i8 x.f, .int .u64 x.n, .int .i64 x.hi, .int .i64 x.lo, xv] 42) = W := ⟨_, rfl⟩
  have xA : Ext w wA := hA ▸ Ext.alloc _ _
  have sA : wA.heap.size = w.heap.size + 1 := by rw [← hA, World.size_alloc]
  have b0 : wA.cell? ⟨w.heap.size, 0, none⟩ = some (.int .i8 x.f) := by rw [← hA]; simp [go_sem]
  have b1 : wA.cell? ⟨w.heap.size, 1, none⟩ = some (.int .u64 x.n) := by rw [← hA]; simp [go_sem]
  have b2 : wA.cell? ⟨w.heap.size, 2, none⟩ = some (.int .i64 x.hi) := by rw [← hA]; simp [go_sem]
  have b3 : wA.cell? ⟨w.heap.size, 3, none⟩ = some (.int .i64 x.lo) := by rw [← hA]; simp [go_sem]
  have b4 : wA.cell? ⟨w.heap.size, 4, none⟩ = some xv := by rw [← hA]; simp [go_sem]
  have c0 := xA.later _ _ h.c0
  have f0 : wA.frozen? ⟨p, 0, none⟩ = false := by rw [Below.frozen xA hp]; exact h.fz
  obtain ⟨q, c, rfl, -⟩ := owns_form h.own
  obtain ⟨n, hn⟩ : ∃ n, n = L.length := ⟨_, rfl⟩
  have HP := Hd (fun e w' (hh : ∃ lv', e = Ending.returned (.tuple #[.int .i64 n, .int .i64 0]) ∧ w'.ownsRow 0 42 5 lv' (n + 1) (flatN L lvs ++ x.cs xv) ∧ w'.cell? ⟨p, 0, none⟩ = some lv' ∧ w'.frozen? ⟨p, 0, none⟩ = false ∧
    (lv'.ownBlock = (Value.slice q L.length c).ownBlock ∨ ∃ b, lv'.ownBlock = some b ∧ w.heap.size ≤ b) ∧ Keep (fun b => b = p ∨ (Value.slice q L.length c).ownBlock = some b) w w' ∧ ∀ j v, j ≠ 0 → w.cell? ⟨p, j, none⟩ = some v → w'.cell? ⟨p, j, none⟩ = some v) => show AddPost w p L x (.slice q L.length c) xv lvs e w' from by rw [hn] at hh; exact hh)
  rw [← hn] at HOWN HLT HNE HP c0 hl ⊢
  have HXA := Hd xA
  have HEQ := Hd hA
  have h1 : ∀ v ∈ x.cs xv, v.oneCell' = true := by
    intro v hv
    simp [NdD.cs] at hv
    rcases hv with rfl | rfl | rfl | rfl | rfl <;> first | rfl | exact hxv
  have H1 := Hd h1
  have hpA : p < wA.heap.size := by omega
  have HLL := Hd hl
  have hdl : decide ((65536 : Int) ≤ (n : Int)) = false := by simp; omega
  have hnb : (n : Int) ≤ 9223372036854775807 := by omega
  clear h hn xA hA h1 hxv hl
  go_enter Tryz.func70, Tryz.ntmps70
  go_upto_region 1 with fail
  rw [HEQ.out]
  go_upto_region 3 with fail
  go_region_law (first
    | (refine step_one_E elemN zeroNd rfl _ rfl #[.int .i8 x.f, .int .u64 x.n, .int .i64 x.hi, .int .i64 x.lo, xv] (by rfl) rfl ?_)
    | (refine step_append_E elemN rfl _ _ rfl 0 (.slice q n c) n (flatN L lvs) (by rfl) (HOWN.out _ (HXA.out.trans (by repeat (first | exact Ext.refl _ | refine Ext.andDrew ?_ | refine Ext.andAlloc ?_ _)))) (some ⟨w.heap.size + 1, 0, none⟩) 1 1 (x.cs xv) (by rfl) rfl (.inr ⟨_, rfl, fun i u hu => by
        match i, hu with
        | 0, hu => simp [NdD.cs] at hu; subst hu; rw [← sA]; simp [go_sem]
        | 1, hu => simp [NdD.cs] at hu; subst hu; rw [← sA]; simp [go_sem]
        | 2, hu => simp [NdD.cs] at hu; subst hu; rw [← sA]; simp [go_sem]
        | 3, hu => simp [NdD.cs] at hu; subst hu; rw [← sA]; simp [go_sem]
        | 4, hu => simp [NdD.cs] at hu; subst hu; rw [← sA]; simp [go_sem]
        | i + 5, hu => simp [NdD.cs] at hu⟩) H1.out (by have := HLL.out; omega) (by have := HLL.out; omega) (Nat.zero_le _) ?_; intro v' w' o1 g1 t1; obtain ⟨pv, cv, rfl, hcv, hcv2⟩ := owns_form o1; have cp := g1.cell (a := ⟨p, 0, none⟩) (v := .slice q n c) (by simp [go_sem, hpA, c0]) (fun e => HNE.out e.symm); have fp := (World.frozen?_of_block (a := ⟨p, 0, none⟩) (g1.block p (by simp; omega) (fun e => HNE.out e.symm))).trans (show _ = false from by simp [go_sem, hpA, f0])))
  all_goals (
    have hnp : (Value.slice pv (n + 1) cv).ownBlock ≠ some p := by
      rcases t1 with e | e
      · rw [e]; exact HNE.out
      · rw [e]; intro e2; injection e2 with e2; simp at e2; omega
    have hgs : w'.grownBy (w'.setCell ⟨p, 0, none⟩ (.slice pv (n + 1) cv)) (some p) := Keep.grownBy (Keep.set (S := (· = p)) w' ⟨p, 0, none⟩ _ rfl)
    have HPO := Hd (HP.out (.returned (.tuple #[.int .i64 n, .int .i64 0])) (w'.setCell ⟨p, 0, none⟩ (.slice pv (n + 1) cv)) ⟨_, rfl, o1.kept hgs (.inr hnp), World.cell?_setCell_same w' ⟨p, 0, none⟩ _ cp, by rw [World.frozen?_setCell]; exact fp, by
        rcases t1 with e | e
        · exact .inl e
        · exact .inr ⟨_, e, by simp; omega⟩, by
        have k1 : Keep (fun b => b = p ∨ (Value.slice q n c).ownBlock = some b) w w' := by
          refine (Ext.keep (HXA.out.trans (by repeat (first | exact Ext.refl _ | refine Ext.andDrew ?_ | refine Ext.andAlloc ?_ _))) _).trans ⟨g1.os, g1.tape, g1.output, g1.size, fun b hb hs => g1.block b hb (fun e => hs (.inr e.symm))⟩
        exact k1.trans (Keep.set w' ⟨p, 0, none⟩ _ (.inl rfl)), fun j v hj hv => by
        rw [World.cell?_setCell_other _ _ _ _ (fun e => by injection e with _ e2; exact hj e2.symm)]
        exact g1.cell (a := ⟨p, j, none⟩) ((Ext.later (HXA.out.trans (by repeat (first | exact Ext.refl _ | refine Ext.andDrew ?_ | refine Ext.andAlloc ?_ _)))) _ _ hv) (fun e => HNE.out e.symm)⟩)
    clear g1 o1 t1 hgs hnp
    go_wp2_with fail
    go_ret2
    exact HPO.out)
end Go.Proofs.YtjjbdbklbghlhaaGreatDoor
/- The key of rows in normal form tells them apart. -/
namespace Go.Proofs.YtjjbdbklbghlhaaGreatDoor
open Go.RowKit Go.Sort Go.Maps Go.Lib
set_option linter.unusedSimpArgs false

def isD (c : UInt8) : Bool := 48 ≤ c && c ≤ 57
theorem isD_of (k : Nat) (h : k < 10) : isD (UInt8.ofNat (48 + k)) = true := by
 have : k = 0 ∨ k = 1 ∨ k = 2 ∨ k = 3 ∨ k = 4 ∨ k = 5 ∨ k = 6 ∨ k = 7 ∨ k = 8 ∨ k = 9 := by omega
 rcases this with rfl | rfl | rfl | rfl | rfl | rfl | rfl | rfl | rfl | rfl <;> rfl
theorem dec_isD (u : Nat) : ∀ c ∈ Lib.decDigits u, isD c = true := by
 induction u using Nat.strongRecOn with
 | _ u ih =>
  intro c hc
  rw [Lib.decDigits] at hc
  split at hc
  ·rename_i h
   rw [List.mem_singleton] at hc
   rw [hc]; exact isD_of u h
  ·rename_i h
   rcases List.mem_append.1 hc with hc | hc
   ·exact ih (u / 10) (by omega) c hc
   ·rw [List.mem_singleton] at hc
    rw [hc]; exact isD_of _ (by omega)
def valD : List UInt8 → Nat → Nat
 | [], a => a
 | c :: l, a => valD l (a * 10 + (c.toNat - 48))
theorem valD_app : ∀ (l m : List UInt8) (a : Nat), valD (l ++ m) a = valD m (valD l a)
 | [], _, _ => rfl
 | c :: l, m, a => by rw [List.cons_append, valD, valD, valD_app l m]
theorem val_of (k : Nat) (h : k < 10) : (UInt8.ofNat (48 + k)).toNat - 48 = k := by
 have : k = 0 ∨ k = 1 ∨ k = 2 ∨ k = 3 ∨ k = 4 ∨ k = 5 ∨ k = 6 ∨ k = 7 ∨ k = 8 ∨ k = 9 := by omega
 rcases this with rfl | rfl | rfl | rfl | rfl | rfl | rfl | rfl | rfl | rfl <;> rfl
theorem dec_val (u : Nat) : valD (Lib.decDigits u) 0 = u := by
 induction u using Nat.strongRecOn with
 | _ u ih =>
  rw [Lib.decDigits]
  split
  ·rename_i h
   simp only [valD]
   rw [val_of u h]; omega
  ·rename_i h
   rw [valD_app, ih (u / 10) (by omega)]
   simp only [valD]
   rw [val_of _ (by omega)]; omega
theorem dec_inj {u v : Nat} (h : Lib.decDigits u = Lib.decDigits v) : u = v := by rw [← dec_val u, h, dec_val v]
/-- digits, then none: one way -/
theorem split_inj {x y : UInt8} (hx : isD x = false) (hy : isD y = false) : ∀ {ds es t s : List UInt8}, (∀ c ∈ ds, isD c = true) → (∀ c ∈ es, isD c = true) → ds ++ x :: t = es ++ y :: s → ds = es ∧ x = y ∧ t = s
 | [], [], t, s, _, _, h => by simp at h; exact ⟨rfl, h.1, h.2⟩
 | [], e :: es, t, s, _, he, h => by
  simp at h
  have := he e List.mem_cons_self
  rw [← h.1, hx] at this; cases this
 | d :: ds, [], t, s, hd, _, h => by
  simp at h
  have := hd d List.mem_cons_self
  rw [h.1, hy] at this; cases this
 | d :: ds, e :: es, t, s, hd, he, h => by
  simp only [List.cons_append, List.cons.injEq] at h
  obtain ⟨h1, h2⟩ := split_inj hx hy (fun c hc => hd c (List.mem_cons_of_mem _ hc)) (fun c hc => he c (List.mem_cons_of_mem _ hc)) h.2
  exact ⟨by rw [h.1, h1], h2⟩
theorem okA_bd {a : AcD} (h : okA a = true) : a.d = 0 ∧ 0 ≤ a.f ∧ a.f ≤ 10 ∧ 0 ≤ a.n := by
 simp only [okA, Bool.and_eq_true, beq_iff_eq] at h
 obtain ⟨h1, h2⟩ := h
 unfold fitsB fitsK at h2
 split at h2
 ·cases h2
 rename_i h3
 have hw : widthI a.f ≠ 0 := by
  intro h4
  rw [h4] at h3
  exact h3 rfl
 have hf : 0 ≤ a.f ∧ a.f ≤ 10 := by
  unfold widthI at hw
  by_cases h5 : 0 ≤ a.f ∧ a.f ≤ 10
  ·exact h5
  ·exfalso
   apply hw
   repeat rw [if_neg (by omega)]
 refine ⟨h1, hf.1, hf.2, ?_⟩
 rw [beq_iff_eq] at h2
 generalize (widthI a.f).toNat = k at *
 have hp : (0 : Int) < 2 ^ k := Int.pow_pos (by omega)
 by_cases hn : 0 ≤ a.n
 ·exact hn
 ·exfalso
  have := Int.ediv_neg_of_neg_of_pos (a := a.n) (by omega) hp
  omega
theorem itoa_pos {f : Int} (h : 0 ≤ f) : Lib.itoa f = Lib.decDigits f.toNat := by unfold Lib.itoa; rw [if_neg (by omega)]
/-- a row's settings, read on -/
theorem acts_inj : ∀ {r s : RowD} {t u : List UInt8}, (∀ a ∈ r, okA a = true) → (∀ a ∈ s, okA a = true) → r.flatMap actK ++ 59 :: t = s.flatMap actK ++ 59 :: u → r = s ∧ t = u
 | [], [], t, u, _, _, h => by simp at h; exact ⟨rfl, h⟩
 | [], b :: s, t, u, _, _, h => by simp [actK] at h
 | a :: r, [], t, u, _, _, h => by simp [actK] at h
 | a :: r, b :: s, t, u, hr, hs, h => by
  have ha := okA_bd (hr a List.mem_cons_self)
  have hb := okA_bd (hs b List.mem_cons_self)
  simp only [List.flatMap_cons, actK, List.cons_append, List.append_assoc, List.cons.injEq, true_and] at h
  rw [itoa_pos ha.2.1, itoa_pos hb.2.1] at h
  obtain ⟨h1, -, h2⟩ := split_inj (x := 61) (y := 61) rfl rfl (dec_isD _) (dec_isD _) h
  have hf : a.f = b.f := by have := dec_inj h1; omega
  have key : ∀ (l : RowD) (v : List UInt8), ∃ c w, l.flatMap actK ++ 59 :: v = c :: w ∧ isD c = false := fun l v => by
   cases l with
   | nil => exact ⟨59, v, rfl, rfl⟩
   | cons x l => exact ⟨32, _, rfl, rfl⟩
  obtain ⟨c, w, e1, c1⟩ := key r t
  obtain ⟨c', w', e2, c2⟩ := key s u
  rw [e1, e2] at h2
  obtain ⟨h3, h4, h5⟩ := split_inj c1 c2 (dec_isD _) (dec_isD _) h2
  have hn : a.n = b.n := by have := dec_inj h3; omega
  have e3 : r.flatMap actK ++ 59 :: t = s.flatMap actK ++ 59 :: u := by rw [e1, e2, h4, h5]
  obtain ⟨h6, h7⟩ := acts_inj (fun x hx => hr x (List.mem_cons_of_mem _ hx)) (fun x hx => hs x (List.mem_cons_of_mem _ hx)) e3
  refine ⟨?_, h7⟩
  have : a = b := by
   cases a; cases b
   simp only [AcD.mk.injEq] at *
   exact ⟨ha.1.trans hb.1.symm, hf, hn⟩
  rw [this, h6]
theorem keyK_inj : ∀ {l m : List RowD}, (∀ r ∈ l, okR r = true) → (∀ r ∈ m, okR r = true) → keyK l = keyK m → l = m
 | [], [], _, _, _ => rfl
 | [], s :: m, _, _, h => by
  simp [keyK, rowK] at h
 | r :: l, [], _, _, h => by
  simp [keyK, rowK] at h
 | r :: l, s :: m, hl, hm, h => by
  have hr := List.all_eq_true.1 (hl r List.mem_cons_self)
  have hs := List.all_eq_true.1 (hm s List.mem_cons_self)
  have e : r.flatMap actK ++ 59 :: keyK l = s.flatMap actK ++ 59 :: keyK m := by
   simpa [keyK, rowK] using h
  obtain ⟨h1, h2⟩ := acts_inj hr hs e
  rw [h1, keyK_inj (fun x hx => hl x (List.mem_cons_of_mem _ hx)) (fun x hx => hm x (List.mem_cons_of_mem _ hx)) h2]
theorem rowsP_ok {l m : List RowD} (h : rowsP l = some m) : ∀ r ∈ m, okR r = true := by
 unfold rowsP at h
 obtain ⟨m', h1, rfl⟩ := Option.map_eq_some_iff.1 h
 intro r hr
 exact mapM_ok h1 r ((sortR_perm m').mem_iff.1 (ddG_mem _ _ _ hr))
end Go.Proofs.YtjjbdbklbghlhaaGreatDoor
/- A store with one node more. -/
namespace Go.Proofs.YtjjbdbklbghlhaaGreatDoor
open Go.RowKit Go.Sort Go.Maps Go.Lib
set_option linter.unusedSimpArgs false

def findN (L : List NdD) (x : NdD) : Option Nat := L.findIdx? fun y => decide (y = x)
def addN (L : List NdD) (x : NdD) : (Int × Int) × List NdD := if 65536 ≤ L.length then ((0, 200), L) else (((L.length : Int), 0), L ++ [x])
def putN (L : List NdD) (x : NdD) : (Int × Int) × List NdD := match findN L x with
 | some i => (((i : Int), 0), L)
 | none => addN L x
def leafP (L : List NdD) (l : List RowD) : (Int × Int) × List NdD := match rowsP l with
 | none => ((0, 2), L)
 | some r => if 64 < r.length then ((0, 200), L) else putN L ⟨-1, 0, 0, 0, r⟩
theorem findN_at {L : List NdD} {x : NdD} {i : Nat} (hn : L.Nodup) (h : L[i]? = some x) : findN L x = some i := by
 obtain ⟨hi, hx⟩ := List.getElem?_eq_some_iff.1 h
 unfold findN
 rw [List.findIdx?_eq_some_iff_getElem]
 refine ⟨hi, by simp [hx], fun j hj => ?_⟩
 simp only [decide_eq_true_eq]
 intro he
 have := (List.nodup_iff_pairwise_ne.1 hn)
 rw [List.pairwise_iff_getElem] at this
 exact this j i (by omega) hi hj (by rw [he, hx])
theorem findN_none {L : List NdD} {x : NdD} (h : ∀ i : Nat, L[i]? ≠ some x) : findN L x = none := by
 unfold findN
 rw [List.findIdx?_eq_none_iff]
 intro y hy
 obtain ⟨i, hi, rfl⟩ := List.getElem_of_mem hy
 rw [decide_eq_false_iff_not]
 intro he
 exact h i (by rw [List.getElem?_eq_getElem hi, he])
theorem InvL.snoc {L : List NdD} {x : NdD} (h : InvL L) (hn : ∀ i : Nat, L[i]? ≠ some x) (hl : L.length < 65536) (hx : x.ok ∧ ((∃ l, x = ⟨-1, 0, 0, 0, x.leaf⟩ ∧ rowsP l = some x.leaf ∧ x.leaf.length ≤ 64) ∨ (0 ≤ x.f ∧ x.leaf = []))) : InvL (L ++ [x]) := by
 refine ⟨?_, by simp; omega, fun y hy => ?_⟩
 ·rw [List.nodup_append]
  refine ⟨h.1, by simp, fun a ha b hb => ?_⟩
  rw [List.mem_singleton] at hb
  subst hb
  intro e
  subst e
  obtain ⟨i, hi, he⟩ := List.getElem_of_mem ha
  exact hn i (by rw [List.getElem?_eq_getElem hi, he])
 ·rcases List.mem_append.1 hy with hy | hy
  ·exact h.2.2 y hy
  ·rw [List.mem_singleton] at hy; subst hy; exact hx
theorem getElem?_snoc {L : List NdD} {x y : NdD} {i : Nat} : (L ++ [x])[i]? = some y ↔ L[i]? = some y ∨ (i = L.length ∧ x = y) := by
 rcases Nat.lt_trichotomy i L.length with h | h | h
 ·rw [List.getElem?_append_left h]
  exact ⟨.inl, fun h2 => h2.elim id (fun h3 => by omega)⟩
 ·subst h
  rw [List.getElem?_append_right (Nat.le_refl _), List.getElem?_eq_none (Nat.le_refl _)]
  simp
 ·rw [List.getElem?_eq_none (by simp; omega), List.getElem?_eq_none (by omega)]
  simp
  omega

/-- what both kinds of nodes share: the store behind add and a change of one of its maps -/
theorem StM.added {F : Nat → Prop} {w w0 w1 w2 : World} {p : Nat} {L : List NdD} {lv : Value} {mt ml : Nat} {lvs : List Value} {T T' : List (Tk × Int)} {S S' : List (Sk × Int)} {x : NdD} {lv' xv : Value}
  (h : StM F w p L lv mt ml lvs T S) (hx0 : Ext w w0) (hxv : RowsOn (fun b => w.heap.size ≤ b) w0 x.leaf xv)
  (ho : w1.ownsRow 0 42 5 lv' (L.length + 1) (flatN L lvs ++ x.cs xv)) (hc : w1.cell? ⟨p, 0, none⟩ = some lv') (hf : w1.frozen? ⟨p, 0, none⟩ = false)
  (hat : lv'.ownBlock = lv.ownBlock ∨ ∃ b, lv'.ownBlock = some b ∧ w0.heap.size ≤ b) (hk : Keep (fun b => b = p ∨ lv.ownBlock = some b) w0 w1) (hcs : ∀ j v, j ≠ 0 → w0.cell? ⟨p, j, none⟩ = some v → w1.cell? ⟨p, j, none⟩ = some v)
  (hk2 : Keep (fun b => b = mt ∨ b = ml) w1 w2)
  (mT : MapOf w2 kvT vvI mt T') (nT : (T'.map (·.1)).Nodup) (mS : MapOf w2 kvS vvI ml S') (nS : (S'.map (·.1)).Nodup)
  (lT : ∀ (k : Tk) id, look k T' = some id ↔ ∃ i : Nat, id = i ∧ (L ++ [x])[i]? = some ⟨k.1.f, k.1.n, k.1.hi, k.1.lo, []⟩ ∧ 0 ≤ k.1.f)
  (lS : ∀ (s : Sk) id, look s S' = some id ↔ ∃ (i : Nat) (r : List RowD), id = i ∧ (L ++ [x])[i]? = some ⟨-1, 0, 0, 0, r⟩ ∧ s.1 = keyK r)
  (inv : InvL (L ++ [x])) : StTo F w w2 p (L ++ [x]) (fun b => F b ∨ (w.heap.size ≤ b ∧ b < w2.heap.size)) := by
 have hsz0 := hx0.size
 have hsz1 := hk.size
 have hsz2 := hk2.size
 have hpl := h.lt p h.fp.1
 have hmt := h.lt mt h.fp.2.1
 have hml := h.lt ml h.fp.2.2.1
 have hlvb : ∀ b, lv.ownBlock = some b → b < w.heap.size := fun b hb => h.lt b (h.fp.2.2.2 b hb)
 have hl1 : lv'.ownBlock ≠ some mt := by
  rcases hat with e | ⟨b, e, hb⟩
  ·rw [e]; exact h.ne.2.2.2.2.1
  ·rw [e]; intro e2; injection e2 with e2; omega
 have hl2 : lv'.ownBlock ≠ some ml := by
  rcases hat with e | ⟨b, e, hb⟩
  ·rw [e]; exact h.ne.2.2.2.2.2
  ·rw [e]; intro e2; injection e2 with e2; omega
 have hl0 : lv'.ownBlock ≠ some p := by
  rcases hat with e | ⟨b, e, hb⟩
  ·rw [e]; exact h.ne.2.2.2.1
  ·rw [e]; intro e2; injection e2 with e2; omega
 have hpm : ¬ (p = mt ∨ p = ml) := by
  rintro (e | e)
  ·exact h.ne.1 e
  ·exact h.ne.2.1 e
 -- old blocks that are read alone
 have stay : ∀ b, b < w0.heap.size → b ≠ p → lv.ownBlock ≠ some b → b ≠ mt → b ≠ ml → w2.heap[b]? = w0.heap[b]? := fun b hb h1 h2 h3 h4 => by
  rw [hk2.block b (by omega) (fun e => e.elim h3 h4), hk.block b hb (fun e => e.elim h1 h2)]
 have keepAll : Keep F w w2 := by
  refine (hx0.keep F).trans ((hk.mono fun b _ hb => ?_).trans (hk2.mono fun b _ hb => ?_))
  ·rcases hb with rfl | hb
   ·exact h.fp.1
   ·exact h.fp.2.2.2 b hb
  ·rcases hb with rfl | rfl
   ·exact h.fp.2.1
   ·exact h.fp.2.2.1
 refine ⟨⟨lv', mt, ml, lvs ++ [xv], T', S', ?_⟩, fun b hb => hb.imp id (fun h => h.1), keepAll⟩
 exact {
  own := by
   rw [flatN_snoc h.leafs.1, List.length_append]
   refine ⟨ho.1, ho.2.imp id fun ⟨g, cap, cur, hv, hb, hg, hn⟩ => ⟨g, cap, cur, hv, hb, ?_, hn⟩⟩
   rw [hk2.block g (Array.getElem?_eq_some_iff.1 hg).1 (fun e => by
    rcases e with rfl | rfl
    ·exact hl1 (by rw [hv]; rfl)
    ·exact hl2 (by rw [hv]; rfl))]
   exact hg
  c0 := hk2.cell hc hpm
  c1 := hk2.cell (hcs 1 _ (by omega) (hx0.later _ _ h.c1)) hpm
  c2 := hk2.cell (hcs 2 _ (by omega) (hx0.later _ _ h.c2)) hpm
  fz := by rw [World.frozen?_of_block (hk2.block p (World.block_lt_of_cell? w1 _ hc) hpm)]; exact hf
  leafs := by
   refine NodesV.snoc ?_ ?_
   ·have h1 : NodesV (fun b => F b ∧ b ≠ p ∧ b ≠ mt ∧ b ≠ ml ∧ lv.ownBlock ≠ some b) w0 L lvs := h.leafs.keep hsz0 (fun b _ hlt => Below.block hx0 b hlt)
    have h2 := h1.mono (C := fun b => (F b ∧ b ≠ p ∧ b ≠ mt ∧ b ≠ ml ∧ lv.ownBlock ≠ some b) ∧ b < w0.heap.size) (fun b hlt hb => ⟨hb, hlt⟩)
    have h3 : NodesV (fun b => (F b ∧ b ≠ p ∧ b ≠ mt ∧ b ≠ ml ∧ lv.ownBlock ≠ some b) ∧ b < w0.heap.size) w2 L lvs := h2.keep (by omega) (fun b hb hlt => stay b hb.2 hb.1.2.1 hb.1.2.2.2.2 hb.1.2.2.1 hb.1.2.2.2.1)
    refine h3.mono fun b _ hb => ⟨.inl hb.1.1, hb.1.2.1, hb.1.2.2.1, hb.1.2.2.2.1, ?_⟩
    rcases hat with e | ⟨g, e, hg⟩
    ·rw [e]; exact hb.1.2.2.2.2
    ·rw [e]; intro e2; have := hb.2; injection e2 with e2; omega
   ·have h2 := hxv.mono (C := fun b => w.heap.size ≤ b ∧ b < w0.heap.size) (fun b hlt hb => ⟨hb, hlt⟩)
    have h3 : RowsOn (fun b => w.heap.size ≤ b ∧ b < w0.heap.size) w2 x.leaf xv := h2.keep (by omega) (fun b hb hlt => stay b hb.2 (by omega) (fun e => by have := hlvb b e; omega) (by omega) (by omega))
    refine h3.mono fun b _ hb => ⟨.inr ⟨hb.1, by omega⟩, by omega, by omega, by omega, ?_⟩
    rcases hat with e | ⟨g, e, hg⟩
    ·rw [e]; intro e2; have := hlvb b e2; omega
    ·rw [e]; intro e2; have := hb.2; injection e2 with e2; omega
  mT := mT
  nT := nT
  mS := mS
  nS := nS
  lT := lT
  lS := lS
  fp := ⟨.inl h.fp.1, .inl h.fp.2.1, .inl h.fp.2.2.1, fun b hb => by
   rcases hat with e | ⟨g, e, hg⟩
   ·exact .inl (h.fp.2.2.2 b (by rw [← e]; exact hb))
   ·rw [e] at hb
    injection hb with hb
    subst hb
    refine .inr ⟨by omega, ?_⟩
    have := (owns_lt ho g e).2
    omega⟩
  ne := ⟨h.ne.1, h.ne.2.1, h.ne.2.2.1, hl0, hl1, hl2⟩
  lt := fun b hb => by
   rcases hb with hb | hb
   ·have := h.lt b hb; omega
   ·exact hb.2
  inv := inv }
end Go.Proofs.YtjjbdbklbghlhaaGreatDoor
/- (*Store).Leaf. -/
namespace Go.Proofs.YtjjbdbklbghlhaaGreatDoor
open Go.RowKit Go.Sort Go.Maps Go.Lib
set_option linter.unusedSimpArgs false

set_option maxHeartbeats 2000000 in
theorem addBig_any {F : Nat → Prop} (p : Nat) (L : List NdD) (w : World) (h : St F w p L) (f n hi lo : Int) (xv : Value) (hl : 65536 ≤ L.length) :
  Calls Tryz.prog 70 #[.pointer (some ⟨p, 0, none⟩), .agg #[.int .i8 f, .int .u64 n, .int .i64 hi, .int .i64 lo, xv]] w fun e w' => e = .returned (.tuple #[.int .i64 0, .int .i64 200]) ∧ Ext w w' := by
 obtain ⟨lv, mt, ml, lvs, T, S, h⟩ := h
 have c0 := h.c0
 obtain ⟨wA, hA⟩ : ∃ W : World, w.alloc (.cells #[.int .i8 f, .int .u64 n, .int .i64 hi, .int .i64 lo, xv] 42) = W := ⟨_, rfl⟩
 have xA : Ext w wA := hA ▸ Ext.alloc _ _
 have c0 := xA.later _ _ h.c0
 have hb := h.inv.2.1
 obtain ⟨q, c, rfl, -⟩ := owns_form h.own
 obtain ⟨m, hm⟩ : ∃ m, m = L.length := ⟨_, rfl⟩
 rw [← hm] at c0 hl hb
 have hdl : decide ((65536 : Int) ≤ (m : Int)) = true := by simp; omega
 have HXA := Hd xA
 have HEQ := Hd hA
 clear h hm xA hA hl hb
 go_enter Tryz.func70, Tryz.ntmps70
 go_upto_region 1 with fail
 rw [HEQ.out]
 go_wp2_with fail
 go_ret2
 exact ⟨rfl, HXA.out⟩

theorem okA_ok {a : AcD} (h : okA a = true) : a.ok := by
 have h1 := okA_bd h
 refine ⟨by omega, by omega, h1.2.2.2, ?_⟩
 simp only [okA, Bool.and_eq_true] at h
 have h2 := h.2
 unfold fitsB fitsK at h2
 split at h2
 ·cases h2
 rw [beq_iff_eq] at h2
 obtain ⟨k, hk, hk2⟩ := widthI_le a.f
 rw [hk, Int.toNat_natCast] at h2
 have hp : (0 : Int) < 2 ^ k := Int.pow_pos (by omega)
 have h3 : a.n < 2 ^ k := by
  by_cases h4 : a.n < 2 ^ k
  ·exact h4
  ·exfalso
   have h7 : (1 : Int) ≤ a.n / 2 ^ k := Int.le_ediv_of_mul_le hp (by rw [Int.one_mul]; exact Int.not_lt.1 h4)
   rw [h2] at h7
   omega
 have h5 : (2 : Int) ^ k ≤ 2 ^ 48 := by
  have := Nat.pow_le_pow_right (n := 2) (by omega) hk2
  exact_mod_cast this
 have h6 : (2 : Int) ^ 48 = 281474976710656 := by rfl
 omega
theorem actsK_len : ∀ (r : RowD), okR r = true → (r.flatMap actK).length ≤ r.length * 43
 | [], _ => by simp
 | a :: r, h => by
  simp only [okR, List.all_cons, Bool.and_eq_true] at h
  have h1 := actK_len a (okA_ok h.1)
  have h2 := actsK_len r h.2
  rw [List.flatMap_cons, List.length_append, List.length_cons]
  omega
theorem keyK_len : ∀ (l : List RowD), (∀ r ∈ l, okR r = true) → (∀ r ∈ l, r.length ≤ 10000) → (keyK l).length ≤ l.length * 430001
 | [], _, _ => by simp [keyK]
 | r :: l, h, hl => by
  have h1 := actsK_len r (h r List.mem_cons_self)
  have h2 := keyK_len l (fun x hx => h x (List.mem_cons_of_mem _ hx)) (fun x hx => hl x (List.mem_cons_of_mem _ hx))
  have h3 := hl r List.mem_cons_self
  have e : keyK (r :: l) = r.flatMap actK ++ [59] ++ keyK l := by simp [keyK, rowK]
  rw [e, List.length_append, List.length_append, List.length_cons, List.length_cons]
  simp only [List.length_nil]
  omega
/-- rows in normal form are short -/
theorem short_asc : ∀ {r : RowD} {k : Int}, (∀ a ∈ r, k ≤ a.f ∧ a.f ≤ 10) → (r.Pairwise fun a b => a.f < b.f) → 0 ≤ k → k ≤ 11 → (r.length : Int) ≤ 11 - k
 | [], k, _, _, _, h => by simp; omega
 | a :: r, k, h, hp, h0, h11 => by
  have ha := h a List.mem_cons_self
  have h2 := short_asc (r := r) (k := a.f + 1) (fun b hb => ⟨by have := (List.pairwise_cons.1 hp).1 b hb; omega, (h b (List.mem_cons_of_mem _ hb)).2⟩) (List.pairwise_cons.1 hp).2 (by omega) (by omega)
  simp only [List.length_cons]
  omega
theorem mapM_asc : ∀ {l m : List RowD}, l.mapM rowP = some m → ∀ r ∈ m, r.Pairwise fun a b => a.f < b.f
 | [], m, h, r, hr => by cases h; cases hr
 | z :: l, m, h, r, hr => by
  rw [List.mapM_cons] at h
  cases hz : rowP z with
  | none => rw [hz] at h; cases h
  | some u =>
   rw [hz] at h
   cases hl : l.mapM rowP with
   | none => rw [hl] at h; cases h
   | some m' =>
    rw [hl] at h
    have h : some (u :: m') = some m := h
    cases h
    rcases List.mem_cons.1 hr with rfl | hr
    ·unfold rowP at hz
     split at hz
     ·rename_i hh
      cases hz
      have h1 := sortF_sorted z
      have h2 : ((sortF z).map AcD.f).Nodup := ((sortF_perm z).map AcD.f).nodup_iff.2 hh.2
      rw [List.nodup_iff_pairwise_ne, List.pairwise_map] at h2
      exact (h1.and h2).imp fun h => by omega
     ·cases hz
    ·exact mapM_asc hl r hr
theorem rowsP_asc {l m : List RowD} (h : rowsP l = some m) : ∀ r ∈ m, r.Pairwise fun a b => a.f < b.f := by
 unfold rowsP at h
 obtain ⟨m', h1, rfl⟩ := Option.map_eq_some_iff.1 h
 intro r hr
 exact mapM_asc h1 r ((sortR_perm m').mem_iff.1 (ddG_mem _ _ _ hr))
theorem rowsP_short {l m : List RowD} (h : rowsP l = some m) : ∀ r ∈ m, r.length ≤ 11 := fun r hr => by
 have := short_asc (r := r) (k := 0) (fun a ha => by
  have := okA_bd (List.all_eq_true.1 (rowsP_ok h r hr) a ha)
  exact ⟨this.2.1, this.2.2.1⟩) (rowsP_asc h r hr) (by omega) (by omega)
 omega
def OpPost (F : Nat → Prop) (w : World) (p : Nat) (R : (Int × Int) × List NdD) (e : Ending) (w' : World) : Prop := e = .returned (.tuple #[.int .i64 R.1.1, .int .i64 R.1.2]) ∧ ∃ F', StTo F w w' p R.2 F'
theorem OpPost.same {F : Nat → Prop} {w w' : World} {p : Nat} {L : List NdD} {R : (Int × Int) × List NdD} {a c : Int} (h : St F w p L) (hx : Ext w w') (hR : R = ((a, c), L)) : OpPost F w p R (.returned (.tuple #[.int .i64 a, .int .i64 c])) w' := by
 subst hR
 exact ⟨rfl, F, h.to hx⟩

set_option maxHeartbeats 8000000 in
set_option maxRecDepth 100000 in
theorem leafS_any {F B : Nat → Prop} (p : Nat) (L : List NdD) (l : List RowD) (v : Value) (w : World) (h : St F w p L) (hv : RowsOn B w l v) (hl : l.length ≤ 5864062014634) (hrl : ∀ r ∈ l, r.length ≤ 8796093021952) (ht : Tb w) :
  Calls Tryz.prog 64 #[.pointer (some ⟨p, 0, none⟩), v] w (OpPost F w p (leafP L l)) := by
 have HST := Hd h
 have HRW := Hd (rows_any l v w hv hl hrl)
 have HTB := Hd ht
 obtain ⟨pv, lv0, cv, rfl⟩ : ∃ a b c, v = .slice a b c := by obtain ⟨a, b, c, he, -⟩ := hv; exact ⟨a, b, c, he⟩
 have HLE := Hd (show leafP L l = (match rowsP l with
  | none => ((0, 2), L)
  | some r => if 64 < r.length then ((0, 200), L) else putN L ⟨-1, 0, 0, 0, r⟩) from rfl)
 have HRR := Hd (fun m (hm : rowsP l = some m) => And.intro (rowsP_ok hm) (fun r (hr : r ∈ m) => show r.length ≤ 10000 from by
  have := rowsP_short hm r hr
  omega))
 clear hv hrl ht h
 generalize leafP L l = R at *
 go_enter Tryz.func64, Tryz.ntmps64
 go_wp2_with fail
 refine HRW.out.mono ?_
 rintro e w1 ⟨hp, hx1⟩
 have HX1 := Hd hx1
 unfold RowsPost at hp
 cases hR : rowsP l with
 | none =>
  rw [hR] at hp
  obtain rfl := hp
  have HF := Hd (OpPost.same HST.out HX1.out (show R = ((0, 2), L) from by rw [HLE.out, hR]))
  clear hR hx1
  go_wp2_with fail
  go_ret2
  exact HF.out
 | some r =>
  rw [hR] at hp
  obtain ⟨u, rfl, hu⟩ := hp
  have HU := Hd hu
  have HOKS := Hd (HRR.out r hR)
  have HLE2 := Hd (show R = (if 64 < r.length then ((0, 200), L) else putN L ⟨-1, 0, 0, 0, r⟩) from by rw [HLE.out, hR])
  have HRS := Hd hR
  obtain ⟨pu, lu, cu, rfl, hlu, -, -, -⟩ := hu
  have HLU := Hd hlu
  clear hR hx1 hlu
  by_cases h64 : 64 < lu
  ·have HF := Hd (OpPost.same HST.out HX1.out (show R = ((0, 200), L) from by rw [HLE2.out, if_pos (by rw [← HLU.out]; exact h64)]))
   go_wp2_with fail
   go_ret2
   exact HF.out
  ·have HLE3 := Hd (show R = putN L ⟨-1, 0, 0, 0, r⟩ from by rw [HLE2.out, if_neg (by rw [← HLU.out]; exact h64)])
   have HKY := Hd (key_any r (.slice pu lu cu) w1 HU.out (by have := HLU.out; omega) HOKS.out.2 (HTB.out.ext HX1.out))
   have hkl : (keyK r).length ≤ 9223372036854775807 := by
    have := keyK_len r HOKS.out.1 HOKS.out.2
    have := HLU.out
    omega
   obtain ⟨s, hs⟩ : ∃ s : Sk, s = ⟨keyK r, hkl⟩ := ⟨_, rfl⟩
   have HSK := Hd (show s.1 = keyK r from by rw [hs])
   have hss : (Value.string ⟨(keyK r).toArray⟩) = kvS s := by rw [hs]; rfl
   rw [hss] at HKY
   clear hs hss hkl
   obtain ⟨sv, hsv⟩ : ∃ sv : ByteArray, sv = ⟨s.1.toArray⟩ := ⟨_, rfl⟩
   have HSV := Hd (show kvS s = .string sv from by rw [hsv]; rfl)
   rw [HSV.out] at HKY
   clear hsv
   go_wp2_with fail
   refine HKY.out.mono ?_
   rintro e w2 ⟨rfl, hx2⟩
   have HX2 := Hd (HX1.out.trans hx2)
   have HU2 := Hd (HU.out.ext hx2)
   obtain ⟨lv, mt, ml, lvs, T, S, hM0⟩ := HST.out
   have HM := Hd (hM0.keep HX2.out.size (fun b hb => Below.block HX2.out b (hM0.lt b hb)))
   have HM0 := Hd hM0
   have c2 := HM.out.c2
   have hlk := run_lookup_of codedS Tryz.underlying68 HM.out.mS HM.out.nS s _ (zeroIv w2) true
   rw [HSV.out] at hlk
   clear hx2 hM0
   cases hls : look s S with
   | some id =>
    obtain ⟨i, r', rfl, hi, hk'⟩ := (HM.out.lS s id).1 hls
    have hrr : r = r' := by
     have hx : ∃ l', rowsP l' = some r' := by
      obtain ⟨-, hx⟩ := HM.out.inv.2.2 _ (List.mem_of_getElem? hi)
      rcases hx with ⟨l', -, h1, -⟩ | ⟨h1, -⟩
      ·exact ⟨l', h1⟩
      ·exact absurd (show (0 : Int) ≤ -1 from h1) (by omega)
     obtain ⟨l', hl'⟩ := hx
     exact keyK_inj HOKS.out.1 (rowsP_ok hl') (by rw [← HSK.out]; exact hk')
    have HF := Hd (OpPost.same HST.out HX2.out (show R = (((i : Int), 0), L) from by
     rw [HLE3.out]
     unfold putN
     rw [findN_at HM.out.inv.1 (by rw [hrr]; exact hi)]))
    rw [hls] at hlk
    have HLK := Hd (show (Instr.lookup 68 (.map (some ml)) (.string sv) true).run Tryz.prog w2 = .ok (.tuple #[.int .i64 i, .bool true]) w2 from hlk)
    clear hls hlk hi hk' hrr
    go_wp2_with (first | (refine wpList_lookup_run rfl 68 _ _ true rfl _ _ _ rfl rfl HLK.out ?_))
    go_ret2
    exact HF.out
   | none =>
    rw [hls] at hlk
    have HLK := Hd (show (Instr.lookup 68 (.map (some ml)) (.string sv) true).run Tryz.prog w2 = .ok (.tuple #[.int .i64 0, .bool false]) w2 from hlk)
    have HNO := Hd (show ∀ i : Nat, L[i]? ≠ some ⟨-1, 0, 0, 0, r⟩ from fun i hi => by
     have := (HM.out.lS s i).2 ⟨i, r, rfl, hi, HSK.out⟩
     rw [hls] at this; cases this)
    have HLS := Hd hls
    have HLE4 := Hd (show R = addN L ⟨-1, 0, 0, 0, r⟩ from by
     rw [HLE3.out]; unfold putN; rw [findN_none HNO.out])
    clear hls hlk
    by_cases hfull : 65536 ≤ L.length
    ·have HF := Hd (fun W (hW : Ext w2 W) => OpPost.same HST.out (HX2.out.trans hW) (show R = ((0, 200), L) from by
      rw [HLE4.out]; unfold addN; rw [if_pos hfull]))
     have HAD := Hd (addBig_any p L w2 ⟨_, _, _, _, _, _, HM.out⟩ (-1) 0 0 0 (.slice pu lu cu) hfull)
     clear hfull
     go_wp2_with (first | (refine wpList_lookup_run rfl 68 _ _ true rfl _ _ _ rfl rfl HLK.out ?_))
     refine HAD.out.mono ?_
     rintro e w3 ⟨rfl, hx3⟩
     have HX3 := Hd hx3
     clear hx3
     go_wp2_with fail
     go_ret2
     exact HF.out _ HX3.out
    ·have HLE5 := Hd (show R = (((L.length : Int), 0), L ++ [⟨-1, 0, 0, 0, r⟩]) from by rw [HLE4.out]; unfold addN; rw [if_neg hfull])
     have HAD := Hd (addS_any p L lv mt ml lvs T S ⟨-1, 0, 0, 0, r⟩ (.slice pu lu cu) w2 HM.out (by omega) rfl)
     have HFU := Hd hfull
     clear hfull
     go_wp2_with (first | (refine wpList_lookup_run rfl 68 _ _ true rfl _ _ _ rfl rfl HLK.out ?_))
     refine HAD.out.mono ?_
     rintro e w3 ⟨lv', rfl, ho, hc, hf, hat, hk, hcs⟩
     have hc2' := hcs 2 _ (by omega) HM.out.c2
     obtain ⟨w4, hup, hms, hg4⟩ := run_update_of codedS Tryz.underlying68 (w := w3) (b := ml) (l := S) (vv := vvI) (MapRaw.kept HM.out.mS (hk.block ml (MapRaw.lt HM.out.mS) (fun e => by
      rcases e with e | e
      ·exact HM.out.ne.2.1 e.symm
      ·exact HM.out.ne.2.2.2.2.2 e))) HM.out.nS s (L.length : Int)
     rw [HSV.out] at hup
     have HUP := Hd (show (Instr.mapUpdate 68 (.map (some ml)) (.string sv) (.int .i64 L.length)).run Tryz.prog w3 = .ok () w4 from hup)
     have HTO := Hd (show StTo F w w4 p (L ++ [⟨-1, 0, 0, 0, r⟩]) (fun b => F b ∨ (w.heap.size ≤ b ∧ b < w4.heap.size)) from by
      refine HM0.out.added (x := ⟨-1, 0, 0, 0, r⟩) (xv := .slice pu lu cu) (T' := T) (S' := store s (L.length : Int) S) HX2.out HU2.out ho hc hf hat hk hcs ((Keep.grown hg4).mono fun b _ hb => .inr hb) ?_ HM.out.nT hms (store_keys HM.out.nS) (fun k id => ?_) (fun y id => ?_) ?_
      ·have h1 : w3.heap[mt]? = w2.heap[mt]? := hk.block mt (MapRaw.lt HM.out.mT) (fun e => by
        rcases e with e | e
        ·exact HM.out.ne.1 e.symm
        ·exact HM.out.ne.2.2.2.2.1 e)
       have h3 := MapRaw.kept HM.out.mT h1
       exact MapRaw.kept h3 (hg4.block mt (MapRaw.lt h3) (fun e => HM.out.ne.2.2.1 (by injection e)))
      ·rw [HM.out.lT k id]
       constructor
       ·rintro ⟨i, e1, e2, e3⟩
        exact ⟨i, e1, getElem?_snoc.2 (.inl e2), e3⟩
       ·rintro ⟨i, e1, e2, e3⟩
        rcases getElem?_snoc.1 e2 with e2 | ⟨-, e2⟩
        ·exact ⟨i, e1, e2, e3⟩
        ·injection e2 with e4
         omega
      ·by_cases hy : y = s
       ·subst hy
        rw [look_store]
        constructor
        ·intro e
         injection e with e
         exact ⟨L.length, r, e.symm, getElem?_snoc.2 (.inr ⟨rfl, rfl⟩), HSK.out⟩
        ·rintro ⟨i, r', rfl, e2, e3⟩
         rcases getElem?_snoc.1 e2 with e2 | ⟨rfl, -⟩
         ·have := (HM.out.lS y i).2 ⟨i, r', rfl, e2, e3⟩
          rw [HLS.out] at this; cases this
         ·rfl
       ·rw [look_other _ hy, HM.out.lS y id]
        constructor
        ·rintro ⟨i, r', e1, e2, e3⟩
         exact ⟨i, r', e1, getElem?_snoc.2 (.inl e2), e3⟩
        ·rintro ⟨i, r', e1, e2, e3⟩
         rcases getElem?_snoc.1 e2 with e2 | ⟨-, e2⟩
         ·exact ⟨i, r', e1, e2, e3⟩
         ·injection e2 with _ _ _ _ e4
          exact absurd (Subtype.ext (by rw [e3, ← e4, HSK.out])) hy
      ·refine InvL.snoc HM.out.inv HNO.out (by have := HFU.out; omega) ⟨⟨by show (-128 : Int) ≤ -1 ∧ (-1 : Int) ≤ 127; omega, by show (0 : Int) ≤ 0 ∧ (0 : Int) ≤ 18446744073709551615; omega, by show (-9223372036854775808 : Int) ≤ 0 ∧ (0 : Int) ≤ 9223372036854775807; omega, by show (-9223372036854775808 : Int) ≤ 0 ∧ (0 : Int) ≤ 9223372036854775807; omega⟩, .inl ⟨l, rfl, HRS.out, ?_⟩⟩
       show r.length ≤ 64
       have := HLU.out
       omega)
     have hbn : L.length ≤ 65536 := HM.out.inv.2.1
     have HF := Hd (show OpPost F w p R (.returned (.tuple #[.int .i64 L.length, .int .i64 0])) w4 from by
      rw [HLE5.out]; exact ⟨rfl, _, HTO.out⟩)
     generalize L.length = n at *
     clear ho hc hf hat hk hcs hup hms hg4 c2
     go_wp2_with (first | (refine wpList_update_run rfl 68 _ _ _ (.inl rfl) _ _ _ _ rfl rfl rfl HUP.out ?_))
     go_ret2
     exact HF.out
end Go.Proofs.YtjjbdbklbghlhaaGreatDoor
