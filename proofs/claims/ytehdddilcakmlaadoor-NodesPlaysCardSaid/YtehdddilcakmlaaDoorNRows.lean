/- nodes.rows: rows in order, each once; or they are none. -/
import Derived.Test.YtehdddilcakmlaaDoorNCompact
namespace Go.Proofs.YtehdddilcakmlaaDoor
open Go.RowKit Go.Sort Go.Maps Go.Lib
set_option linter.unusedSimpArgs false

set_option maxHeartbeats 1000000 in
theorem fitsN_any (f n : Int) (w : World) (hf : -128 ≤ f ∧ f ≤ 127) (_hn : 0 ≤ n ∧ n ≤ 18446744073709551615) :
   Calls Tryd.prog 27 #[.int .i8 f, .int .u64 n] w fun e w' => e = .returned (.bool (fitsB f n)) ∧ Ext w w' := by
  have HW := Lib.hid (fun w => width_any f hf w)
  obtain ⟨k, hk, hk2⟩ := widthI_le f
  unfold fitsB
  rw [hk] at HW
  rw [hk, Int.toNat_natCast]
  clear hk
  go_enter Tryd.func27, Tryd.ntmps27
  go_wp2_with fail
  refine (HW.out _).mono ?_
  rintro e w1 ⟨rfl, hx⟩
  by_cases hz : (k : Int) = 0
  · have h1 : ((k : Int) == 0) = true := by simpa using hz
    have HF : Hid (fitsK k n = false) := by simp only [Hid, fitsK, h1, if_true]
    have hz2 : ¬ (0 : Int) < k := by omega
    go_wp2_with fail
    go_ret
    exact ⟨by rw [HF.out]; rfl, hx⟩
  · have h1 : ((k : Int) == 0) = false := by simpa using hz
    have hz2 : (0 : Int) < k := by omega
    go_wp2_with fail
    all_goals (go_ret; refine ⟨?_, hx⟩; simp_all [fitsK])

/-- rows so far: the slice of the call's own, the rows beside it -/
structure OutSt (lo : Nat) (w : World) (ov : Value) (m : List RowD) (vs : List Value) : Prop where
  o : w.ownsRow lo 52 1 ov m.length vs
  v : RowsV (fun b => lo ≤ b ∧ ov.ownBlock ≠ some b) w m vs
theorem OutSt.more {lo : Nat} {w w' : World} {ov : Value} {m : List RowD} {vs : List Value} (h : OutSt lo w ov m vs) (hx : Ext w w') : OutSt lo w' ov m vs := ⟨owns_ext h.o hx, h.v.ext hx⟩
theorem OutSt.put {lo : Nat} {w w' : World} {ov ov' : Value} {m : List RowD} {vs : List Value} {r : RowD} {u : Value} (h : OutSt lo w ov m vs) (hr : RowOn (fun b => lo ≤ b ∧ ov.ownBlock ≠ some b) w r u)
    (ho : w'.ownsRow lo 52 1 ov' (m.length + 1) (vs ++ [u])) (hg : w.grownBy w' ov.ownBlock) (hat : ov'.ownBlock = ov.ownBlock ∨ ov'.ownBlock = some w.heap.size) : OutSt lo w' ov' (m ++ [r]) (vs ++ [u]) := by
  refine ⟨by rw [List.length_append]; exact ho, ?_⟩
  have h1 := (h.v.snoc hr).mono (C := fun b => lo ≤ b ∧ ov.ownBlock ≠ some b ∧ b < w.heap.size) (fun b hlt hb => ⟨hb.1, hb.2, hlt⟩)
  have h2 := h1.keep hg.size (fun b hb hlt => hg.block b hlt (fun e => hb.2.1 e.symm))
  refine h2.mono fun b _ hb => ⟨hb.1, ?_⟩
  rcases hat with e | e
  · rw [e]; exact hb.2.1
  · rw [e]; intro e2; have := hb.2.2; injection e2 with e2; omega
def RowsPost (l : List RowD) (lo : Nat) (e : Ending) (w' : World) : Prop := match rowsP l with
  | none => e = .returned (.tuple #[.slice none 0 0, .bool false])
  | some m => ∃ u, e = .returned (.tuple #[u, .bool true]) ∧ RowsOn (fun b => lo ≤ b) w' m u
theorem RowsPost.no {l : List RowD} {lo : Nat} {w' : World} (h : rowsP l = none) : RowsPost l lo (.returned (.tuple #[.slice none 0 0, .bool false])) w' := by
  unfold RowsPost; rw [h]
theorem RowsPost.yes {l m : List RowD} {lo : Nat} {w' : World} {u : Value} (h : rowsP l = some m) (hu : RowsOn (fun b => lo ≤ b) w' m u) : RowsPost l lo (.returned (.tuple #[u, .bool true])) w' := by
  unfold RowsPost; rw [h]; exact ⟨u, rfl, hu⟩
theorem rowsP_none {l : List RowD} {r : RowD} (hr : r ∈ l) (h : rowP r = none) : rowsP l = none := by
  unfold rowsP; rw [mapM_none hr h]; rfl
theorem rowP_bad {r : RowD} {a : AcD} (ha : a ∈ r) (h : okA a = false) : rowP r = none := by
  unfold rowP
  rw [if_neg]
  intro h2
  have := List.all_eq_true.1 h2.1 a ha
  rw [h] at this; cases this
theorem zip_fst {α β : Type} : ∀ {l : List α} {m : List β}, m.length = l.length → (l.zip m).map Prod.fst = l
  | [], _, _ => rfl
  | x :: l, [], h => by simp at h
  | x :: l, y :: m, h => by rw [List.zip_cons_cons, List.map_cons, zip_fst (by simpa using h)]
theorem zip_snd {α β : Type} : ∀ {l : List α} {m : List β}, m.length = l.length → (l.zip m).map Prod.snd = m
  | [], [], _ => rfl
  | [], y :: m, h => by simp at h
  | x :: l, [], h => by simp at h
  | x :: l, y :: m, h => by rw [List.zip_cons_cons, List.map_cons, zip_snd (by simpa using h)]

theorem compactEmpty_any (p : Option Addr) (c : Nat) (w : World) :
    Calls Tryd.prog 37 #[.slice p 0 c, rowsFn] w fun e w' => e = .returned (.slice p 0 c) ∧ w = w' := by
  go_enter Tryd.func37, Tryd.ntmps37
  go_wp2_with fail
  go_ret
  exact ⟨rfl, rfl⟩

/-- the last step: what CompactFunc leaves -/
theorem compactOut_any {B : Nat → Prop} (l : List RowD) (vs : List Value) (u : Value) (lo : Nat) (w : World) (ho : w.ownsRow lo 52 1 u l.length vs) (hv : RowsV B w l vs) {lo0 : Nat} (hB : ∀ b, B b → lo0 ≤ b ∧ u.ownBlock ≠ some b) (hlo : lo0 ≤ lo) :
    Calls Tryd.prog 37 #[u, rowsFn] w fun e w' => ∃ u', e = .returned u' ∧ RowsOn (fun b => lo0 ≤ b) w' (ddR l) u' ∧ w.grownBy w' u.ownBlock := by
  rcases owns_range ho with ⟨h0, -⟩ | ⟨g, c, rfl, hb, hlt, hr⟩
  · have hl : l = [] := List.length_eq_zero_iff.1 h0
    subst hl
    obtain ⟨p, c, rfl, -, hcm⟩ := owns_form ho
    refine (compactEmpty_any p c w).mono ?_
    rintro e w' ⟨rfl, rfl⟩
    exact ⟨_, rfl, ⟨p, 0, c, rfl, rfl, Nat.zero_le _, hcm, .inl rfl⟩, ⟨rfl, rfl, rfl, Nat.le_refl _, fun _ _ _ => rfl⟩⟩
  · obtain ⟨p', c', he, hlc, hcm⟩ := owns_form ho
    cases he
    have hzl : (l.zip vs).length = l.length := by rw [List.length_zip, hv.1, Nat.min_self]
    have hmem : ∀ p ∈ l.zip vs, RowOn B w p.1 p.2 := fun p hp => by
      obtain ⟨i, hi, rfl⟩ := List.getElem_of_mem hp
      rw [List.getElem_zip]
      exact hv.2 i (by omega) (by rw [hv.1]; omega)
    have hfz : ∀ i, w.frozen? ⟨g, i, none⟩ = false := fun i => by
      rcases ho.2 with ⟨e0, _⟩ | ⟨g', cap', cur, e0, _, hg, _⟩
      · cases e0
      · cases e0; simp [World.frozen?, hg]
    have hC : Cells1 w g (l.zip vs) := ⟨fun i hi => by
      have := hr i _ (List.getElem?_eq_getElem (by rw [hv.1]; omega : i < vs.length))
      rw [Nat.zero_add] at this
      rw [this, List.getElem_zip], fun i _ => hfz i⟩
    have hBg : ¬ B g := fun h => (hB g h).2 rfl
    have hcon := compactRows_any (B := B) (l.zip vs) g l.length c w hzl.symm hlc hcm hC hBg hmem
    refine hcon.mono ?_
    rintro e w' ⟨rfl, hcells, hk⟩
    have hdd : (ddG qP (l.zip vs)).map Prod.fst = ddR l := by
      have h1 := ddG_map (fun (r s : RowD) => cmpR r s == 0) (Prod.fst : PairR → RowD) (l.zip vs)
      rw [zip_fst hv.1] at h1
      exact h1
    have hle : (ddG qP (l.zip vs)).length = (ddR l).length := by rw [← hdd, List.length_map]
    have hsub : ∀ m : List PairR, (ddG qP m).length ≤ m.length := fun m => by
      have go : ∀ (l : List PairR) (x : PairR), (ddGo qP x l).length ≤ l.length := by
        intro l
        induction l with
        | nil => intro x; simp [ddGo]
        | cons y l ih =>
          intro x
          rw [ddGo]
          have := ih y
          split <;> simp <;> omega
      cases m with
      | nil => simp [ddG]
      | cons x m => have := go m x; simp [ddG]; omega
    have hgrow : w.grownBy w' (some g) := Keep.grownBy hk
    refine ⟨_, rfl, ⟨some ⟨g, 0, none⟩, (ddG qP (l.zip vs)).length, c, rfl, hle, by have := hsub (l.zip vs); omega, hcm, .inr ⟨g, 0, (ddG qP (l.zip vs)).map Prod.snd, rfl, by omega, by have := hk.size; omega, by rw [List.length_map, hle], fun j v hv => ?_, fun i h h' => ?_⟩⟩, hgrow⟩
    · rw [List.getElem?_map] at hv
      obtain ⟨p, hp, rfl⟩ := Option.map_eq_some_iff.1 hv
      obtain ⟨hj, rfl⟩ := List.getElem?_eq_some_iff.1 hp
      rw [Nat.zero_add]
      exact hcells j hj
    · have hi : i < (ddG qP (l.zip vs)).length := by simpa using h'
      have e1 : (ddR l)[i] = ((ddG qP (l.zip vs))[i]).1 := by
        simp only [← hdd, List.getElem_map]
      rw [e1, List.getElem_map]
      have hm := ddG_mem qP (l.zip vs) _ (List.getElem_mem hi)
      exact ((hmem _ hm).keep hk.size (fun b hb hlt => hk.block b hlt (fun e => hBg (e ▸ hb)))).mono fun b _ hb => (hB b hb).1

set_option maxHeartbeats 8000000 in
set_option maxRecDepth 100000 in
theorem rows_any {B : Nat → Prop} (l : List RowD) (v : Value) (w : World) (h : RowsOn B w l v) (hl : l.length ≤ 20000) (hrl : ∀ r ∈ l, r.length ≤ 10000) :
    Calls Tryd.prog 21 #[v] w fun e w' => RowsPost l w.heap.size e w' ∧ Ext w w' := by
  have HV := Lib.hid h
  obtain ⟨p, len, cap, rfl, hlen, hlc, hcm, hr⟩ := h
  have HL := Lib.hid hlen
  have hlm : len ≤ 20000 := by omega
  have HRL := Lib.hid hrl
  have HR := Lib.hid (fun W (hW : Ext w W) i (hi : i < l.length) => show ∃ b o u, p = some ⟨b, o, none⟩ ∧ W.cell? ⟨b, o + i, none⟩ = some u ∧ RowOn B W (l[i]) u from by
    rcases hr with rfl | ⟨b, o, vs, hp, -, -, hvl, hrr, hrow⟩
    · simp at hi
    · have hi' : i < vs.length := by rw [hvl]; exact hi
      exact ⟨b, o, vs[i], hp, hW.later _ _ (hrr i _ (List.getElem?_eq_getElem hi')), (hrow i hi hi').ext hW⟩)
  clear hlen hr hrl
  go_enter Tryd.func21, Tryd.ntmps21
  go_wp2_with fail
  go_loopw [4, 13] (fun ov i wr => ∃ (j : Nat) (m : List RowD) (vs : List Value), j ≤ len ∧ i = .int .i64 j ∧ Hid ((l.take j).mapM rowP = some m) ∧ Hid (OutSt w.heap.size wr ov m vs) ∧ Hid (Ext w wr)) (fun _ i _ => len - (intOf i).toNat)
  case atStart => exact ⟨0, [], [], Nat.zero_le _, rfl, by show (l.take 0).mapM rowP = some []; rw [List.take_zero]; rfl, ⟨World.ownsRow_nil _ _ _ _, RowsV.nil⟩, Ext.refl _⟩
  case round =>
    obtain ⟨wo, rfl⟩ : ∃ wo : World, wo = wr := ⟨_, rfl⟩
    obtain ⟨j, m, vs, hj, rfl, hm, hst, hx⟩ := hrel
    have HML := Lib.hid (show m.length = (l.take j).length from mapM_len hm.out)
    by_cases hlt : j < len
    case neg =>
      have HMM := Lib.hid (show l.mapM rowP = some m from by
        have := hm.out
        rwa [List.take_of_length_le (by have := HL.out; omega)] at this)
      have hml : m.length ≤ 1000000 := by have := HML.out; rw [List.length_take] at this; omega
      have HRO := Lib.hid (show RowsOn (fun b => w.heap.size ≤ b ∧ b < wo.heap.size) wo m u4 from
        (RowsOn.of_owns (B := fun b => w.heap.size ≤ b) hst.out.o (hst.out.v.mono fun b _ hb => hb.1) (fun b hb => (owns_lt hst.out.o b hb).1)).mono fun b hlt hb => ⟨hb, hlt⟩)
      have HSO := Lib.hid (sortedR_any m u4 wo HRO.out hml (fun b hb => hb.2))
      obtain ⟨po, co, rfl, -⟩ := owns_form hst.out.o
      clear hm hst HRO
      go_wp2_with fail
      refine HSO.out.mono ?_
      rintro e w2 ⟨u, rfl, l', vs', ⟨hp1, hp2⟩, ho2, hv2, hx2⟩
      have HLS := Lib.hid (show l' = sortR m from rsorted_eq (mapM_ok HMM.out) hp1 hp2 (sortR_perm m) (sortR_sorted m))
      have HX2 := Lib.hid (hx.out.trans hx2)
      have HCO := Lib.hid (compactOut_any (lo0 := w.heap.size) l' vs' u wo.heap.size w2 ho2 hv2 (fun b hb => ⟨hb.1, fun e => by have := (owns_lt ho2 b e).1; omega⟩) hx.out.size)
      have HOB := Lib.hid (fun i (hi : u.ownBlock = some i) => (owns_lt ho2 i hi).1)
      obtain ⟨pu, cu, rfl, -⟩ := owns_form ho2
      clear hp1 hp2 ho2 hv2 hx2
      go_wp2_with fail
      refine HCO.out.mono ?_
      rintro e w3 ⟨u', rfl, hu3, hg3⟩
      have HF := Lib.hid (show rowsP l = some (ddR l') from by unfold rowsP; rw [HMM.out, HLS.out]; rfl)
      have HU3 := Lib.hid hu3
      have HX3 := Lib.hid (HX2.out.grownV hg3 (fun i hi => Nat.le_trans hx.out.size (HOB.out i hi)))
      clear hu3 hg3
      go_wp2_with fail
      go_ret2
      exact ⟨RowsPost.yes HF.out HU3.out, HX3.out⟩
    have hjl : j < l.length := by rw [← HL.out]; exact hlt
    obtain ⟨b, o, rv, hpe, hcell, hrow⟩ := HR.out wo hx.out j hjl
    have HIN := Lib.hid (show l[j] ∈ l from List.getElem_mem _)
    have HTk := Lib.hid (List.take_succ_eq_append_getElem hjl)
    have hrl := HRL.out _ HIN.out
    generalize l[j] = r at *
    have HROW := Lib.hid hrow
    have hrow2 := hrow
    obtain ⟨pr, lr, cr, rfl, hlr, hlcr, hcmr, hokr, hrr⟩ := hrow2
    have HLR := Lib.hid hlr
    have hlr2 : lr ≤ 10000 := by omega
    have HOKR := Lib.hid hokr
    have HRR := Lib.hid (show r = [] ∨ ∃ b o, pr = some ⟨b, o, none⟩ ∧ ∀ W, Ext wo W → W.rangeAt b o (flatA r) from
      hrr.imp id fun ⟨b, o, hp, _, _, h⟩ => ⟨b, o, hp, fun W hW => World.rangeAt.later hW.later h⟩)
    subst hpe
    clear hlr hokr hrr hrow
    go_wp2_with fail
    clear hcell
    go_loopw [19] (fun i wr => ∃ k : Nat, k ≤ lr ∧ i = .int .i64 k ∧ Hid (okR (r.take k) = true) ∧ Hid (Ext wo wr)) (fun i _ => lr - (intOf i).toNat)
    case atStart => exact ⟨0, Nat.zero_le _, rfl, by show okR (r.take 0) = true; simp [okR], Ext.refl _⟩
    case round =>
      obtain ⟨wn, rfl⟩ : ∃ wn : World, wn = wr := ⟨_, rfl⟩
      obtain ⟨k, hk, rfl, hok, hxn⟩ := hrel
      by_cases hlt2 : k < lr
      · have hkl : k < r.length := by rw [← HLR.out]; exact hlt2
        rcases HRR.out with h | ⟨br, or', rfl, hrr⟩
        · exfalso; subst h; simp at hkl
        obtain ⟨c0, c1, c2⟩ := acAt (hrr wn hxn.out) k hkl
        have HINA := Lib.hid (show r[k] ∈ r from List.getElem_mem _)
        have HTK := Lib.hid (List.take_succ_eq_append_getElem hkl)
        have hoka := HOKR.out _ HINA.out
        generalize r[k] = a at *
        obtain ⟨wS, hS⟩ : ∃ W : World, wn.alloc (.cells #[.int .i8 a.d, .int .i8 a.f, .int .u64 a.n] 54) = W := ⟨_, rfl⟩
        have xS : Ext wn wS := hS ▸ Ext.alloc _ _
        have e0 : wS.cell? ⟨wn.heap.size, 0, none⟩ = some (.int .i8 a.d) := by rw [← hS]; simp [go_sem]
        have e1 : wS.cell? ⟨wn.heap.size, 1, none⟩ = some (.int .i8 a.f) := by rw [← hS]; simp [go_sem]
        have e2 : wS.cell? ⟨wn.heap.size, 2, none⟩ = some (.int .u64 a.n) := by rw [← hS]; simp [go_sem]
        have HEQ := Lib.hid hS
        have HXS := Lib.hid (hxn.out.trans xS)
        have HFI := Lib.hid (fitsN_any a.f a.n wS hoka.2.1 hoka.2.2)
        have HOKA := Lib.hid (show okA a = (decide (a.d = 0) && fitsB a.f a.n) from by unfold okA; congr 1)
        clear hS xS hrr hoka
        go_upto_region 8 with (first | (refine wpList_store_new rfl 54 _ _ rfl _ #[.int .i8 a.d, .int .i8 a.f, .int .u64 a.n] rfl rfl (by kernel_rfl) rfl (by rfl) ?_))
        rw [HEQ.out]
        try simp only [Act.put]
        clear c0 c1 c2 HEQ
        by_cases hd0 : a.d = 0
        case neg =>
          have HF := Lib.hid (show rowsP l = none from rowsP_none HIN.out (rowP_bad HINA.out (by rw [HOKA.out]; simp [hd0])))
          have hd1 : (a.d != 0) = true := by simpa using hd0
          generalize a.d = y at *
          go_wp2_with fail
          go_ret2
          exact ⟨RowsPost.no HF.out, hx.out.trans HXS.out⟩
        rw [hd0] at e0
        have HOKB := Lib.hid (show okA a = fitsB a.f a.n from by rw [HOKA.out]; simp [hd0])
        clear hd0 HOKA
        go_wp2_with fail
        refine HFI.out.mono ?_
        rintro e w4 ⟨rfl, hx4⟩
        have HX4 := Lib.hid (HXS.out.trans hx4)
        clear e0 e1 e2 hx4
        cases hb : fitsB a.f a.n with
        | false =>
          have HF := Lib.hid (show rowsP l = none from rowsP_none HIN.out (rowP_bad HINA.out (by rw [HOKB.out, hb])))
          clear hb
          go_wp2_with fail
          go_ret2
          exact ⟨RowsPost.no HF.out, hx.out.trans HX4.out⟩
        | true =>
          have HOK2 := Lib.hid (show okR (r.take (k + 1)) = true from by
            have h1 := hok.out
            unfold okR at *
            rw [HTK.out, List.all_append, h1]
            simp [HOKB.out, hb])
          clear hb
          go_wp2_with fail
          go_roundw
          case rel => exact ⟨k + 1, by omega, by go_num, HOK2.out, HX4.out⟩
          case measure => simp [intOf]; omega
      · have HOKA := Lib.hid (show okR r = true from by
          have := hok.out
          rwa [List.take_of_length_le (by have := HLR.out; omega)] at this)
        have HSA := Lib.hid (sortedA_any r (.slice pr lr cr) wn (HROW.out.ext hxn.out) (by have := HLR.out; omega))
        clear hok
        go_wp2_with fail
        refine HSA.out.mono ?_
        rintro e w4 ⟨sv, rfl, s, hs, hos, hx4⟩
        have HSS := Lib.hid hs
        have HOS := Lib.hid hos
        have HX4 := Lib.hid (hxn.out.trans hx4)
        have hsl : s.length ≤ 10000 := by have := hs.1.length_eq; have := HLR.out; omega
        obtain ⟨ps, cs, rfl, hsc, hsm⟩ := owns_form hos
        obtain ⟨sn, hsn⟩ : ∃ sn, sn = s.length := ⟨_, rfl⟩
        have HSN := Lib.hid hsn
        rw [← hsn] at hsc hsl ⊢
        have HSR := Lib.hid (show (sn = 0) ∨ ∃ g, ps = some ⟨g, 0, none⟩ ∧ ∀ W, Ext w4 W → W.rangeAt g 0 (flatA s) from by
          rcases owns_range hos with ⟨h0, -⟩ | ⟨g, c, he, -, -, hr⟩
          · exact .inl (hsn.trans h0)
          · cases he
            exact .inr ⟨g, rfl, fun W hW => World.rangeAt.later hW.later hr⟩)
        clear hs hos hx4 hsn HSA
        go_wp2_with fail
        go_loopw [10] (fun i wr => ∃ k : Nat, (k + 1 ≤ sn ∨ k = 0) ∧ i = .int .i64 (k + 1 : Nat) ∧ Hid (∀ m (h : m < s.length), 0 < m → m < k + 1 → (s[m - 1]).f ≠ (s[m]).f) ∧ Hid (Ext w4 wr)) (fun i _ => sn + 1 - (intOf i).toNat)
        case atStart => exact ⟨0, .inr rfl, rfl, fun m h h0 h1 => by omega, Ext.refl _⟩
        case round =>
          obtain ⟨wq, rfl⟩ : ∃ wq : World, wq = wr := ⟨_, rfl⟩
          obtain ⟨q, hq, rfl, hne, hxq⟩ := hrel
          by_cases hlt3 : q + 1 < sn
          case neg =>
            have HRP := Lib.hid (show rowP r = some s from by
              have hn : (s.map AcD.f).Nodup := nodup_of_steps HSS.out.2 (fun m h h0 => hne.out m h h0 (by have := HSN.out; omega))
              have hn2 : (r.map AcD.f).Nodup := (HSS.out.1.map AcD.f).nodup_iff.1 hn
              unfold rowP
              rw [if_pos ⟨HOKA.out, hn2⟩]
              exact congrArg some (fsorted_eq hn2 (sortF_perm r) (sortF_sorted r) HSS.out.1 HSS.out.2))
            have HM2 := Lib.hid (show (l.take (j + 1)).mapM rowP = some (m ++ [s]) from by rw [HTk.out]; exact mapM_snoc HRP.out hm.out)
            have HXq := Lib.hid (HX4.out.trans hxq.out)
            have HSTq := Lib.hid (hst.out.more (HXq.out.trans (Ext.alloc wq (.cells #[.slice ps sn cs] 52))))
            have HROWs := Lib.hid (show RowOn (fun b => w.heap.size ≤ b ∧ u4.ownBlock ≠ some b) (wq.alloc (.cells #[.slice ps sn cs] 52)) s (.slice ps sn cs) from by
              have hxa : Ext w4 (wq.alloc (.cells #[.slice ps sn cs] 52)) := hxq.out.andAlloc _
              refine ⟨ps, sn, cs, rfl, HSN.out, hsc, hsm, fun x hx => ?_, ?_⟩
              · exact HOKR.out x (HSS.out.1.mem_iff.1 hx)
              · rcases owns_range HOS.out with ⟨h0, -⟩ | ⟨g, c, he, hb, hlt, hr⟩
                · exact .inl (List.length_eq_zero_iff.1 h0)
                · cases he
                  have h1 : wn.heap.size ≤ g := hb
                  have h2 := hx.out.size
                  have h3 := hxn.out.size
                  refine .inr ⟨g, 0, rfl, ⟨by omega, fun e => ?_⟩, by have := hxa.size; omega, World.rangeAt.later hxa.later hr⟩
                  have := (owns_lt hst.out.o g e).2
                  omega)
            have hmn : m.length ≤ 20000 := by have := HML.out; rw [List.length_take] at this; omega
            have hszq : w.heap.size ≤ (wq.alloc (.cells #[.slice ps sn cs] 52)).heap.size := ((hx.out.trans HXq.out).andAlloc _).size
            clear hne hxq hst hm
            go_wp2_with (at_builtin; refine wpList_append_E elemR rfl (.tmp 55) (.tmp 57) rfl w.heap.size u4 m.length vs rfl HSTq.out.o (some ⟨wq.heap.size, 0, none⟩) 1 1 [.slice ps sn cs] rfl rfl (.inr ⟨_, rfl, fun i u hu => by
              cases i with
              | zero => simp at hu; subst hu; simp [go_sem]
              | succ i => simp at hu⟩) (by intro u hu; simp at hu; subst hu; rfl) (by omega) (by omega) hszq ?_; intro v' w' o1 g1 t1)
            go_roundw
            case rel => exact ⟨j + 1, m ++ [s], vs ++ [.slice ps sn cs], by omega, by go_num, HM2.out, HSTq.out.put HROWs.out o1 g1 t1, ((hx.out.trans HXq.out).andAlloc _).grownV g1 (fun i hi => (owns_lt HSTq.out.o i hi).1)⟩
            case measure => simp [intOf]; omega
          have hql : q + 1 < s.length := by rw [← HSN.out]; exact hlt3
          obtain ⟨g, rfl, hrg⟩ := HSR.out.resolve_left (by omega)
          have hca := fun W (hW : Ext wq W) => (acAt (hrg W (hxq.out.trans hW)) (q + 1) hql).2.1
          have hcb := fun W (hW : Ext wq W) => (acAt (hrg W (hxq.out.trans hW)) q (by omega)).2.1
          simp only [Nat.zero_add] at hca hcb
          obtain ⟨fa, hfa⟩ : ∃ fa, fa = (s[q + 1]).f := ⟨_, rfl⟩
          obtain ⟨fb, hfb⟩ : ∃ fb, fb = (s[q]'(by omega)).f := ⟨_, rfl⟩
          rw [← hfa] at hca
          rw [← hfb] at hcb
          have HFA := Lib.hid hfa
          have HFB := Lib.hid hfb
          have HSX := Lib.hid (fun W (hW : Ext wq W) => (show (fun W => W.cell? ⟨g, (q + 1) * 3 + 1, none⟩ = some (.int .i8 fa) ∧ W.cell? ⟨g, q * 3 + 1, none⟩ = some (.int .i8 fb)) W from ⟨hca W hW, hcb W hW⟩))
          have hxd := Ext.drew wq
          have hadd : ((q : Int) + 1 - 1) = q := by omega
          clear hca hcb hfa hfb hrg
          go_upto_region 15 with fail
          refine wp_region_noPanic ?_
          refine wp_region_held_drew (S := (fun W => W.cell? ⟨g, (q + 1) * 3 + 1, none⟩ = some (.int .i8 fa) ∧ W.cell? ⟨g, q * 3 + 1, none⟩ = some (.int .i8 fb))) (by kernel_rfl) (HSX.out _ hxd) (fun hHeld => ?_)
          refine wpAnyH_take (i := 0) (v := .slice (some ⟨g, 0, none⟩) sn cs) rfl (by kernel_rfl) (by kernel_rfl) (by kernel_rfl) (fun _ _ _ h => h) (Or.inl ⟨by rfl, by (intro w hSw; (try dsimp only at hSw); go_simp; try (first | omega | (rw [IntKind.wrap_i64]; omega)))⟩) (by assumption) ?_
          try simp only [List.getElem_toArray, List.getElem_cons_zero, List.getElem_cons_succ, Act.put, List.setIfInBounds_toArray, List.set_cons_zero, List.set_cons_succ, Array.toArray_toList]
          refine wpAnyH_take (i := 1) (v := .int .i64 (q + 1 : Nat)) rfl (by kernel_rfl) (by kernel_rfl) (by kernel_rfl) (fun _ _ _ h => h) (Or.inl ⟨by rfl, by (intro w hSw; (try dsimp only at hSw); go_simp; try (first | omega | (rw [IntKind.wrap_i64]; omega)))⟩) (by assumption) ?_
          try simp only [List.getElem_toArray, List.getElem_cons_zero, List.getElem_cons_succ, Act.put, List.setIfInBounds_toArray, List.set_cons_zero, List.set_cons_succ, Array.toArray_toList]
          refine wpAnyH_take (i := 2) (v := .pointer (some ⟨g, (q + 1) * 3, none⟩)) rfl (by kernel_rfl) (by kernel_rfl) (by kernel_rfl) (fun _ _ _ h => h) (Or.inl ⟨by rfl, by (intro w hSw; (try dsimp only at hSw); go_simp; try (first | omega | (rw [IntKind.wrap_i64]; omega)))⟩) (by assumption) ?_
          try simp only [List.getElem_toArray, List.getElem_cons_zero, List.getElem_cons_succ, Act.put, List.setIfInBounds_toArray, List.set_cons_zero, List.set_cons_succ, Array.toArray_toList]
          refine wpAnyH_take (i := 3) (v := .pointer (some ⟨g, (q + 1) * 3 + 1, none⟩)) rfl (by kernel_rfl) (by kernel_rfl) (by kernel_rfl) (fun _ _ _ h => h) (Or.inl ⟨by rfl, by (intro w hSw; (try dsimp only at hSw); go_simp; try (first | omega | (rw [IntKind.wrap_i64]; omega)))⟩) (by assumption) ?_
          try simp only [List.getElem_toArray, List.getElem_cons_zero, List.getElem_cons_succ, Act.put, List.setIfInBounds_toArray, List.set_cons_zero, List.set_cons_succ, Array.toArray_toList]
          refine wpAnyH_take (i := 4) (v := .int .i8 fa) rfl (by kernel_rfl) (by kernel_rfl) (by kernel_rfl) (fun _ _ _ h => h) (Or.inl ⟨by rfl, by (intro w hSw; (try dsimp only at hSw); go_simp; try (first | omega | (rw [IntKind.wrap_i64]; omega)))⟩) (by assumption) ?_
          try simp only [List.getElem_toArray, List.getElem_cons_zero, List.getElem_cons_succ, Act.put, List.setIfInBounds_toArray, List.set_cons_zero, List.set_cons_succ, Array.toArray_toList]
          refine wpAnyH_take (i := 5) (v := .slice (some ⟨g, 0, none⟩) sn cs) rfl (by kernel_rfl) (by kernel_rfl) (by kernel_rfl) (fun _ _ _ h => h) (Or.inl ⟨by rfl, by (intro w hSw; (try dsimp only at hSw); go_simp; try (first | omega | (rw [IntKind.wrap_i64]; omega)))⟩) (by assumption) ?_
          try simp only [List.getElem_toArray, List.getElem_cons_zero, List.getElem_cons_succ, Act.put, List.setIfInBounds_toArray, List.set_cons_zero, List.set_cons_succ, Array.toArray_toList]
          refine wpAnyH_take (i := 6) (v := .int .i64 (q + 1 : Nat)) rfl (by kernel_rfl) (by kernel_rfl) (by kernel_rfl) (fun _ _ _ h => h) (Or.inl ⟨by rfl, by (intro w hSw; (try dsimp only at hSw); go_simp; try (first | omega | (rw [IntKind.wrap_i64]; omega)))⟩) (by assumption) ?_
          try simp only [List.getElem_toArray, List.getElem_cons_zero, List.getElem_cons_succ, Act.put, List.setIfInBounds_toArray, List.set_cons_zero, List.set_cons_succ, Array.toArray_toList]
          refine wpAnyH_take (i := 7) (v := .int .i64 q) rfl (by kernel_rfl) (by kernel_rfl) (by kernel_rfl) (fun _ _ _ h => h) (Or.inl ⟨by rfl, by (intro w hSw; (try dsimp only at hSw); go_simp; try (first | omega | (rw [IntKind.wrap_i64]; omega)))⟩) (by assumption) ?_
          try simp only [List.getElem_toArray, List.getElem_cons_zero, List.getElem_cons_succ, Act.put, List.setIfInBounds_toArray, List.set_cons_zero, List.set_cons_succ, Array.toArray_toList]
          refine wpAnyH_take (i := 8) (v := .pointer (some ⟨g, q * 3, none⟩)) rfl (by kernel_rfl) (by kernel_rfl) (by kernel_rfl) (fun _ _ _ h => h) (Or.inl ⟨by rfl, by (intro w hSw; (try dsimp only at hSw); go_simp; try (first | omega | (rw [IntKind.wrap_i64]; omega)))⟩) (by assumption) ?_
          try simp only [List.getElem_toArray, List.getElem_cons_zero, List.getElem_cons_succ, Act.put, List.setIfInBounds_toArray, List.set_cons_zero, List.set_cons_succ, Array.toArray_toList]
          refine wpAnyH_take (i := 9) (v := .pointer (some ⟨g, q * 3 + 1, none⟩)) rfl (by kernel_rfl) (by kernel_rfl) (by kernel_rfl) (fun _ _ _ h => h) (Or.inl ⟨by rfl, by (intro w hSw; (try dsimp only at hSw); go_simp; try (first | omega | (rw [IntKind.wrap_i64]; omega)))⟩) (by assumption) ?_
          try simp only [List.getElem_toArray, List.getElem_cons_zero, List.getElem_cons_succ, Act.put, List.setIfInBounds_toArray, List.set_cons_zero, List.set_cons_succ, Array.toArray_toList]
          refine wpAnyH_take (i := 10) (v := .int .i8 fb) rfl (by kernel_rfl) (by kernel_rfl) (by kernel_rfl) (fun _ _ _ h => h) (Or.inl ⟨by rfl, by (intro w hSw; (try dsimp only at hSw); go_simp; try (first | omega | (rw [IntKind.wrap_i64]; omega)))⟩) (by assumption) ?_
          try simp only [List.getElem_toArray, List.getElem_cons_zero, List.getElem_cons_succ, Act.put, List.setIfInBounds_toArray, List.set_cons_zero, List.set_cons_succ, Array.toArray_toList]
          refine wpAnyH_take (i := 11) (v := .bool (fa == fb)) rfl (by kernel_rfl) (by kernel_rfl) (by kernel_rfl) (fun _ _ _ h => h) (Or.inl ⟨by rfl, by (intro w hSw; (try dsimp only at hSw); go_simp; try (first | omega | (rw [IntKind.wrap_i64]; omega)))⟩) (by assumption) ?_
          try simp only [List.getElem_toArray, List.getElem_cons_zero, List.getElem_cons_succ, Act.put, List.setIfInBounds_toArray, List.set_cons_zero, List.set_cons_succ, Array.toArray_toList]
          refine wpAnyH_done (by kernel_rfl) ?_ _
          refine NoPanic.normal ?_
          clear hHeld
          by_cases hfe : fa = fb
          · have HF := Lib.hid (show rowsP l = none from rowsP_none HIN.out (by
              unfold rowP
              rw [if_neg]
              intro h2
              have hn : (s.map AcD.f).Nodup := (HSS.out.1.map AcD.f).nodup_iff.2 h2.2
              exact not_nodup (m := q) hql (by rw [← HFA.out, ← HFB.out]; exact hfe.symm) hn))
            have hfe2 : (fa == fb) = true := by simpa using hfe
            rw [hfe2]
            clear hfe hfe2
            go_wp2_with fail
            go_ret2
            exact ⟨RowsPost.no HF.out, hx.out.trans (HX4.out.trans (hxq.out.trans hxd))⟩
          · have HN := Lib.hid (show ∀ m (h : m < s.length), 0 < m → m < q + 1 + 1 → (s[m - 1]).f ≠ (s[m]).f from fun m h h0 h1 => by
              rcases Nat.lt_succ_iff_lt_or_eq.1 h1 with h2 | rfl
              · exact hne.out m h h0 h2
              · show (s[q]'(by omega)).f ≠ (s[q + 1]).f
                rw [← HFA.out, ← HFB.out]
                exact fun e => hfe e.symm)
            have hfe2 : (fa == fb) = false := by simpa using hfe
            rw [hfe2]
            clear hfe hfe2 hne
            go_wp2_with fail
            go_roundw
            case rel => exact ⟨q + 1, .inl (by omega), by go_num, HN.out, hxq.out.trans hxd⟩
            case measure => simp [intOf]; omega
end Go.Proofs.YtehdddilcakmlaaDoor
