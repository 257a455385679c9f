/- DiagramSame walked. -/
import Derived.Test.YtdijlnibmeapbaaGreatDoorMU
import Derived.Test.YtdijlnibmeapbaaGreatDoorMS
import Derived.Test.YtdijlnibmeapbaaGreatDoorMD
import Derived.Test.YtdijlnibmeapbaaGreatDoorMO
import Derived.Test.YtdijlnibmeapbaaGreatDoorMB
import Derived.Carry
import Derived.Test.YtdijlnibmeapbaaGreatDoorCards
import Derived.Test.YtdijlnibmeapbaaGreatDoorTie
import Derived.SevenTiedAt
namespace Go.Proofs.YtdijlnibmeapbaaGreatDoor
open Go.RowKit Go.Sort Go.Maps Go.Lib
set_option linter.unusedSimpArgs false

theorem thenT_at {L : List NdD} {a b : Nat} (ha : a < L.length) (hb : b < L.length) : thenT L (a : Int) (b : Int) = outD (thenP (a + 1) L a b) := by
  unfold thenT runIds
  have h : okIds L [(a : Int), (b : Int)] = true := by
    unfold okIds
    simp [getP_in ha, getP_in hb]
  rw [if_pos h, Int.toNat_natCast, Int.toNat_natCast]
theorem leafP_of {L : List NdD} {l : List RowD} {o : Nat} {M : List NdD} (h : leafR L l = ((0, o), M)) : leafP L l = (((o : Int), 0), M) := by
  have h1 : (leafP L l).1.2 = 0 := congrArg (fun R : Out => R.1.1) h
  have h2 : (leafP L l).1.1.toNat = o := congrArg (fun R : Out => R.1.2) h
  have h3 : (leafP L l).2 = M := congrArg (fun R : Out => R.2) h
  have h4 := leafP_nn h1
  rw [h2] at h4
  exact Prod.ext (Prod.ext h4 h1) h3
structure SameFacts (L1 : List NdD) (x o e : Nat) (L2 L3 M : List NdD) : Prop where
  one : leafP L1 [[]] = (((o : Int), 0), L2)
  uxx : unionT L2 (x : Int) (x : Int) = (((x : Int), 0), L2)
  nil : leafP L2 [] = (((e : Int), 0), L3)
  uxe : unionT L3 (x : Int) (e : Int) = (((x : Int), 0), L3)
  tox : thenT L3 (o : Int) (x : Int) = (((x : Int), 0), L3)
  txo : thenT L3 (x : Int) (o : Int) = (((x : Int), 0), M)
  bd : x ≤ 65536 ∧ o ≤ 65536 ∧ e ≤ 65536
theorem same_facts (l : List PartD) (h0 : (madeT [] l).1.2 = 0) : ∃ x o e L2 L3 M, (madeT [] l).1.1 = ((x : Nat) : Int) ∧ SameFacts (madeT [] l).2 x o e L2 L3 M := by
  have hs := madeT_stands Gd.nil l
  obtain ⟨hlen, hdp⟩ := madeT_len Gd.nil l (by simp) h0
  obtain ⟨x, hx, hxl⟩ := hs.id h0
  have hG1 := hs.gd
  rw [hx, Int.toNat_natCast] at hdp
  generalize (madeT [] l).2 = L1 at *
  simp only [List.length_nil] at hlen
  obtain ⟨o, ho, hol, hon⟩ := made_one hG1 (by omega)
  have hf1 := leafR_fine hG1.o [[]]
  have hl1 := leafR_len L1 [[]]
  have hG2 := (leafR_steps L1 [[]]).good hG1
  generalize (leafR L1 [[]]).2 = L2 at *
  rw [ho] at hf1
  have hp1 : L1 <+: L2 := hf1.pre
  obtain ⟨e, he, hel, hen⟩ := made_nil hG2 (by omega)
  have hf2 := leafR_fine hG2.o []
  have hl2 := leafR_len L2 []
  have hG3 := (leafR_steps L2 []).good hG2
  generalize (leafR L2 []).2 = L3 at *
  rw [he] at hf2
  have hp2 : L2 <+: L3 := hf2.pre
  have hx2 : x < L2.length := Nat.lt_of_lt_of_le hxl hp1.length_le
  have hx3 : x < L3.length := Nat.lt_of_lt_of_le hx2 hp2.length_le
  have ho3 : o < L3.length := Nat.lt_of_lt_of_le hol hp2.length_le
  have hon3 : nodeP L3 o = ⟨-1, 0, 0, 0, [[]]⟩ := by rw [nodeP_pre hp2 hol]; exact hon
  obtain ⟨M, m1, m2, m3, m4⟩ := then_oneR (L0 := L3) (o := o) hon3 ho3 (k := x + 1) (d := 5) (x := x) (L := L3) hG3 (List.prefix_refl _) hx3 (by omega) (hdp.pre hG1.o (hp1.trans hp2) hxl) (by rw [show (2 : Nat) ^ 5 = 32 from by decide]; omega)
  refine ⟨x, o, e, L2, L3, M, hx, ⟨leafP_of ho, ?_, leafP_of he, ?_, ?_, ?_, by omega⟩⟩
  · rw [unionT_at hx2 hx2, unionP, if_pos rfl]; rfl
  · rw [unionT_at hx3 hel, union_nilR hG3 hen hx3 (by omega)]; rfl
  · rw [thenT_at ho3 hx3, then_oneL hG3 hon3 hen hel hx3]; rfl
  · rw [thenT_at hx3 ho3, m1]; rfl

set_option maxHeartbeats 16000000 in
set_option maxRecDepth 100000 in
theorem lawSame_any (l : List PartD) (v : Value) (w : World) (hv : PartsAt AnyB w l v) (ht : Tb w) :
    Calls Tryz.prog 5 #[v] w fun e w' => e = .returned (.bool true) ∧ Ext w w' := by
  have HT := Lib.hid ht
  have HP := Lib.hid hv
  obtain ⟨q, n, c, rfl, -⟩ := id hv
  clear hv ht
  go_enter Tryz.func5, Tryz.ntmps5
  go_wp2_with fail
  refine (newS_any w).mono ?_
  rintro e w1 ⟨p, F1, rfl, hst, hF1, hx1⟩
  have HS1 := Lib.hid (show SD F1 w1 p [] from ⟨hst, InvO.nil, w, HT.out, hx1, hF1⟩)
  have hnF : ∀ b, b < w.heap.size → ¬ F1 b := fun b hb hF => by have := hF1 b hF; omega
  have HMA := Lib.hid (made_any p [] l (.slice q n c) w1 HS1.out (by
    obtain ⟨p2, n2, c2, he, hn2, hnc2, hcm2, hat⟩ := HP.out
    refine ⟨p2, n2, c2, he, hn2, hnc2, hcm2, fun i hi => ?_⟩
    obtain ⟨ho, b, o, q3, k, e, e1, -, e3, e4, e5, e6, e7⟩ := hat i hi
    exact ⟨ho, b, o, q3, k, e, e1, hnF b e3, Nat.lt_of_lt_of_le e3 hx1.size, hx1.later _ _ e4, hx1.later _ _ e5, hx1.later _ _ e6, (e7.mono (C := fun b => ¬ F1 b) (fun b hb _ => hnF b hb)).ext hx1⟩))
  have H1 := Lib.hid (And.intro hF1 hx1)
  have HSTD := Lib.hid (madeT_stands Gd.nil l)
  have HFT := Lib.hid (fun hr => madeT_fit Gd.nil l hr (by simp))
  have HFA := Lib.hid (same_facts l)
  obtain ⟨MT, hMT⟩ : ∃ MT, MT = madeT [] l := ⟨_, rfl⟩
  rw [← hMT] at HMA HSTD HFT HFA
  clear hst hF1 hx1 hnF hMT
  go_wp2_with fail
  refine HMA.out.mono ?_
  intro e w2 hp
  obtain rfl := hp.1
  obtain ⟨F2, hs2, hF2, hx2⟩ := hp.ext0 H1.out.2 H1.out.1
  have HS2 := Lib.hid hs2
  have H2 := Lib.hid (And.intro hF2 hx2)
  have HBG := Lib.hid (lbig_any MT.1.2 l (.slice q n c) w2 (HP.out.ext hx2))
  clear hp hs2 hF2 hx2 HMA
  go_wp2_with fail
  refine HBG.out.mono ?_
  rintro e w3 ⟨rfl, rfl⟩
  clear HBG
  by_cases r0 : MT.1.2 = 0
  case neg =>
    have hc200 : MT.1.2 = 200 := HSTD.out.code.resolve_left r0
    have hbig : 64 < rowsN (l.take 5) := by
      rcases Nat.lt_or_ge 64 (rowsN (l.take 5)) with h9 | h9
      · exact h9
      · exact absurd (HFT.out h9).code r0
    have hb : (MT.1.2 == 200 && decide (64 < rowsN (l.take 5))) = true := by rw [hc200]; simp [hbig]
    have HWK := Lib.hid (wakes21_any w2 (HT.out.ext H2.out.2))
    rw [hb]
    clear r0 hc200 hbig hb
    go_wp2_with fail
    refine HWK.out.mono ?_
    rintro e wz ⟨rfl, hxz⟩
    have HFZ := Lib.hid (H2.out.2.trans hxz)
    clear hxz
    go_wp2_with fail
    go_ret
    exact ⟨rfl, HFZ.out⟩
  have hb : (MT.1.2 == 200 && decide (64 < rowsN (l.take 5))) = false := by rw [r0]; rfl
  rw [hb]
  obtain ⟨x, o, e0, L2, L3, M, hx, hfa⟩ := HFA.out r0
  have HA := Lib.hid hfa
  have HBD := Lib.hid hfa.bd
  rw [hx, r0]
  obtain ⟨L1, hL1⟩ : ∃ L1, L1 = MT.2 := ⟨_, rfl⟩
  rw [← hL1] at HS2 HA
  obtain ⟨wa, ha⟩ : ∃ W : World, w2.alloc (.cells #[] 61) = W := ⟨_, rfl⟩
  obtain ⟨wb, hb2⟩ : ∃ W : World, wa.alloc (.cells #[.slice (some ⟨w2.heap.size, 0, none⟩) 0 0] 44) = W := ⟨_, rfl⟩
  have xa : Ext w2 wa := ha ▸ Ext.alloc _ _
  have xb : Ext wa wb := hb2 ▸ Ext.alloc _ _
  have sa : wa.heap.size = w2.heap.size + 1 := by rw [← ha, World.size_alloc]
  have sb : wb.heap.size = wa.heap.size + 1 := by rw [← hb2, World.size_alloc]
  have hcb : wb.cell? ⟨w2.heap.size + 1, 0, none⟩ = some (.slice (some ⟨w2.heap.size, 0, none⟩) 0 0) := by rw [← hb2, ← sa]; simp [go_sem]
  have HLF := Lib.hid (leafD_any p L1 [[]] (.slice (some ⟨w2.heap.size + 1, 0, none⟩) 1 1) wb (HS2.out.ext (xa.trans xb)) (rowsOneNil (B := AnyB) wb (w2.heap.size + 1) _ (by omega) trivial hcb) (by simp) (fun r hr => by simp at hr; subst hr; simp))
  rw [HA.out.one] at HLF
  have HEQ := Lib.hid (And.intro ha hb2)
  have HXB := Lib.hid (H2.out.2.trans (xa.trans xb))
  clear ha hb2 xa xb sa sb hcb hb hx r0 hL1 hfa HSTD HFT HFA
  go_wp2_with fail
  rw [HEQ.out.1, HEQ.out.2]
  refine HLF.out.mono ?_
  intro e w4 hp
  obtain rfl := hp.1
  obtain ⟨F4, hs4, hF4, hx4⟩ := hp.ext0 HXB.out H2.out.1
  have HS4 := Lib.hid hs4
  have H4 := Lib.hid (And.intro hF4 hx4)
  have HC := Lib.hid (dUnion_any p L2 (x : Int) (x : Int) w4 hs4 (by have := HBD.out; omega) (by have := HBD.out; omega))
  rw [HA.out.uxx] at HC
  clear hp hs4 hF4 hx4 HLF
  dsimp only
  go_wp2_with fail
  refine HC.out.mono ?_
  intro e w5 hp
  obtain rfl := hp.1
  obtain ⟨F5, hs5, hF5, hx5⟩ := hp.ext0 H4.out.2 H4.out.1
  have H5 := Lib.hid (And.intro hF5 hx5)
  have HMU := Lib.hid (lmust_any p L2 w5 hs5)
  unfold MustId at HMU
  rw [HA.out.nil] at HMU
  clear hp hs5 hF5 hx5 HC
  dsimp only
  go_wp2_with fail
  refine HMU.out.mono ?_
  rintro e w6 ⟨rfl, F6, hs6, hsub6, hk6⟩
  have hF6 : ∀ b, F6 b → w.heap.size ≤ b := fun b hb => (hsub6 b hb).elim (H5.out.1 b) (fun e => Nat.le_trans H5.out.2.size e)
  have hx6 : Ext w w6 := H5.out.2.andKeep hk6 H5.out.1
  have H6 := Lib.hid (And.intro hF6 hx6)
  have HC := Lib.hid (dUnion_any p L3 (x : Int) (e0 : Int) w6 hs6 (by have := HBD.out; omega) (by have := HBD.out; omega))
  rw [HA.out.uxe] at HC
  clear hs6 hsub6 hk6 hF6 hx6 HMU
  dsimp only
  go_wp2_with fail
  refine HC.out.mono ?_
  intro e w7 hp
  obtain rfl := hp.1
  obtain ⟨F7, hs7, hF7, hx7⟩ := hp.ext0 H6.out.2 H6.out.1
  have H7 := Lib.hid (And.intro hF7 hx7)
  have HC7 := Lib.hid (dThen_any p L3 (o : Int) (x : Int) w7 hs7 (by have := HBD.out; omega) (by have := HBD.out; omega))
  rw [HA.out.tox] at HC7
  clear hp hs7 hF7 hx7 HC
  dsimp only
  go_wp2_with fail
  refine HC7.out.mono ?_
  intro e w8 hp
  obtain rfl := hp.1
  obtain ⟨F8, hs8, hF8, hx8⟩ := hp.ext0 H7.out.2 H7.out.1
  have H8 := Lib.hid (And.intro hF8 hx8)
  have HC8 := Lib.hid (dThen_any p L3 (x : Int) (o : Int) w8 hs8 (by have := HBD.out; omega) (by have := HBD.out; omega))
  rw [HA.out.txo] at HC8
  clear hp hs8 hF8 hx8 HC7
  dsimp only
  go_wp2_with fail
  refine HC8.out.mono ?_
  intro e w9 hp
  obtain rfl := hp.1
  obtain ⟨F9, hs9, hF9, hx9⟩ := hp.ext0 H8.out.2 H8.out.1
  have HWK := Lib.hid (wakes21_any w9 (HT.out.ext hx9))
  have HX9 := Lib.hid hx9
  clear hp hs9 hF9 hx9 HC8
  dsimp only
  have hxx : (((x : Int)) == (x : Int)) = true := by simp
  go_wp2_with fail
  refine HWK.out.mono ?_
  rintro e wz ⟨rfl, hxz⟩
  have HFZ := Lib.hid (HX9.out.trans hxz)
  clear hxz
  go_wp2_with fail
  go_ret
  exact ⟨rfl, HFZ.out⟩
end Go.Proofs.YtdijlnibmeapbaaGreatDoor
/- The arguments of law 21 with their bounds: parts. -/
namespace Go.Proofs.YtdijlnibmeapbaaGreatDoor
open Go.ChangeShapes Go.WideShapes Go.ChangeAt Go.RowKit Go.Deep
set_option linter.unusedSimpArgs false

section
variable {H : Type} {enc : TypeId × Value → H} {w : World} {spare : Nat → Bool} {held : Bool}
/-- a slice, its elements' cells, its bounds -/
theorem open_slb {E e : TypeId} {k : Nat} (hu : Tryz.prog.underlying E = some (.slice e)) (hk : Tryz.prog.cellsOf e = k) (hk0 : 0 < k) (fuel : Nat) (c : Value) (d : DataW H) (ps : List MemPlace) (hw : Wt E d)
    (h : DataW.trod enc Tryz.prog w 0 spare held fuel E [c] = some (d, ps)) : ∃ p len cap, c = .slice p len cap ∧ len ≤ cap ∧ cap ≤ 9223372036854775807 ∧ len * Tryz.prog.bytesOf e ≤ maxB ∧ (len = 0 ∨ ∃ b o, p = some ⟨b, o, none⟩ ∧ b < w.heap.size ∧
      ∀ i, i < len → ∃ cs m d ps, cs.length = k ∧ w.rangeAt b (o + i * k) cs ∧ DataW.trod enc Tryz.prog w 0 spare held m e cs = some (d, ps) ∧ Wt e d) := by
  rcases DataW.trod_slice hu h with ⟨h3, -⟩ | ⟨a, len, cap, elems, rest, m, rfl, h3, hd, -, hlc, hcm, hel, hat, -⟩
  · simp only [List.cons.injEq, and_true] at h3
    subst h3
    exact ⟨none, 0, 0, rfl, Nat.le_refl _, by omega, by simp, .inl rfl⟩
  · simp only [List.cons.injEq, and_true] at h3
    subst h3
    rw [maxLen_eq] at hcm
    have hd1 : d = .slice (elems.map (·.1)) (rest.map (·.1)) := (Prod.mk.inj hd).1
    subst hd1
    have hlw : len * Tryz.prog.bytesOf e ≤ maxB := by
      have h1 := hw (((elems.map (·.1)).length + (rest.map (·.1)).length) * Tryz.prog.bytesOf e) (by simp [DataW.weights, hu])
      rw [List.length_map, List.length_map, hel] at h1
      exact Nat.le_trans (Nat.mul_le_mul_right _ (by omega)) h1
    refine ⟨some a, len, cap, rfl, hlc, hcm, hlw, ?_⟩
    by_cases hz : len = 0
    · exact .inl hz
    · have h0' := hat 0 (by omega)
      rw [List.getElem?_eq_getElem (by omega), Option.bind_eq_some_iff] at h0'
      obtain ⟨cs0, hc0, -⟩ := h0'
      obtain ⟨-, hcl0, hce0⟩ := World.cells?_some hc0
      rw [hk] at hcl0 hce0
      have h00 := hce0 0 hk0
      rw [List.getElem?_eq_getElem (by omega)] at h00
      have ha : a = ⟨a.block, a.off, none⟩ := by simpa [Addr.add] using cell_nospot h00
      refine .inr ⟨a.block, a.off, by rw [← ha], ?_, fun i hi => ?_⟩
      · have h01 := World.block_lt_of_cell? _ _ h00
        simpa [Addr.add] using h01
      · have hi' := hat i hi
        have hie : i < elems.length := by omega
        rw [List.getElem?_eq_getElem hie, Option.bind_eq_some_iff] at hi'
        obtain ⟨cs', hc, ht⟩ := hi'
        obtain ⟨-, hcl, hce⟩ := World.cells?_some hc
        rw [hk] at hcl hce
        refine ⟨cs', m, (elems[i]).1, (elems[i]).2, hcl, fun j v hjv => ?_, ht, fun n hn => ?_⟩
        · have hj : j < k := by
            have := (List.getElem?_eq_some_iff.1 hjv).1
            omega
          have := hce j hj
          rw [ha, Addr.add_mid, Addr.add_mid] at this
          rw [this]
          exact hjv
        · refine hw n ?_
          have := wt_all (l := elems.map (·.1)) (i := i) (d := (elems[i]).1) (e := e) (by simp [hie]) n hn
          simp only [DataW.weights, hu, List.mem_cons, List.mem_append]
          exact .inr (.inl this)
set_option maxRecDepth 4000 in
theorem open_rowb (fuel : Nat) (c : Value) (d : DataW H) (ps : List MemPlace) (hw : Wt 44 d) (h : DataW.trod enc Tryz.prog w 0 spare held fuel 44 [c] = some (d, ps)) : ∃ r : RowD, RowOn AnyB w r c ∧ r.length ≤ 8796093021952 := by
  obtain ⟨p, len, cap, rfl, hlc, hcm, hlm, hh⟩ := open_slb Tryz.underlying44 (k := 3) (by kernel_rfl) (by omega) fuel c d ps hw h
  rw [show Tryz.prog.bytesOf 61 = 16 from by kernel_rfl] at hlm
  have hmb : maxB = 140737488351232 := rfl
  rcases hh with rfl | ⟨b, o, rfl, hb, hat⟩
  · exact ⟨[], ⟨p, 0, cap, rfl, rfl, hlc, hcm, (fun _ h => by cases h), .inl rfl⟩, by simp⟩
  · have hx : ∀ i, i < len → ∃ x : AcD, w.rangeAt b (o + i * 3) x.cs ∧ x.ok := fun i hi => by
      obtain ⟨cs, m, d, ps, -, hr, ht, -⟩ := hat i hi
      obtain ⟨x, rfl, hok⟩ := open_act m cs d ps ht
      exact ⟨x, hr, hok⟩
    let l : List AcD := List.ofFn fun i : Fin len => Classical.choose (hx i.1 i.2)
    have hll : l.length = len := by simp [l]
    have hl : ∀ i (h : i < l.length), w.rangeAt b (o + i * 3) (l[i]).cs ∧ (l[i]).ok := fun i hi => by
      have hi' : i < len := by omega
      have e : l[i] = Classical.choose (hx i hi') := by simp [l]
      rw [e]
      exact Classical.choose_spec (hx i hi')
    refine ⟨l, ⟨_, len, cap, rfl, hll.symm, hlc, hcm, fun x hx => ?_, .inr ⟨b, o, rfl, trivial, hb, ?_⟩⟩, by omega⟩
    · obtain ⟨i, hi, rfl⟩ := List.getElem_of_mem hx
      exact (hl i hi).2
    · exact range_parts (enc := AcD.cs) (fun _ => rfl) l o (fun i hi => (hl i hi).1)
set_option maxRecDepth 4000 in
theorem open_rowsb (fuel : Nat) (c : Value) (d : DataW H) (ps : List MemPlace) (hw : Wt 45 d) (h : DataW.trod enc Tryz.prog w 0 spare held fuel 45 [c] = some (d, ps)) : ∃ r : List RowD, RowsOn AnyB w r c ∧ r.length ≤ 5864062014634 ∧ ∀ x ∈ r, x.length ≤ 8796093021952 := by
  obtain ⟨p, len, cap, rfl, hlc, hcm, hlm, hh⟩ := open_slb Tryz.underlying45 (k := 1) (by kernel_rfl) (by omega) fuel c d ps hw h
  rw [show Tryz.prog.bytesOf 44 = 24 from by kernel_rfl] at hlm
  have hmb : maxB = 140737488351232 := rfl
  rcases hh with rfl | ⟨b, o, rfl, hb, hat⟩
  · exact ⟨[], ⟨p, 0, cap, rfl, rfl, hlc, hcm, .inl rfl⟩, by simp, (fun _ h => by cases h)⟩
  · have hx : ∀ i, i < len → ∃ x : RowD × Value, w.rangeAt b (o + i * 1) [x.2] ∧ RowOn AnyB w x.1 x.2 ∧ x.1.length ≤ 8796093021952 := fun i hi => by
      obtain ⟨cs, m, d, ps, hl, hr, ht, hwd⟩ := hat i hi
      match cs, hl with
      | [c], _ =>
      obtain ⟨x, hx, hm⟩ := open_rowb m c d ps hwd ht
      exact ⟨(x, c), hr, hx, hm⟩
    let l : List (RowD × Value) := List.ofFn fun i : Fin len => Classical.choose (hx i.1 i.2)
    have hll : l.length = len := by simp [l]
    have hl : ∀ i (h : i < l.length), w.rangeAt b (o + i * 1) [(l[i]).2] ∧ RowOn AnyB w (l[i]).1 (l[i]).2 ∧ (l[i]).1.length ≤ 8796093021952 := fun i hi => by
      have hi' : i < len := by omega
      have e : l[i] = Classical.choose (hx i hi') := by simp [l]
      rw [e]
      exact Classical.choose_spec (hx i hi')
    refine ⟨l.map (·.1), ⟨_, len, cap, rfl, by rw [List.length_map]; exact hll.symm, hlc, hcm, .inr ⟨b, o, l.map (·.2), rfl, trivial, hb, by simp, ?_, fun i h1 h2 => ?_⟩⟩, by rw [List.length_map]; omega, fun r hr => ?_⟩
    · rw [List.map_eq_flatMap]
      exact range_parts (w := w) (b := b) (k := 1) (enc := fun x : RowD × Value => [x.2]) (fun _ => rfl) l o (fun i hi => (hl i hi).1)
    · have := (hl i (by simpa using h1)).2.1
      simpa using this
    · obtain ⟨i, hi, rfl⟩ := List.getElem_of_mem hr
      have := (hl i (by simpa using hi)).2.2
      simpa using this
set_option maxRecDepth 4000 in
theorem open_part (fuel : Nat) (cs : List Value) (d : DataW H) (ps : List MemPlace) (hw : Wt 58 d) (h : DataW.trod enc Tryz.prog w 0 spare held fuel 58 cs = some (d, ps)) : ∃ (x : PartD) (q : Option Addr) (k e : Nat), x.ok ∧ cs = [.int .i8 x.f, .int .u64 x.n, .slice q k e] ∧ RowsOn AnyB w x.sets (.slice q k e) := by
  obtain ⟨xs, n, rfl, hd, hlen, hxl, hf⟩ := DataW.trod_struct Tryz.underlying58 h
  have hd1 : d = .agg (xs.map (·.1)) := (Prod.mk.inj hd).1
  subst hd1
  rw [show Tryz.prog.cellsOf 58 = 3 from by kernel_rfl] at hlen
  match cs, hlen with
  | [c0, c1, c2], _ =>
  have hxl : xs.length = 3 := hxl
  have hw2 : Wt 45 (xs[2]).1 := wt_struct (j := 2) Tryz.underlying58 hw rfl (by rw [List.getElem?_map, List.getElem?_eq_getElem (by omega)]; rfl)
  have g0 : DataW.trod enc Tryz.prog w 0 spare held n 56 [c0] = xs[0]? := hf 0 _ rfl
  have g1 : DataW.trod enc Tryz.prog w 0 spare held n 23 [c1] = xs[1]? := hf 1 _ rfl
  have g2 : DataW.trod enc Tryz.prog w 0 spare held n 45 [c2] = xs[2]? := hf 2 _ rfl
  rw [List.getElem?_eq_getElem (by omega)] at g0 g1 g2
  obtain ⟨v0, h0, -, w0⟩ := DataW.trod_int Tryz.underlying56 g0
  obtain ⟨v1, h1, -, w1⟩ := DataW.trod_int Tryz.underlying23 g1
  obtain ⟨r, hr, hr1, hr2⟩ := open_rowsb n c2 (xs[2]).1 (xs[2]).2 hw2 g2
  simp only [List.cons.injEq, and_true] at h0 h1
  subst h0 h1
  simp [Lit.wf, IntKind.min, IntKind.max, IntKind.bits, IntKind.signed] at w0 w1
  obtain ⟨q, k, e, rfl, -⟩ := id hr
  refine ⟨⟨v0, v1, r⟩, q, k, e, ⟨?_, ?_, hr1, hr2⟩, rfl, hr⟩ <;> dsimp only <;> omega
set_option maxRecDepth 4000 in
theorem open_parts (fuel : Nat) (c : Value) (d : DataW H) (ps : List MemPlace) (hw : Wt 22 d) (h : DataW.trod enc Tryz.prog w 0 spare held fuel 22 [c] = some (d, ps)) : ∃ l : List PartD, PartsAt AnyB w l c := by
  obtain ⟨p, len, cap, rfl, hlc, hcm, hlm, hh⟩ := open_slb Tryz.underlying22 (k := 3) (by kernel_rfl) (by omega) fuel c d ps hw h
  rcases hh with rfl | ⟨b, o, rfl, hb, hat⟩
  · exact ⟨[], p, 0, cap, rfl, rfl, hlc, hcm, fun i hi => by simp at hi⟩
  · have hx : ∀ i, i < len → ∃ y : PartD × (Option Addr × Nat × Nat), y.1.ok ∧ w.rangeAt b (o + i * 3) [.int .i8 y.1.f, .int .u64 y.1.n, .slice y.2.1 y.2.2.1 y.2.2.2] ∧ RowsOn AnyB w y.1.sets (.slice y.2.1 y.2.2.1 y.2.2.2) := fun i hi => by
      obtain ⟨cs, m, d, ps, hl, hr, ht, hwd⟩ := hat i hi
      obtain ⟨x, q, k, e, ho, rfl, hs⟩ := open_part m cs d ps hwd ht
      exact ⟨(x, q, k, e), ho, hr, hs⟩
    let l : List PartD := List.ofFn fun i : Fin len => (Classical.choose (hx i.1 i.2)).1
    have hll : l.length = len := by simp [l]
    refine ⟨l, _, len, cap, rfl, hll.symm, hlc, hcm, fun i hi => ?_⟩
    have hi' : i < len := by omega
    have e : l[i] = (Classical.choose (hx i hi')).1 := by simp [l]
    obtain ⟨s1, s2, s3⟩ := Classical.choose_spec (hx i hi')
    rw [e]
    exact ⟨s1, b, o, _, _, _, rfl, trivial, hb, s2 0 _ rfl, s2 1 _ rfl, s2 2 _ rfl, s3⟩
end
theorem recPt : Tryz.prog.readableRec 22 = true := by kernel_rfl
theorem rowPt : (22 : TypeId) < Tryz.prog.types.size := of_decide_eq_true (by kernel_rfl)
section
variable {H : Type} {enc : TypeId × Value → H} {base : Nat}
set_option maxRecDepth 4000 in
theorem parts_val {W : World} {v : Value} {d : DataW H} {ps : List MemPlace} (ho : Value.okWide Tryz.prog W .any base 22 v) (h : DataW.Trod enc Tryz.prog W 0 (fun _ => true) true 22 v d ps) (hw : Wt 22 d) : ∃ l : List PartD, PartsAt AnyB W l v := by
  obtain ⟨fuel, hf⟩ := h
  have hc : v.cells = #[v] := by
    obtain ⟨a, len, cap, rfl⟩ := okWide_slice Tryz.underlying22 ho
    rfl
  rw [hc] at hf
  exact open_parts fuel v _ _ hw hf
theorem stays_Parts {W W' : World} {v : Value} {d : DataW H} {ps : List MemPlace} (sp : Nat → Bool) (h : DataW.Trod enc Tryz.prog W 0 (fun _ => true) true 22 v d ps) (hb : Below W.heap.size W W') (hlt : ∀ x ∈ ps, x.block < W.heap.size) (hs : ∀ x ∈ ps, sp x.block = true) :
    DataW.Trod enc Tryz.prog W' 0 sp true 22 v d ps := WideElems.Trod_stays laidL recPt rowPt h (fun x hx => hb.same (hlt x hx)) hs
end
end Go.Proofs.YtdijlnibmeapbaaGreatDoor
/- DiagramSame returns true for every input, and each argument reads behind the call as before it. Conditions: the tables as laid. -/
namespace Go.Proofs.YtdijlnibmeapbaaGreatDoor
open Go.ChangeShapes Go.WideShapes Go.ChangeAt Go.RowKit
set_option linter.unusedSimpArgs false

set_option maxRecDepth 100000 in
theorem diagramSame_lifted (os : Os) (started : os.Started) (H : Type) (enc : TypeId × Value → H) :
    ReturnsInHanded {} Tryz.checked os 5 .any (fun w args => (Rows.diagramSameSpec.pre enc Tryz.prog Tryz.f5 Rows.diagramSameRow.domain false w args ∧ laidMet Tryz.prog laid20 w) ∧ sizedMet enc Tryz.prog Tryz.f5 (OpenSpec.ofChange Rows.diagramSameSpec) false w args) (Rows.diagramSameSpec.post enc Tryz.prog Tryz.f5 false true false false) := by
  refine returnsInHanded_of_change_and (C := Tryz.checked) (X := fun w _ => laidMet Tryz.prog laid20 w) (fun _ _ _ hh h => h.of_heap hh) ownL started (by kernel_rfl) Tryz.func5
    (ChangeSpec.witness_at (enc := enc) (C := Tryz.checked) (os := os) (X := fun w _ => laidMet Tryz.prog laid20 w) false (laidWorld os) #[.slice none 0 0] 8 rfl (by kernel_rfl) (by kernel_rfl) (by kernel_rfl) (by kernel_rfl) (by kernel_rfl) (laid_met os _)) ?_
  intro W base args ds gs before hval0 hW hcnd hwt hL _
  have hval : ∀ (j : Nat) t v, Tryz.f5.params[j]? = some t → args[j]? = some v → Value.okWide Tryz.prog W .any base t v := hval0
  have hW' := hW
  obtain ⟨p, q, hA0, hV, rfl, hfz, hnd⟩ := hW
  have hA : DataW.TrodAll enc Tryz.prog W 0 (fun _ => true) true Tryz.f5.params.toList args.toList ds p := hA0
  rw [Tryz.params5] at hA hval
  obtain ⟨v0, d0, rfl, rfl, h0⟩ := trodAll_one hA
  obtain ⟨rfl, rfl⟩ := trodVars_none hV
  obtain ⟨l0, w0⟩ := parts_val (hval 0 22 v0 rfl rfl) h0 (wt_at (j := 0) hwt rfl rfl)
  have hlt : ∀ y ∈ p, y.block < W.heap.size := fun y hy => hW'.lt y (by simpa using hy)
  simp only [List.append_nil, List.append_assoc] at hW'
  refine (lawSame_any l0 v0 W w0 (tb_of_laid hL)).mono fun e W' ⟨he, hw⟩ => ?_
  subst he
  have hb : Below W.heap.size W W' := hw
  exact ⟨_, rfl, post_below (pa := p) (pv := []) hW' (fun _ _ _ => trodAll_mk1 (shut_bool Tryz.underlying4 true))
    (fun sp hsp => trodAll_mk1 (stays_Parts sp h0 hb (fun y hy => hlt y hy) (fun y hy => hsp y hy)))
    (fun _ _ => rfl) (by simp) hb (ok_one (by kernel_rfl) rfl (okWide_bool_mk Tryz.underlying4 true))⟩

theorem DiagramSame_holds : Rows.DiagramSameSaid :=
  OpenClaim.holds_of_wide 5 Tryz.f5 rfl rfl rfl rfl rfl rfl rfl ⟨rfl, rfl, rfl, rfl, rfl⟩ rfl rfl rfl rfl rfl (by kernel_rfl) Tryz.func5 (by kernel_rfl)
    (of_decide_eq_true (by kernel_rfl)) (by unfold Func.isWrapper; first | (rw [if_pos (by decide +kernel)]; kernel_rfl) | (rw [if_neg (by decide +kernel)]; exact ⟨rfl, rfl⟩))
    (fun os started H enc _ => diagramSame_lifted os started H enc)
#print axioms DiagramSame_holds
end Go.Proofs.YtdijlnibmeapbaaGreatDoor
/- The tied card of DiagramSame. -/
namespace Go.Proofs.YtdijlnibmeapbaaGreatDoor
open Go
set_option linter.unusedSimpArgs false
theorem DiagramSame_card : Rows.DiagramSameCardSaid :=
  Claim7.holds_tied_plain_at .later [] [.data, .data, .data] true (true, "cb09d7aea95a5ae10bb86d4a414370ef927c5762b6b929fdd2cb4d876293af36") true
    DiagramSame_holds (fun _ h => by cases h) (by kernel_rfl) (fun _ h => by cases h) diagramSame_row_tie rfl ⟨rfl, rfl⟩ (by kernel_rfl) rfl
    (fun f fn hf hfn => by
      obtain rfl : f = 5 := Option.some.inj ((show Tryz.prog.funcNamed "tollbridge/tollbridgelaw21.DiagramSame" = some 5 by kernel_rfl).symm.trans hf) |>.symm
      obtain rfl : fn = Tryz.f5 := (Option.some.inj (Tryz.func5.symm.trans hfn)).symm
      exact ⟨by kernel_rfl, fun j t ht => by
        rw [Tryz.params5] at ht
        have hm : t ∈ ([22] : List TypeId) := by simpa using Array.mem_of_getElem? ht
        have hall : (([22] : List TypeId).all fun u => !Tryz.prog.wantsStandIn u) = true := by kernel_rfl
        exact (show Tryz.prog.wantsStandIn t = false by simpa using List.all_eq_true.1 hall t hm)⟩)
    (by kernel_rfl)
#print axioms DiagramSame_card
end Go.Proofs.YtdijlnibmeapbaaGreatDoor
