/- NodesOnce walked. -/
import Derived.Test.YtehdddilcakmlaaDoorNOnceP
namespace Go.Proofs.YtehdddilcakmlaaDoor
open Go.RowKit Go.Sort Go.Maps Go.Lib
set_option linter.unusedSimpArgs false

theorem getP_at {L : List NdD} {i : Nat} (h : i < L.length) : getP L i = some L[i] := by
  unfold getP
  rw [if_pos ⟨by omega, by omega⟩]
  simp [h]
theorem getP_end (L : List NdD) : getP L (L.length : Int) = none := by
  unfold getP
  rw [if_neg (by omega)]
/-- Get of a node that is there -/
theorem getAt {w0 : World} (p : Nat) (L : List NdD) (i : Nat) (x : NdD) (w : World) (h : Did w0 w p L) (hx : L[i]? = some x) :
    Calls Tryd.prog 15 #[.pointer (some ⟨p, 0, none⟩), .int .i64 i] w fun e w' => ∃ q n c, e = .returned (.tuple #[.agg #[.int .i8 x.f, .int .u64 x.n, .int .i64 x.hi, .int .i64 x.lo, .slice q n c], .bool true]) ∧ RowsOn AnyB w' x.leaf (.slice q n c) ∧ Ext w w' := by
  obtain ⟨hi, rfl⟩ := List.getElem?_eq_some_iff.1 hx
  have hb := h.inv.2.1
  refine (getO p L i w h ⟨by omega, by omega⟩).mono ?_
  rintro e w' ⟨⟨v, rfl, hv⟩, hx⟩
  rw [getP_at hi] at hv ⊢
  obtain ⟨lv, rfl, hlv⟩ := hv
  obtain ⟨q, n, c, rfl, hh⟩ := hlv
  exact ⟨q, n, c, rfl, ⟨q, n, c, rfl, hh⟩, hx⟩
theorem cell5 {w : World} (a b c d e : Value) (t : TypeId) : (w.alloc (.cells #[a, b, c, d, e] t)).cell? ⟨w.heap.size, 0, none⟩ = some a ∧ (w.alloc (.cells #[a, b, c, d, e] t)).cell? ⟨w.heap.size, 1, none⟩ = some b ∧ (w.alloc (.cells #[a, b, c, d, e] t)).cell? ⟨w.heap.size, 2, none⟩ = some c ∧ (w.alloc (.cells #[a, b, c, d, e] t)).cell? ⟨w.heap.size, 3, none⟩ = some d ∧ (w.alloc (.cells #[a, b, c, d, e] t)).cell? ⟨w.heap.size, 4, none⟩ = some e := by
  refine ⟨?_, ?_, ?_, ?_, ?_⟩ <;> simp [go_sem]
def Cells5 (W : World) (g : Nat) (a b c d e : Value) : Prop := W.cell? ⟨g, 0, none⟩ = some a ∧ W.cell? ⟨g, 1, none⟩ = some b ∧ W.cell? ⟨g, 2, none⟩ = some c ∧ W.cell? ⟨g, 3, none⟩ = some d ∧ W.cell? ⟨g, 4, none⟩ = some e
theorem Cells5.ext {W W' : World} {g : Nat} {a b c d e : Value} (h : Cells5 W g a b c d e) (hx : Ext W W') : Cells5 W' g a b c d e :=
  ⟨hx.later _ _ h.1, hx.later _ _ h.2.1, hx.later _ _ h.2.2.1, hx.later _ _ h.2.2.2.1, hx.later _ _ h.2.2.2.2⟩

set_option maxHeartbeats 16000000 in
set_option maxRecDepth 100000 in
theorem lawOnce_any (l : List ActD) (v : Value) (w : World) (h : ActsOn w l v) (ht : Tb w) :
    Calls Tryd.prog 5 #[v] w fun e w' => e = .returned (.bool true) ∧ Ext w w' := by
  have HTB := Lib.hid ht
  have HAC := Lib.hid h
  clear ht h
  go_enter Tryd.func5, Tryd.ntmps5
  go_wp2_with fail
  refine (great_any l v w HAC.out).mono ?_
  rintro e w1 ⟨g, rfl, rfl, hg⟩
  cases g with
  | true =>
    clear hg
    go_wp2_with fail
    refine (wakes20_any w HTB.out).mono ?_
    rintro e w6 ⟨rfl, hx6⟩
    go_wp2_with fail
    go_ret
    exact ⟨rfl, hx6⟩
  | false =>
    have HG := Lib.hid (hg rfl)
    clear hg
    go_wp2_with fail
    refine (fill_any l v w HAC.out HG.out.2 HTB.out).mono ?_
    rintro e w1 ⟨p, rfl, hd⟩
    obtain ⟨L, hL⟩ : ∃ L, L = fillP l := ⟨_, rfl⟩
    rw [← hL] at hd
    have HIO := Lib.hid (show InvO L from by rw [hL]; exact (fillP_inv l).1)
    have HND := Lib.hid hd.inv.1
    obtain ⟨m, hm⟩ : ∃ m, m = L.length := ⟨_, rfl⟩
    have hm2 : m ≤ 200 := by
      have := (fillP_inv l).2
      rw [hm, hL]
      have := HG.out.1
      omega
    have HM := Lib.hid hm
    have HD := Lib.hid hd
    have HLN := Lib.hid (lenO p L w1 hd)
    rw [← hm] at HLN
    clear hL hm hd
    go_wp2_with fail
    refine HLN.out.mono ?_
    rintro e w2 ⟨rfl, rfl⟩
    go_wp2_with fail
    go_loopw [5] (fun i wr => ∃ I : Nat, I ≤ m ∧ i = .int .i64 I ∧ Hid (Ext w1 wr)) (fun i _ => m - (intOf i).toNat)
    case atStart => exact ⟨0, Nat.zero_le _, rfl, Ext.refl _⟩
    case round =>
      obtain ⟨wo, rfl⟩ : ∃ wo : World, wo = wr := ⟨_, rfl⟩
      obtain ⟨I, hI, rfl, hx⟩ := hrel
      by_cases h2 : I < m
      case neg =>
        obtain rfl : I = m := by omega
        have HGP := Lib.hid (show getP L (I : Int) = none from by rw [show I = L.length from by have := HM.out; omega]; exact getP_end L)
        have HGE := Lib.hid (getO p L I wo (HD.out.ext hx.out) (by omega))
        go_wp2_with fail
        refine HGE.out.mono ?_
        rintro e w3 ⟨⟨v3, rfl, hv3⟩, hx3⟩
        rw [HGP.out] at hv3 ⊢
        obtain ⟨lv3, rfl, hlv3⟩ := hv3
        obtain ⟨q3, n3, c3, rfl, -⟩ := hlv3
        obtain ⟨w4, h4⟩ : ∃ W : World, w3.alloc (.cells #[.int .i8 zNode.f, .int .u64 zNode.n, .int .i64 zNode.hi, .int .i64 zNode.lo, .slice q3 n3 c3] 41) = W := ⟨_, rfl⟩
        have HX4 := Lib.hid (HD.out.ex.trans (hx.out.trans (hx3.trans (show Ext w3 w4 from h4 ▸ Ext.alloc _ _))))
        have HE4 := Lib.hid h4
        clear h4 hx3
        go_upto_region 27 with fail
        try simp only [Option.getD_none]
        try rw [HE4.out]
        go_wp2_with fail
        refine (wakes20_any w4 (HTB.out.ext HX4.out)).mono ?_
        rintro e w5 ⟨rfl, hx5⟩
        go_wp2_with fail
        go_ret
        exact ⟨rfl, HX4.out.trans hx5⟩
      have hIl : I < L.length := by rw [← HM.out]; exact h2
      obtain ⟨x, hxI⟩ : ∃ x, L[I]? = some x := ⟨_, List.getElem?_eq_getElem hIl⟩
      have HXI := Lib.hid hxI
      have HGA := Lib.hid (getAt p L I x wo (HD.out.ext hx.out) hxI)
      clear hxI
      go_wp2_with fail
      refine HGA.out.mono ?_
      rintro e w3 ⟨q3, n3, c3, rfl, hr3, hx3⟩
      obtain ⟨w4, h4⟩ : ∃ W : World, w3.alloc (.cells #[.int .i8 x.f, .int .u64 x.n, .int .i64 x.hi, .int .i64 x.lo, .slice q3 n3 c3] 41) = W := ⟨_, rfl⟩
      have x4 : Ext w3 w4 := h4 ▸ Ext.alloc _ _
      have HA5 := Lib.hid (show ∀ W : World, Ext w4 W → Cells5 W w3.heap.size (.int .i8 x.f) (.int .u64 x.n) (.int .i64 x.hi) (.int .i64 x.lo) (.slice q3 n3 c3) from fun W hW => Cells5.ext (by rw [← h4]; exact cell5 _ _ _ _ _ _) hW)
      have HX4 := Lib.hid (hx.out.trans (hx3.trans x4))
      have HR4 := Lib.hid (hr3.ext x4)
      have HE4 := Lib.hid h4
      clear h4 hx3 x4 hr3
      go_upto_region 13 with fail
      try rw [HE4.out]
      clear HE4
      go_wp2_with fail
      go_loopw [8] (fun k wr => ∃ K : Nat, K ≤ I ∧ k = .int .i64 K ∧ Hid (Ext w4 wr)) (fun k _ => I - (intOf k).toNat)
      case atStart => exact ⟨0, Nat.zero_le _, rfl, Ext.refl _⟩
      case round =>
        obtain ⟨wn, rfl⟩ : ∃ wn : World, wn = wr := ⟨_, rfl⟩
        obtain ⟨K, hK, rfl, hxn⟩ := hrel
        obtain ⟨a0, a1, a2, a3, a4⟩ := HA5.out wn hxn.out
        by_cases hk : K < I
        · have hKl : K < L.length := by omega
          obtain ⟨y, hyK⟩ : ∃ y, L[K]? = some y := ⟨_, List.getElem?_eq_getElem hKl⟩
          have HNE := Lib.hid (show decide (x = y) = false from decide_eq_false fun e => by
            have h1 := HXI.out
            have h3 := hyK
            rw [← e] at h3
            exact absurd ((List.getElem?_inj hKl HND.out).1 (h3.trans h1.symm)) (by omega))
          have HGB := Lib.hid (getAt p L K y wn (HD.out.ext (HX4.out.trans hxn.out)) hyK)
          clear hyK
          go_wp2_with fail
          refine HGB.out.mono ?_
          rintro e w5 ⟨q5, n5, c5, rfl, hr5, hx5⟩
          obtain ⟨w6, h6⟩ : ∃ W : World, w5.alloc (.cells #[.int .i8 y.f, .int .u64 y.n, .int .i64 y.hi, .int .i64 y.lo, .slice q5 n5 c5] 41) = W := ⟨_, rfl⟩
          have x6 : Ext w5 w6 := h6 ▸ Ext.alloc _ _
          obtain ⟨b0, b1, b2, b3, b4⟩ : Cells5 w6 w5.heap.size (.int .i8 y.f) (.int .u64 y.n) (.int .i64 y.hi) (.int .i64 y.lo) (.slice q5 n5 c5) := by rw [← h6]; exact cell5 _ _ _ _ _ _
          have HX6 := Lib.hid (hxn.out.trans (hx5.trans x6))
          clear a0 a1 a2 a3 a4
          obtain ⟨a0, a1, a2, a3, a4⟩ := HA5.out w6 HX6.out
          have HAL := Lib.hid (alike_any (B := AnyB) (C := AnyB) x y _ _ w6 ⟨_, rfl, HR4.out.ext HX6.out⟩ ⟨_, rfl, hr5.ext x6⟩)
          rw [HNE.out] at HAL
          have HE6 := Lib.hid h6
          clear h6 hx5 x6 hr5
          go_upto_region 17 with fail
          try rw [HE6.out]
          clear HE6
          go_wp2_with fail
          refine HAL.out.mono ?_
          rintro e w7 ⟨rfl, hx7⟩
          have HX7 := Lib.hid (HX6.out.trans hx7)
          clear hx7 a0 a1 a2 a3 a4 b0 b1 b2 b3 b4 HAL
          go_wp2_with fail
          go_roundw
          case rel => exact ⟨K + 1, by omega, by go_num, HX7.out⟩
          case measure => simp [intOf]; omega
        by_cases hf : x.f < 0
        · go_wp2_with fail
          go_roundw
          case rel => exact ⟨I + 1, by omega, by go_num, HX4.out.trans hxn.out⟩
          case measure => simp [intOf]; omega
        obtain ⟨hi, lo, nh, nl, hh1, hh2, hh3, hh4, hh5, hh6, hh7, hh8⟩ := HIO.out I x HXI.out (by omega)
        obtain ⟨hb1, hb2⟩ := behind_not hh8
        have HGH := Lib.hid (fun W (hW : Ext wn W) => getAt p L hi nh W (HD.out.ext (HX4.out.trans (hxn.out.trans hW))) hh6)
        have HGL := Lib.hid (fun W (hW : Ext wn W) => getAt p L lo nl W (HD.out.ext (HX4.out.trans (hxn.out.trans hW))) hh7)
        rw [hh1] at a2
        rw [hh2] at a3
        rw [hh1, hh2] at HA5
        clear hh1 hh2 hh6 hh7 hh8
        have HBB := Lib.hid (And.intro hb1 hb2)
        clear hb1 hb2
        go_wp2_with fail
        refine (HGH.out wn (Ext.refl _)).mono ?_
        rintro e w5 ⟨q5, n5, c5, rfl, -, hx5⟩
        obtain ⟨w6, h6⟩ : ∃ W : World, w5.alloc (.cells #[.int .i8 nh.f, .int .u64 nh.n, .int .i64 nh.hi, .int .i64 nh.lo, .slice q5 n5 c5] 41) = W := ⟨_, rfl⟩
        have x6 : Ext w5 w6 := h6 ▸ Ext.alloc _ _
        have HB5 := Lib.hid (show Cells5 w6 w5.heap.size (.int .i8 nh.f) (.int .u64 nh.n) (.int .i64 nh.hi) (.int .i64 nh.lo) (.slice q5 n5 c5) from by rw [← h6]; exact cell5 _ _ _ _ _ _)
        have HX6 := Lib.hid (hx5.trans x6)
        clear a0 a1 a2 a3 a4
        obtain ⟨a0, a1, a2, a3, a4⟩ := HA5.out w6 (hxn.out.trans HX6.out)
        have HE6 := Lib.hid h6
        clear h6 hx5 x6
        go_upto_region 21 with fail
        try rw [HE6.out]
        clear HE6
        go_wp2_with fail
        refine (HGL.out w6 HX6.out).mono ?_
        rintro e w7 ⟨q7, n7, c7, rfl, -, hx7⟩
        obtain ⟨w8, h8⟩ : ∃ W : World, w7.alloc (.cells #[.int .i8 nl.f, .int .u64 nl.n, .int .i64 nl.hi, .int .i64 nl.lo, .slice q7 n7 c7] 41) = W := ⟨_, rfl⟩
        have x8 : Ext w7 w8 := h8 ▸ Ext.alloc _ _
        obtain ⟨d0, d1, d2, d3, d4⟩ : Cells5 w8 w7.heap.size (.int .i8 nl.f) (.int .u64 nl.n) (.int .i64 nl.hi) (.int .i64 nl.lo) (.slice q7 n7 c7) := by rw [← h8]; exact cell5 _ _ _ _ _ _
        have HX8 := Lib.hid (HX6.out.trans (hx7.trans x8))
        obtain ⟨b0, b1, b2, b3, b4⟩ := HB5.out.ext (hx7.trans x8)
        clear a0 a1 a2 a3 a4
        obtain ⟨a0, a1, a2, a3, a4⟩ := HA5.out w8 (hxn.out.trans HX8.out)
        have HE8 := Lib.hid h8
        clear h8 hx7 x8
        go_upto_region 22 with fail
        try rw [HE8.out]
        clear HE8
        have hne : ¬ (hi : Int) = lo := by omega
        have hne2 : ((hi : Int) == (lo : Int)) = false := by rw [beq_eq_false_iff_ne]; exact hne
        have hg1 : ¬ I ≤ hi := by omega
        have hg2 : ¬ I ≤ lo := by omega
        by_cases u1 : 0 ≤ nh.f
        · have u2 : ¬ nh.f ≤ x.f := fun h => HBB.out.1 ⟨u1, h⟩
          by_cases u3 : 0 ≤ nl.f
          · have u4 : ¬ nl.f < x.f := fun h => HBB.out.2 ⟨u3, .inl h⟩
            by_cases u5 : nl.f = x.f
            · have u6 : ¬ nl.n ≤ x.n := fun h => HBB.out.2 ⟨u3, .inr ⟨u5, h⟩⟩
              go_wp2_with fail
              first
                | exact ⟨⟨I + 1, by omega, by go_num, HX4.out.trans (hxn.out.trans HX8.out)⟩, by simp [intOf]; omega⟩
                | (go_roundw
                   case rel => exact ⟨I + 1, by omega, by go_num, HX4.out.trans (hxn.out.trans HX8.out)⟩
                   case measure => simp [intOf]; omega)
            · go_wp2_with fail
              first
                | exact ⟨⟨I + 1, by omega, by go_num, HX4.out.trans (hxn.out.trans HX8.out)⟩, by simp [intOf]; omega⟩
                | (go_roundw
                   case rel => exact ⟨I + 1, by omega, by go_num, HX4.out.trans (hxn.out.trans HX8.out)⟩
                   case measure => simp [intOf]; omega)
          · go_wp2_with fail
            first
                | exact ⟨⟨I + 1, by omega, by go_num, HX4.out.trans (hxn.out.trans HX8.out)⟩, by simp [intOf]; omega⟩
                | (go_roundw
                   case rel => exact ⟨I + 1, by omega, by go_num, HX4.out.trans (hxn.out.trans HX8.out)⟩
                   case measure => simp [intOf]; omega)
        · by_cases u3 : 0 ≤ nl.f
          · have u4 : ¬ nl.f < x.f := fun h => HBB.out.2 ⟨u3, .inl h⟩
            by_cases u5 : nl.f = x.f
            · have u6 : ¬ nl.n ≤ x.n := fun h => HBB.out.2 ⟨u3, .inr ⟨u5, h⟩⟩
              go_wp2_with fail
              first
                | exact ⟨⟨I + 1, by omega, by go_num, HX4.out.trans (hxn.out.trans HX8.out)⟩, by simp [intOf]; omega⟩
                | (go_roundw
                   case rel => exact ⟨I + 1, by omega, by go_num, HX4.out.trans (hxn.out.trans HX8.out)⟩
                   case measure => simp [intOf]; omega)
            · go_wp2_with fail
              first
                | exact ⟨⟨I + 1, by omega, by go_num, HX4.out.trans (hxn.out.trans HX8.out)⟩, by simp [intOf]; omega⟩
                | (go_roundw
                   case rel => exact ⟨I + 1, by omega, by go_num, HX4.out.trans (hxn.out.trans HX8.out)⟩
                   case measure => simp [intOf]; omega)
          · go_wp2_with fail
            first
                | exact ⟨⟨I + 1, by omega, by go_num, HX4.out.trans (hxn.out.trans HX8.out)⟩, by simp [intOf]; omega⟩
                | (go_roundw
                   case rel => exact ⟨I + 1, by omega, by go_num, HX4.out.trans (hxn.out.trans HX8.out)⟩
                   case measure => simp [intOf]; omega)
end Go.Proofs.YtehdddilcakmlaaDoor
