/- The document's alike, row (law 20). -/
import Derived.Test.YtehdddilcakmlaaDoorNRef1
namespace Go.Proofs.YtehdddilcakmlaaDoor
open Go.RowKit Go.Sort Go.Maps Go.Lib
set_option linter.unusedSimpArgs false

set_option maxHeartbeats 8000000 in
set_option maxRecDepth 100000 in
theorem refAlike_any {B C : Nat → Prop} (a b : List RowD) (av bv : Value) (w : World) (ha : RowsOn B w a av) (hb : RowsOn C w b bv) (hoa : ∀ r ∈ a, okR r = true) (hob : ∀ r ∈ b, okR r = true) :
    Calls Tryd.prog 43 #[av, bv] w fun e w' => e = .returned (.bool (decide (a = b))) ∧ Ext w w' := by
  have HA := Lib.hid ha
  have HB := Lib.hid hb
  have HOA := Lib.hid hoa
  have HOB := Lib.hid hob
  obtain ⟨pa, la, ca, rfl, hla, hac, ham, -⟩ := ha
  obtain ⟨pb, lb, cb, rfl, hlb, hbc, hbm, -⟩ := hb
  have HLA := Lib.hid hla
  have HLB := Lib.hid hlb
  have HAA := Lib.hid (rowsAt HA.out)
  have HAB := Lib.hid (rowsAt HB.out)
  obtain ⟨D, hD⟩ : ∃ D, D = decide (a = b) := ⟨_, rfl⟩
  rw [← hD]
  have HD := Lib.hid hD
  clear hla hlb hoa hob hD
  go_enter Tryd.func43, Tryd.ntmps43
  by_cases hl : la = lb
  case neg =>
    have hne : ((la : Int) != (lb : Int)) = true := by rw [bne_iff_ne]; omega
    have HF := Lib.hid (show D = false from by rw [HD.out]; exact decide_eq_false fun e => hl (by rw [HLA.out, HLB.out, e]))
    go_wp2_with fail
    go_ret
    exact ⟨by rw [HF.out]; rfl, Ext.refl _⟩
  subst hl
  go_wp2_with fail
  go_loopw [5] (fun i wr => ∃ I : Nat, I ≤ la ∧ i = .int .i64 I ∧ Hid (∀ j (h1 : j < a.length) (h2 : j < b.length), j < I → a[j] = b[j]) ∧ Hid (Ext w wr)) (fun i _ => la - (intOf i).toNat)
  case atStart => exact ⟨0, Nat.zero_le _, rfl, fun j _ _ h => by omega, Ext.refl _⟩
  case round =>
    obtain ⟨wo, rfl⟩ : ∃ wo : World, wo = wr := ⟨_, rfl⟩
    obtain ⟨I, hI, rfl, hall, hx⟩ := hrel
    by_cases h1 : I < la
    case neg =>
      have HF := Lib.hid (show D = true from by
        rw [HD.out]
        refine decide_eq_true (List.ext_getElem (by rw [← HLA.out, ← HLB.out]) fun j h3 h4 => ?_)
        exact hall.out j h3 h4 (by have := HLA.out; omega))
      go_wp2_with fail
      go_ret
      exact ⟨by rw [HF.out]; rfl, hx.out⟩
    have hIa : I < a.length := by rw [← HLA.out]; exact h1
    have hIb : I < b.length := by rw [← HLB.out]; exact h1
    obtain ⟨ba, oa, u, rfl, hu, hru⟩ := HAA.out wo hx.out I hIa
    obtain ⟨bb, ob, v, rfl, hv, hrv⟩ := HAB.out wo hx.out I hIb
    obtain ⟨x, hxa⟩ : ∃ x, x = a[I] := ⟨_, rfl⟩
    obtain ⟨y, hyb⟩ : ∃ y, y = b[I] := ⟨_, rfl⟩
    have HXY := Lib.hid (show x = y ↔ ordI x y = 0 from by
      rw [ordI_zero]
      exact ⟨fun e => by rw [e], fun e => rkey_inj (by rw [hxa]; exact HOA.out _ (List.getElem_mem _)) (by rw [hyb]; exact HOB.out _ (List.getElem_mem _)) e⟩)
    have HNO := Lib.hid (show x ≠ y → D = false from fun hne => by
      rw [HD.out]
      refine decide_eq_false fun e => hne ?_
      rw [hxa, hyb]
      simp only [e])
    have HYE := Lib.hid (show x = y → ∀ j (h1 : j < a.length) (h2 : j < b.length), j < I + 1 → a[j] = b[j] from fun he j h3 h4 h5 => by
      rcases Nat.lt_succ_iff_lt_or_eq.1 h5 with h6 | rfl
      · exact hall.out j h3 h4 h6
      · rw [← hxa, ← hyb]; exact he)
    rw [← hxa] at hru
    rw [← hyb] at hrv
    have HRU := Lib.hid hru
    have HRV := Lib.hid hrv
    obtain ⟨p1, l1, k1, rfl, -⟩ := hru
    obtain ⟨p2, l2, k2, rfl, -⟩ := hrv
    have HSX := Lib.hid (show ∀ W : World, Ext wo W → (fun W : World => W.cell? ⟨ba, oa + I, none⟩ = some (.slice p1 l1 k1) ∧ W.cell? ⟨bb, ob + I, none⟩ = some (.slice p2 l2 k2)) W from fun W hW => ⟨hW.later _ _ hu, hW.later _ _ hv⟩)
    have x6 : Ext wo wo.drew := Ext.drew _
    clear hxa hyb hu hv hall
    go_upto_region 6 with fail
    refine wp_region_noPanic ?_
    refine wp_region_held_drew (S := (fun W => W.cell? ⟨ba, oa + I, none⟩ = some (.slice p1 l1 k1) ∧ W.cell? ⟨bb, ob + I, none⟩ = some (.slice p2 l2 k2))) (by kernel_rfl) (HSX.out _ x6) (fun hHeld => ?_)
    refine wpAnyH_take (i := 0) (v := .slice (some ⟨ba, oa, none⟩) la ca) rfl (by kernel_rfl) (by kernel_rfl) (by kernel_rfl) (fun _ _ _ h => h) (Or.inl ⟨by rfl, by (intro w hSw; (try dsimp only at hSw); go_simp; try (first | omega | (rw [IntKind.wrap_i64]; omega)))⟩) (by assumption) ?_
    try simp only [List.getElem_toArray, List.getElem_cons_zero, List.getElem_cons_succ, Act.put, List.setIfInBounds_toArray, List.set_cons_zero, List.set_cons_succ, Array.toArray_toList]
    refine wpAnyH_take (i := 1) (v := .int .i64 I) rfl (by kernel_rfl) (by kernel_rfl) (by kernel_rfl) (fun _ _ _ h => h) (Or.inl ⟨by rfl, by (intro w hSw; (try dsimp only at hSw); go_simp; try (first | omega | (rw [IntKind.wrap_i64]; omega)))⟩) (by assumption) ?_
    try simp only [List.getElem_toArray, List.getElem_cons_zero, List.getElem_cons_succ, Act.put, List.setIfInBounds_toArray, List.set_cons_zero, List.set_cons_succ, Array.toArray_toList]
    refine wpAnyH_take (i := 2) (v := .pointer (some ⟨ba, oa + I, none⟩)) rfl (by kernel_rfl) (by kernel_rfl) (by kernel_rfl) (fun _ _ _ h => h) (Or.inl ⟨by rfl, by (intro w hSw; (try dsimp only at hSw); go_simp; try (first | omega | (rw [IntKind.wrap_i64]; omega)))⟩) (by assumption) ?_
    try simp only [List.getElem_toArray, List.getElem_cons_zero, List.getElem_cons_succ, Act.put, List.setIfInBounds_toArray, List.set_cons_zero, List.set_cons_succ, Array.toArray_toList]
    refine wpAnyH_take (i := 3) (v := .slice p1 l1 k1) rfl (by kernel_rfl) (by kernel_rfl) (by kernel_rfl) (fun _ _ _ h => h) (Or.inl ⟨by rfl, by (intro w hSw; (try dsimp only at hSw); go_simp; try (first | omega | (rw [IntKind.wrap_i64]; omega)))⟩) (by assumption) ?_
    try simp only [List.getElem_toArray, List.getElem_cons_zero, List.getElem_cons_succ, Act.put, List.setIfInBounds_toArray, List.set_cons_zero, List.set_cons_succ, Array.toArray_toList]
    refine wpAnyH_take (i := 4) (v := .slice (some ⟨bb, ob, none⟩) la cb) rfl (by kernel_rfl) (by kernel_rfl) (by kernel_rfl) (fun _ _ _ h => h) (Or.inl ⟨by rfl, by (intro w hSw; (try dsimp only at hSw); go_simp; try (first | omega | (rw [IntKind.wrap_i64]; omega)))⟩) (by assumption) ?_
    try simp only [List.getElem_toArray, List.getElem_cons_zero, List.getElem_cons_succ, Act.put, List.setIfInBounds_toArray, List.set_cons_zero, List.set_cons_succ, Array.toArray_toList]
    refine wpAnyH_take (i := 5) (v := .int .i64 I) rfl (by kernel_rfl) (by kernel_rfl) (by kernel_rfl) (fun _ _ _ h => h) (Or.inl ⟨by rfl, by (intro w hSw; (try dsimp only at hSw); go_simp; try (first | omega | (rw [IntKind.wrap_i64]; omega)))⟩) (by assumption) ?_
    try simp only [List.getElem_toArray, List.getElem_cons_zero, List.getElem_cons_succ, Act.put, List.setIfInBounds_toArray, List.set_cons_zero, List.set_cons_succ, Array.toArray_toList]
    refine wpAnyH_take (i := 6) (v := .pointer (some ⟨bb, ob + I, none⟩)) rfl (by kernel_rfl) (by kernel_rfl) (by kernel_rfl) (fun _ _ _ h => h) (Or.inl ⟨by rfl, by (intro w hSw; (try dsimp only at hSw); go_simp; try (first | omega | (rw [IntKind.wrap_i64]; omega)))⟩) (by assumption) ?_
    try simp only [List.getElem_toArray, List.getElem_cons_zero, List.getElem_cons_succ, Act.put, List.setIfInBounds_toArray, List.set_cons_zero, List.set_cons_succ, Array.toArray_toList]
    refine wpAnyH_take (i := 7) (v := .slice p2 l2 k2) rfl (by kernel_rfl) (by kernel_rfl) (by kernel_rfl) (fun _ _ _ h => h) (Or.inl ⟨by rfl, by (intro w hSw; (try dsimp only at hSw); go_simp; try (first | omega | (rw [IntKind.wrap_i64]; omega)))⟩) (by assumption) ?_
    try simp only [List.getElem_toArray, List.getElem_cons_zero, List.getElem_cons_succ, Act.put, List.setIfInBounds_toArray, List.set_cons_zero, List.set_cons_succ, Array.toArray_toList]
    refine wpAnyH_ready (rs := [8]) (by kernel_rfl) (by simp) ?_
    refine AllReadyH.cons (i := 8) rfl (fun K hK => ?_) AllReadyH.nil
    go_simp
    go_at_call 42
    refine (refOrder_any x y _ _ _ (HRU.out.ext x6) (HRV.out.ext x6)).mono ?_
    rintro e w2 ⟨rfl, hx2⟩
    refine hK.out _ _ (HSX.out _ (x6.trans hx2)) (fun hHeld1 => ?_)
    clear hK K
    try simp only [List.getElem_toArray, List.getElem_cons_zero, List.getElem_cons_succ, Act.put, List.setIfInBounds_toArray, List.set_cons_zero, List.set_cons_succ, Array.toArray_toList]
    refine wpAnyH_take (i := 9) (v := .bool (ordI x y != 0)) rfl (by kernel_rfl) (by kernel_rfl) (by kernel_rfl) (fun _ _ _ h => h) (Or.inl ⟨by rfl, by (intro w hSw; (try dsimp only at hSw); go_simp; try (first | omega | (rw [IntKind.wrap_i64]; omega)))⟩) (by assumption) ?_
    try simp only [List.getElem_toArray, List.getElem_cons_zero, List.getElem_cons_succ, Act.put, List.setIfInBounds_toArray, List.set_cons_zero, List.set_cons_succ, Array.toArray_toList]
    refine wpAnyH_done (by kernel_rfl) ?_ _
    refine NoPanic.normal ?_
    clear hHeld hHeld1
    by_cases ho : ordI x y = 0
    case neg =>
      have HF := Lib.hid (HNO.out fun e => ho (HXY.out.1 e))
      have hne : (ordI x y != 0) = true := by rw [bne_iff_ne]; exact ho
      rw [hne]
      go_wp2_with fail
      go_ret
      exact ⟨by rw [HF.out]; rfl, hx.out.trans (x6.trans hx2)⟩
    have hne : (ordI x y != 0) = false := by rw [bne_eq_false_iff_eq]; exact ho
    have HN := Lib.hid (HYE.out (HXY.out.2 ho))
    rw [hne]
    go_wp2_with fail
    go_roundw
    case rel => exact ⟨I + 1, by omega, by go_num, HN.out, hx.out.trans (x6.trans hx2)⟩
    case measure => simp [intOf]; omega

def RRow (r : RowD) (w : World) (e : Ending) (w' : World) : Prop := Ext w w' ∧ match rowP r with
  | none => ∃ u, e = .returned (.tuple #[u, .bool false])
  | some s => ∃ u, e = .returned (.tuple #[u, .bool true]) ∧ RowOn (fun b => w.heap.size ≤ b) w' s u
theorem RRow.no {r : RowD} {w w' : World} {u : Value} (h : rowP r = none) (hx : Ext w w') : RRow r w (.returned (.tuple #[u, .bool false])) w' := by
  unfold RRow; rw [h]; exact ⟨hx, u, rfl⟩
theorem RRow.yes {r s : RowD} {w w' : World} {u : Value} (h : rowP r = some s) (hx : Ext w w') (hu : RowOn (fun b => w.heap.size ≤ b) w' s u) : RRow r w (.returned (.tuple #[u, .bool true])) w' := by
  unfold RRow; rw [h]; exact ⟨hx, u, rfl, hu⟩
theorem RowOn.own {B : Nat → Prop} {w : World} {base : Nat} {r : RowD} {v : Value} {n : Nat} (h : w.ownsRow base 54 3 v n (flatA r)) (hn : n = r.length) (hok : ∀ x ∈ r, x.ok) (hB : ∀ b, v.ownBlock = some b → B b) : RowOn B w r v := by
  obtain ⟨p, c, rfl, hc, hm⟩ := owns_form h
  refine ⟨p, n, c, rfl, hn, hc, hm, hok, ?_⟩
  rcases owns_range h with ⟨h0, -⟩ | ⟨g, c', he, hb, hlt, hr⟩
  · exact .inl (List.length_eq_zero_iff.1 (hn ▸ h0))
  · cases he
    exact .inr ⟨g, 0, rfl, hB g rfl, hlt, hr⟩
theorem fldR_take {r : RowD} {k F : Nat} (h : k < r.length) : fldR (r.take (k + 1)) F = fldR (r.take k) F ++ (if r[k].f = F then [r[k]] else []) := by
  unfold fldR
  rw [List.take_succ_eq_append_getElem h, List.filter_append, List.filter_cons, List.filter_nil]
  congr 1
  by_cases h2 : r[k].f = F
  · simp [h2]
  · simp [h2]
theorem fldR_le (r : RowD) (F : Nat) : (fldR r F).length ≤ r.length := List.length_filter_le _ _

set_option maxHeartbeats 8000000 in
set_option maxRecDepth 100000 in
theorem refRow_any {B : Nat → Prop} (r : RowD) (v : Value) (w : World) (h : RowOn B w r v) (hl : r.length ≤ 10000) :
    Calls Tryd.prog 41 #[v] w (RRow r w) := by
  have HR := Lib.hid h
  obtain ⟨pr, lr, cr, rfl, hlr, hlc, hlm, -⟩ := h
  have HLR := Lib.hid hlr
  have hlr2 : lr ≤ 10000 := by omega
  have HAT := Lib.hid (rowAt HR.out)
  clear hlr hl
  go_enter Tryd.func41, Tryd.ntmps41
  go_wp2_with fail
  go_loopw [4, 5] (fun ov f wr => ∃ F : Nat, F ≤ 11 ∧ f = .int .i64 F ∧ Hid (∀ g, g < F → (fldR r g).length ≤ 1) ∧ Hid (wr.ownsRow w.heap.size 54 3 ov (outR r F).length (flatA (outR r F))) ∧ Hid (Ext w wr)) (fun _ f _ => 11 - (intOf f).toNat)
  case atStart => exact ⟨0, by omega, rfl, (fun g hg => by omega), World.ownsRow_nil _ _ _ _, Ext.refl _⟩
  case round =>
    obtain ⟨wo, rfl⟩ : ∃ wo : World, wo = wr := ⟨_, rfl⟩
    obtain ⟨F, hF, rfl, hone, how, hx⟩ := hrel
    by_cases hF1 : F < 11
    case neg =>
      obtain rfl : F = 11 := by omega
      go_wp2_with fail
      go_loopw [8] (fun i wr => ∃ k : Nat, k ≤ lr ∧ i = .int .i64 k ∧ Hid (okR (r.take k) = true) ∧ Hid (Ext wo wr)) (fun i _ => lr - (intOf i).toNat)
      case atStart => exact ⟨0, Nat.zero_le _, rfl, by show okR (r.take 0) = true; simp [okR], Ext.refl _⟩
      case round =>
        obtain ⟨wn, rfl⟩ : ∃ wn : World, wn = wr := ⟨_, rfl⟩
        obtain ⟨k, hk, rfl, hok, hxn⟩ := hrel
        by_cases hk1 : k < lr
        case neg =>
          have HOK := Lib.hid (show okR r = true from by
            have h3 := hok.out
            rwa [List.take_of_length_le (by have := HLR.out; omega)] at h3)
          have HY := Lib.hid (row_yes HOK.out hone.out)
          have HOR := Lib.hid (RowOn.own (B := fun b => w.heap.size ≤ b) (owns_ext how.out hxn.out) rfl (fun x hx => rowOk HR.out x (by
            have h4 := ((outR_perm r 11).mem_iff.1 hx)
            exact (List.mem_filter.1 h4).1)) (fun b hb => (owns_lt how.out b hb).1))
          have hle : (outR r 11).length = lr := by rw [HLR.out]; exact HY.out.2
          rw [hle] at how
          obtain ⟨po, co, rfl, -⟩ := owns_form how.out
          clear hle hok how
          go_wp2_with fail
          go_ret2
          exact RRow.yes HY.out.1 (hx.out.trans hxn.out) HOR.out
        have hkr : k < r.length := by rw [← HLR.out]; exact hk1
        obtain ⟨b, o, rfl, c0, c1, c2⟩ := HAT.out wn (hx.out.trans hxn.out) k hkr
        obtain ⟨a, ha⟩ : ∃ a, a = r[k] := ⟨_, rfl⟩
        have hoka : a.ok := by rw [ha]; exact rowOk HR.out _ (List.getElem_mem _)
        have HMEM := Lib.hid (show a ∈ r from by rw [ha]; exact List.getElem_mem _)
        have HTK := Lib.hid (show okA a = true → okR (r.take (k + 1)) = true from fun h3 => by
          have h4 := hok.out
          unfold okR at *
          rw [List.take_succ_eq_append_getElem hkr, List.all_append, h4, ← ha]
          simp [h3])
        have HFI := Lib.hid (fun W => ref01Fits_any a.f a.n W hoka.2.1 hoka.2.2)
        have HOKA := Lib.hid (show okA a = ((a.d == 0) && fitsB a.f a.n) from rfl)
        rw [← ha] at c0 c1 c2
        have HSX := Lib.hid (show ∀ W : World, Ext wn W → (fun W : World => W.cell? ⟨b, o + k * 3, none⟩ = some (.int .i8 a.d) ∧ W.cell? ⟨b, o + k * 3 + 1, none⟩ = some (.int .i8 a.f) ∧ W.cell? ⟨b, o + k * 3 + 2, none⟩ = some (.int .u64 a.n)) W from fun W hW => ⟨hW.later _ _ c0, hW.later _ _ c1, hW.later _ _ c2⟩)
        have x6 : Ext wn wn.drew := Ext.drew _
        clear ha hoka c0 c1 c2 hok
        by_cases hd : a.d = 0
        case neg =>
          have hd1 : (a.d != 0) = true := by rw [bne_iff_ne]; exact hd
          have HF := Lib.hid (show rowP r = none from rowP_bad HMEM.out (by rw [HOKA.out]; simp [hd]))
          go_upto_region 17 with fail
          refine wp_region_noPanic ?_
          refine wp_region_held_drew (S := (fun W => W.cell? ⟨b, o + k * 3, none⟩ = some (.int .i8 a.d) ∧ W.cell? ⟨b, o + k * 3 + 1, none⟩ = some (.int .i8 a.f) ∧ W.cell? ⟨b, o + k * 3 + 2, none⟩ = some (.int .u64 a.n))) (by kernel_rfl) (HSX.out _ x6) (fun hHeld => ?_)
          refine wpAnyH_take (i := 0) (v := .slice (some ⟨b, o, none⟩) lr cr) rfl (by kernel_rfl) (by kernel_rfl) (by kernel_rfl) (fun _ _ _ h => h) (Or.inl ⟨by rfl, by (intro w hSw; (try dsimp only at hSw); go_simp; try (first | omega | (rw [IntKind.wrap_i64]; omega)))⟩) (by assumption) ?_
          try simp only [List.getElem_toArray, List.getElem_cons_zero, List.getElem_cons_succ, Act.put, List.setIfInBounds_toArray, List.set_cons_zero, List.set_cons_succ, Array.toArray_toList]
          refine wpAnyH_take (i := 1) (v := .int .i64 k) rfl (by kernel_rfl) (by kernel_rfl) (by kernel_rfl) (fun _ _ _ h => h) (Or.inl ⟨by rfl, by (intro w hSw; (try dsimp only at hSw); go_simp; try (first | omega | (rw [IntKind.wrap_i64]; omega)))⟩) (by assumption) ?_
          try simp only [List.getElem_toArray, List.getElem_cons_zero, List.getElem_cons_succ, Act.put, List.setIfInBounds_toArray, List.set_cons_zero, List.set_cons_succ, Array.toArray_toList]
          refine wpAnyH_take (i := 2) (v := .pointer (some ⟨b, o + k * 3, none⟩)) rfl (by kernel_rfl) (by kernel_rfl) (by kernel_rfl) (fun _ _ _ h => h) (Or.inl ⟨by rfl, by (intro w hSw; (try dsimp only at hSw); go_simp; try (first | omega | (rw [IntKind.wrap_i64]; omega)))⟩) (by assumption) ?_
          try simp only [List.getElem_toArray, List.getElem_cons_zero, List.getElem_cons_succ, Act.put, List.setIfInBounds_toArray, List.set_cons_zero, List.set_cons_succ, Array.toArray_toList]
          refine wpAnyH_take (i := 3) (v := .pointer (some ⟨b, o + k * 3, none⟩)) rfl (by kernel_rfl) (by kernel_rfl) (by kernel_rfl) (fun _ _ _ h => h) (Or.inl ⟨by rfl, by (intro w hSw; (try dsimp only at hSw); go_simp; try (first | omega | (rw [IntKind.wrap_i64]; omega)))⟩) (by assumption) ?_
          try simp only [List.getElem_toArray, List.getElem_cons_zero, List.getElem_cons_succ, Act.put, List.setIfInBounds_toArray, List.set_cons_zero, List.set_cons_succ, Array.toArray_toList]
          refine wpAnyH_take (i := 4) (v := .int .i8 a.d) rfl (by kernel_rfl) (by kernel_rfl) (by kernel_rfl) (fun _ _ _ h => h) (Or.inl ⟨by rfl, by (intro w hSw; (try dsimp only at hSw); go_simp; try (first | omega | (rw [IntKind.wrap_i64]; omega)))⟩) (by assumption) ?_
          try simp only [List.getElem_toArray, List.getElem_cons_zero, List.getElem_cons_succ, Act.put, List.setIfInBounds_toArray, List.set_cons_zero, List.set_cons_succ, Array.toArray_toList]
          refine wpAnyH_take (i := 5) (v := .bool true) rfl (by kernel_rfl) (by kernel_rfl) (by kernel_rfl) (fun _ _ _ h => h) (Or.inl ⟨by rfl, by (intro w hSw; (try dsimp only at hSw); go_simp; try (first | omega | (rw [IntKind.wrap_i64]; omega)))⟩) (by assumption) ?_
          try simp only [List.getElem_toArray, List.getElem_cons_zero, List.getElem_cons_succ, Act.put, List.setIfInBounds_toArray, List.set_cons_zero, List.set_cons_succ, Array.toArray_toList]
          refine wpAnyH_take (i := 6) (v := .bool true) rfl (by kernel_rfl) (by kernel_rfl) (by kernel_rfl) (fun _ _ _ h => h) (Or.inl ⟨by rfl, by (intro w hSw; (try dsimp only at hSw); go_simp; try (first | omega | (rw [IntKind.wrap_i64]; omega)))⟩) (by assumption) ?_
          try simp only [List.getElem_toArray, List.getElem_cons_zero, List.getElem_cons_succ, Act.put, List.setIfInBounds_toArray, List.set_cons_zero, List.set_cons_succ, Array.toArray_toList]
          refine wpAnyH_take (i := 7) (v := undef) rfl (by kernel_rfl) (by kernel_rfl) (by kernel_rfl) (fun _ _ _ h => h) (Or.inr ⟨by rfl, rfl⟩) (by assumption) ?_
          try simp only [List.getElem_toArray, List.getElem_cons_zero, List.getElem_cons_succ, Act.put, List.setIfInBounds_toArray, List.set_cons_zero, List.set_cons_succ, Array.toArray_toList]
          refine wpAnyH_take (i := 8) (v := undef) rfl (by kernel_rfl) (by kernel_rfl) (by kernel_rfl) (fun _ _ _ h => h) (Or.inr ⟨by rfl, rfl⟩) (by assumption) ?_
          try simp only [List.getElem_toArray, List.getElem_cons_zero, List.getElem_cons_succ, Act.put, List.setIfInBounds_toArray, List.set_cons_zero, List.set_cons_succ, Array.toArray_toList]
          refine wpAnyH_take (i := 9) (v := undef) rfl (by kernel_rfl) (by kernel_rfl) (by kernel_rfl) (fun _ _ _ h => h) (Or.inr ⟨by rfl, rfl⟩) (by assumption) ?_
          try simp only [List.getElem_toArray, List.getElem_cons_zero, List.getElem_cons_succ, Act.put, List.setIfInBounds_toArray, List.set_cons_zero, List.set_cons_succ, Array.toArray_toList]
          refine wpAnyH_take (i := 10) (v := undef) rfl (by kernel_rfl) (by kernel_rfl) (by kernel_rfl) (fun _ _ _ h => h) (Or.inr ⟨by rfl, rfl⟩) (by assumption) ?_
          try simp only [List.getElem_toArray, List.getElem_cons_zero, List.getElem_cons_succ, Act.put, List.setIfInBounds_toArray, List.set_cons_zero, List.set_cons_succ, Array.toArray_toList]
          refine wpAnyH_take (i := 11) (v := undef) rfl (by kernel_rfl) (by kernel_rfl) (by kernel_rfl) (fun _ _ _ h => h) (Or.inr ⟨by rfl, rfl⟩) (by assumption) ?_
          try simp only [List.getElem_toArray, List.getElem_cons_zero, List.getElem_cons_succ, Act.put, List.setIfInBounds_toArray, List.set_cons_zero, List.set_cons_succ, Array.toArray_toList]
          refine wpAnyH_take (i := 12) (v := undef) rfl (by kernel_rfl) (by kernel_rfl) (by kernel_rfl) (fun _ _ _ h => h) (Or.inr ⟨by rfl, rfl⟩) (by assumption) ?_
          try simp only [List.getElem_toArray, List.getElem_cons_zero, List.getElem_cons_succ, Act.put, List.setIfInBounds_toArray, List.set_cons_zero, List.set_cons_succ, Array.toArray_toList]
          refine wpAnyH_take (i := 13) (v := undef) rfl (by kernel_rfl) (by kernel_rfl) (by kernel_rfl) (fun _ _ _ h => h) (Or.inr ⟨by rfl, rfl⟩) (by assumption) ?_
          try simp only [List.getElem_toArray, List.getElem_cons_zero, List.getElem_cons_succ, Act.put, List.setIfInBounds_toArray, List.set_cons_zero, List.set_cons_succ, Array.toArray_toList]
          refine wpAnyH_take (i := 14) (v := undef) rfl (by kernel_rfl) (by kernel_rfl) (by kernel_rfl) (fun _ _ _ h => h) (Or.inr ⟨by rfl, rfl⟩) (by assumption) ?_
          try simp only [List.getElem_toArray, List.getElem_cons_zero, List.getElem_cons_succ, Act.put, List.setIfInBounds_toArray, List.set_cons_zero, List.set_cons_succ, Array.toArray_toList]
          refine wpAnyH_take (i := 15) (v := undef) rfl (by kernel_rfl) (by kernel_rfl) (by kernel_rfl) (fun _ _ _ h => h) (Or.inr ⟨by rfl, rfl⟩) (by assumption) ?_
          try simp only [List.getElem_toArray, List.getElem_cons_zero, List.getElem_cons_succ, Act.put, List.setIfInBounds_toArray, List.set_cons_zero, List.set_cons_succ, Array.toArray_toList]
          refine wpAnyH_take (i := 16) (v := undef) rfl (by kernel_rfl) (by kernel_rfl) (by kernel_rfl) (fun _ _ _ h => h) (Or.inr ⟨by rfl, rfl⟩) (by assumption) ?_
          try simp only [List.getElem_toArray, List.getElem_cons_zero, List.getElem_cons_succ, Act.put, List.setIfInBounds_toArray, List.set_cons_zero, List.set_cons_succ, Array.toArray_toList]
          refine wpAnyH_take (i := 17) (v := undef) rfl (by kernel_rfl) (by kernel_rfl) (by kernel_rfl) (fun _ _ _ h => h) (Or.inr ⟨by rfl, rfl⟩) (by assumption) ?_
          try simp only [List.getElem_toArray, List.getElem_cons_zero, List.getElem_cons_succ, Act.put, List.setIfInBounds_toArray, List.set_cons_zero, List.set_cons_succ, Array.toArray_toList]
          refine wpAnyH_take (i := 18) (v := undef) rfl (by kernel_rfl) (by kernel_rfl) (by kernel_rfl) (fun _ _ _ h => h) (Or.inr ⟨by rfl, rfl⟩) (by assumption) ?_
          try simp only [List.getElem_toArray, List.getElem_cons_zero, List.getElem_cons_succ, Act.put, List.setIfInBounds_toArray, List.set_cons_zero, List.set_cons_succ, Array.toArray_toList]
          refine wpAnyH_take (i := 19) (v := .bool true) rfl (by kernel_rfl) (by kernel_rfl) (by kernel_rfl) (fun _ _ _ h => h) (Or.inl ⟨by rfl, by (intro w hSw; (try dsimp only at hSw); go_simp; try (first | omega | (rw [IntKind.wrap_i64]; omega)))⟩) (by assumption) ?_
          try simp only [List.getElem_toArray, List.getElem_cons_zero, List.getElem_cons_succ, Act.put, List.setIfInBounds_toArray, List.set_cons_zero, List.set_cons_succ, Array.toArray_toList]
          refine wpAnyH_done (by kernel_rfl) ?_ _
          refine NoPanic.normal ?_
          clear hHeld
          go_wp2_with fail
          go_ret2
          exact RRow.no HF.out (hx.out.trans (hxn.out.trans x6))
        have hd1 : (a.d != 0) = false := by rw [bne_eq_false_iff_eq]; exact hd
        have HOKB := Lib.hid (show okA a = fitsB a.f a.n from by rw [HOKA.out]; simp [hd])
        clear hd HOKA
        go_upto_region 17 with fail
        refine wp_region_noPanic ?_
        refine wp_region_held_drew (S := (fun W => W.cell? ⟨b, o + k * 3, none⟩ = some (.int .i8 a.d) ∧ W.cell? ⟨b, o + k * 3 + 1, none⟩ = some (.int .i8 a.f) ∧ W.cell? ⟨b, o + k * 3 + 2, none⟩ = some (.int .u64 a.n))) (by kernel_rfl) (HSX.out _ x6) (fun hHeld => ?_)
        refine wpAnyH_take (i := 0) (v := .slice (some ⟨b, o, none⟩) lr cr) rfl (by kernel_rfl) (by kernel_rfl) (by kernel_rfl) (fun _ _ _ h => h) (Or.inl ⟨by rfl, by (intro w hSw; (try dsimp only at hSw); go_simp; try (first | omega | (rw [IntKind.wrap_i64]; omega)))⟩) (by assumption) ?_
        try simp only [List.getElem_toArray, List.getElem_cons_zero, List.getElem_cons_succ, Act.put, List.setIfInBounds_toArray, List.set_cons_zero, List.set_cons_succ, Array.toArray_toList]
        refine wpAnyH_take (i := 1) (v := .int .i64 k) rfl (by kernel_rfl) (by kernel_rfl) (by kernel_rfl) (fun _ _ _ h => h) (Or.inl ⟨by rfl, by (intro w hSw; (try dsimp only at hSw); go_simp; try (first | omega | (rw [IntKind.wrap_i64]; omega)))⟩) (by assumption) ?_
        try simp only [List.getElem_toArray, List.getElem_cons_zero, List.getElem_cons_succ, Act.put, List.setIfInBounds_toArray, List.set_cons_zero, List.set_cons_succ, Array.toArray_toList]
        refine wpAnyH_take (i := 2) (v := .pointer (some ⟨b, o + k * 3, none⟩)) rfl (by kernel_rfl) (by kernel_rfl) (by kernel_rfl) (fun _ _ _ h => h) (Or.inl ⟨by rfl, by (intro w hSw; (try dsimp only at hSw); go_simp; try (first | omega | (rw [IntKind.wrap_i64]; omega)))⟩) (by assumption) ?_
        try simp only [List.getElem_toArray, List.getElem_cons_zero, List.getElem_cons_succ, Act.put, List.setIfInBounds_toArray, List.set_cons_zero, List.set_cons_succ, Array.toArray_toList]
        refine wpAnyH_take (i := 3) (v := .pointer (some ⟨b, o + k * 3, none⟩)) rfl (by kernel_rfl) (by kernel_rfl) (by kernel_rfl) (fun _ _ _ h => h) (Or.inl ⟨by rfl, by (intro w hSw; (try dsimp only at hSw); go_simp; try (first | omega | (rw [IntKind.wrap_i64]; omega)))⟩) (by assumption) ?_
        try simp only [List.getElem_toArray, List.getElem_cons_zero, List.getElem_cons_succ, Act.put, List.setIfInBounds_toArray, List.set_cons_zero, List.set_cons_succ, Array.toArray_toList]
        refine wpAnyH_take (i := 4) (v := .int .i8 a.d) rfl (by kernel_rfl) (by kernel_rfl) (by kernel_rfl) (fun _ _ _ h => h) (Or.inl ⟨by rfl, by (intro w hSw; (try dsimp only at hSw); go_simp; try (first | omega | (rw [IntKind.wrap_i64]; omega)))⟩) (by assumption) ?_
        try simp only [List.getElem_toArray, List.getElem_cons_zero, List.getElem_cons_succ, Act.put, List.setIfInBounds_toArray, List.set_cons_zero, List.set_cons_succ, Array.toArray_toList]
        refine wpAnyH_take (i := 5) (v := .bool false) rfl (by kernel_rfl) (by kernel_rfl) (by kernel_rfl) (fun _ _ _ h => h) (Or.inl ⟨by rfl, by (intro w hSw; (try dsimp only at hSw); go_simp; try (first | omega | (rw [IntKind.wrap_i64]; omega)))⟩) (by assumption) ?_
        try simp only [List.getElem_toArray, List.getElem_cons_zero, List.getElem_cons_succ, Act.put, List.setIfInBounds_toArray, List.set_cons_zero, List.set_cons_succ, Array.toArray_toList]
        refine wpAnyH_take (i := 6) (v := .bool false) rfl (by kernel_rfl) (by kernel_rfl) (by kernel_rfl) (fun _ _ _ h => h) (Or.inl ⟨by rfl, by (intro w hSw; (try dsimp only at hSw); go_simp; try (first | omega | (rw [IntKind.wrap_i64]; omega)))⟩) (by assumption) ?_
        try simp only [List.getElem_toArray, List.getElem_cons_zero, List.getElem_cons_succ, Act.put, List.setIfInBounds_toArray, List.set_cons_zero, List.set_cons_succ, Array.toArray_toList]
        refine wpAnyH_take (i := 7) (v := .slice (some ⟨b, o, none⟩) lr cr) rfl (by kernel_rfl) (by kernel_rfl) (by kernel_rfl) (fun _ _ _ h => h) (Or.inl ⟨by rfl, by (intro w hSw; (try dsimp only at hSw); go_simp; try (first | omega | (rw [IntKind.wrap_i64]; omega)))⟩) (by assumption) ?_
        try simp only [List.getElem_toArray, List.getElem_cons_zero, List.getElem_cons_succ, Act.put, List.setIfInBounds_toArray, List.set_cons_zero, List.set_cons_succ, Array.toArray_toList]
        refine wpAnyH_take (i := 8) (v := .int .i64 k) rfl (by kernel_rfl) (by kernel_rfl) (by kernel_rfl) (fun _ _ _ h => h) (Or.inl ⟨by rfl, by (intro w hSw; (try dsimp only at hSw); go_simp; try (first | omega | (rw [IntKind.wrap_i64]; omega)))⟩) (by assumption) ?_
        try simp only [List.getElem_toArray, List.getElem_cons_zero, List.getElem_cons_succ, Act.put, List.setIfInBounds_toArray, List.set_cons_zero, List.set_cons_succ, Array.toArray_toList]
        refine wpAnyH_take (i := 9) (v := .pointer (some ⟨b, o + k * 3, none⟩)) rfl (by kernel_rfl) (by kernel_rfl) (by kernel_rfl) (fun _ _ _ h => h) (Or.inl ⟨by rfl, by (intro w hSw; (try dsimp only at hSw); go_simp; try (first | omega | (rw [IntKind.wrap_i64]; omega)))⟩) (by assumption) ?_
        try simp only [List.getElem_toArray, List.getElem_cons_zero, List.getElem_cons_succ, Act.put, List.setIfInBounds_toArray, List.set_cons_zero, List.set_cons_succ, Array.toArray_toList]
        refine wpAnyH_take (i := 10) (v := .pointer (some ⟨b, o + k * 3 + 1, none⟩)) rfl (by kernel_rfl) (by kernel_rfl) (by kernel_rfl) (fun _ _ _ h => h) (Or.inl ⟨by rfl, by (intro w hSw; (try dsimp only at hSw); go_simp; try (first | omega | (rw [IntKind.wrap_i64]; omega)))⟩) (by assumption) ?_
        try simp only [List.getElem_toArray, List.getElem_cons_zero, List.getElem_cons_succ, Act.put, List.setIfInBounds_toArray, List.set_cons_zero, List.set_cons_succ, Array.toArray_toList]
        refine wpAnyH_take (i := 11) (v := .int .i8 a.f) rfl (by kernel_rfl) (by kernel_rfl) (by kernel_rfl) (fun _ _ _ h => h) (Or.inl ⟨by rfl, by (intro w hSw; (try dsimp only at hSw); go_simp; try (first | omega | (rw [IntKind.wrap_i64]; omega)))⟩) (by assumption) ?_
        try simp only [List.getElem_toArray, List.getElem_cons_zero, List.getElem_cons_succ, Act.put, List.setIfInBounds_toArray, List.set_cons_zero, List.set_cons_succ, Array.toArray_toList]
        refine wpAnyH_take (i := 12) (v := .slice (some ⟨b, o, none⟩) lr cr) rfl (by kernel_rfl) (by kernel_rfl) (by kernel_rfl) (fun _ _ _ h => h) (Or.inl ⟨by rfl, by (intro w hSw; (try dsimp only at hSw); go_simp; try (first | omega | (rw [IntKind.wrap_i64]; omega)))⟩) (by assumption) ?_
        try simp only [List.getElem_toArray, List.getElem_cons_zero, List.getElem_cons_succ, Act.put, List.setIfInBounds_toArray, List.set_cons_zero, List.set_cons_succ, Array.toArray_toList]
        refine wpAnyH_take (i := 13) (v := .int .i64 k) rfl (by kernel_rfl) (by kernel_rfl) (by kernel_rfl) (fun _ _ _ h => h) (Or.inl ⟨by rfl, by (intro w hSw; (try dsimp only at hSw); go_simp; try (first | omega | (rw [IntKind.wrap_i64]; omega)))⟩) (by assumption) ?_
        try simp only [List.getElem_toArray, List.getElem_cons_zero, List.getElem_cons_succ, Act.put, List.setIfInBounds_toArray, List.set_cons_zero, List.set_cons_succ, Array.toArray_toList]
        refine wpAnyH_take (i := 14) (v := .pointer (some ⟨b, o + k * 3, none⟩)) rfl (by kernel_rfl) (by kernel_rfl) (by kernel_rfl) (fun _ _ _ h => h) (Or.inl ⟨by rfl, by (intro w hSw; (try dsimp only at hSw); go_simp; try (first | omega | (rw [IntKind.wrap_i64]; omega)))⟩) (by assumption) ?_
        try simp only [List.getElem_toArray, List.getElem_cons_zero, List.getElem_cons_succ, Act.put, List.setIfInBounds_toArray, List.set_cons_zero, List.set_cons_succ, Array.toArray_toList]
        refine wpAnyH_take (i := 15) (v := .pointer (some ⟨b, o + k * 3 + 2, none⟩)) rfl (by kernel_rfl) (by kernel_rfl) (by kernel_rfl) (fun _ _ _ h => h) (Or.inl ⟨by rfl, by (intro w hSw; (try dsimp only at hSw); go_simp; try (first | omega | (rw [IntKind.wrap_i64]; omega)))⟩) (by assumption) ?_
        try simp only [List.getElem_toArray, List.getElem_cons_zero, List.getElem_cons_succ, Act.put, List.setIfInBounds_toArray, List.set_cons_zero, List.set_cons_succ, Array.toArray_toList]
        refine wpAnyH_take (i := 16) (v := .int .u64 a.n) rfl (by kernel_rfl) (by kernel_rfl) (by kernel_rfl) (fun _ _ _ h => h) (Or.inl ⟨by rfl, by (intro w hSw; (try dsimp only at hSw); go_simp; try (first | omega | (rw [IntKind.wrap_i64]; omega)))⟩) (by assumption) ?_
        try simp only [List.getElem_toArray, List.getElem_cons_zero, List.getElem_cons_succ, Act.put, List.setIfInBounds_toArray, List.set_cons_zero, List.set_cons_succ, Array.toArray_toList]
        refine wpAnyH_ready (rs := [17]) (by kernel_rfl) (by simp) ?_
        refine AllReadyH.cons (i := 17) rfl (fun K hK => ?_) AllReadyH.nil
        go_simp
        go_at_call 31
        refine (HFI.out _).mono ?_
        rintro e w2 ⟨rfl, rfl⟩
        refine hK.out _ _ (HSX.out _ x6) (fun hHeld1 => ?_)
        clear hK K
        try simp only [List.getElem_toArray, List.getElem_cons_zero, List.getElem_cons_succ, Act.put, List.setIfInBounds_toArray, List.set_cons_zero, List.set_cons_succ, Array.toArray_toList]
        refine wpAnyH_take (i := 18) (v := .bool (!fitsB a.f a.n)) rfl (by kernel_rfl) (by kernel_rfl) (by kernel_rfl) (fun _ _ _ h => h) (Or.inl ⟨by rfl, by (intro w hSw; (try dsimp only at hSw); go_simp; try (first | omega | (rw [IntKind.wrap_i64]; omega)))⟩) (by assumption) ?_
        try simp only [List.getElem_toArray, List.getElem_cons_zero, List.getElem_cons_succ, Act.put, List.setIfInBounds_toArray, List.set_cons_zero, List.set_cons_succ, Array.toArray_toList]
        refine wpAnyH_take (i := 19) (v := .bool (!fitsB a.f a.n)) rfl (by kernel_rfl) (by kernel_rfl) (by kernel_rfl) (fun _ _ _ h => h) (Or.inl ⟨by rfl, by (intro w hSw; (try dsimp only at hSw); go_simp; try (first | omega | (rw [IntKind.wrap_i64]; omega)))⟩) (by assumption) ?_
        try simp only [List.getElem_toArray, List.getElem_cons_zero, List.getElem_cons_succ, Act.put, List.setIfInBounds_toArray, List.set_cons_zero, List.set_cons_succ, Array.toArray_toList]
        refine wpAnyH_done (by kernel_rfl) ?_ _
        refine NoPanic.normal ?_
        clear hHeld hHeld1
        cases hfb : fitsB a.f a.n with
        | false =>
          have HF := Lib.hid (show rowP r = none from rowP_bad HMEM.out (HOKB.out.trans hfb))
          clear hfb
          go_wp2_with fail
          go_ret2
          exact RRow.no HF.out (hx.out.trans (hxn.out.trans x6))
        | true =>
          have HN := Lib.hid (HTK.out (HOKB.out.trans hfb))
          clear hfb
          go_wp2_with fail
          go_roundw
          case rel => exact ⟨_, _, _, ⟨k + 1, by omega, rfl, HN.out, hxn.out.trans x6⟩, rfl, rfl, by first | rfl | go_num⟩
          case measure => simp [intOf]; omega
    go_wp2_with fail
    have hol : (outR r F).length ≤ 11 := by have := outR_len r F hone.out; omega
    try rw [show decide ((F : Int) < 11) = true from decide_eq_true (by omega)]
    go_loopw [4, 6, 7] (fun ov n i wr => ∃ k c : Nat, k ≤ lr ∧ n = .int .i64 c ∧ i = .int .i64 k ∧ c ≤ k ∧ Hid (c = (fldR (r.take k) F).length) ∧ Hid (wr.ownsRow w.heap.size 54 3 ov (outR r F ++ fldR (r.take k) F).length (flatA (outR r F ++ fldR (r.take k) F))) ∧ Hid (Ext w wr)) (fun _ _ i _ => lr - (intOf i).toNat)
    case atStart => exact ⟨0, 0, Nat.zero_le _, rfl, rfl, Nat.le_refl _, by show 0 = (fldR (r.take 0) F).length; simp [fldR], by
      show World.ownsRow _ _ _ _ _ _ _
      rw [show fldR (r.take 0) F = [] from by simp [fldR], List.append_nil]
      exact how.out, hx.out⟩
    case round =>
      obtain ⟨wn, rfl⟩ : ∃ wn : World, wn = wr := ⟨_, rfl⟩
      obtain ⟨k, c, hk, rfl, rfl, hck, hcc, hon, hxn⟩ := hrel
      by_cases hk1 : k < lr
      case neg =>
        have hkf : r.take k = r := List.take_of_length_le (by have := HLR.out; omega)
        rw [hkf] at hcc hon
        by_cases hc1 : 1 < c
        · have HF := Lib.hid (show rowP r = none from row_dup (f := F) (by have := hcc.out; omega))
          clear hon
          go_wp2_with fail
          go_ret2
          exact RRow.no HF.out hxn.out
        · have HN := Lib.hid (show ∀ g, g < F + 1 → (fldR r g).length ≤ 1 from fun g hg => by
            rcases Nat.lt_succ_iff_lt_or_eq.1 hg with h3 | rfl
            · exact hone.out g h3
            · have := hcc.out; omega)
          have HO := Lib.hid (show wn.ownsRow w.heap.size 54 3 u4 (outR r (F + 1)).length (flatA (outR r (F + 1))) from by rw [outR_succ]; exact hon.out)
          clear hon how
          go_wp2_with fail
          go_roundw
          case rel => exact ⟨F + 1, by omega, by go_num, HN.out, HO.out, hxn.out⟩
          case measure => simp [intOf]; omega
      have hkr : k < r.length := by rw [← HLR.out]; exact hk1
      obtain ⟨b, o, rfl, c0, c1, c2⟩ := HAT.out wn hxn.out k hkr
      obtain ⟨a, ha⟩ : ∃ a, a = r[k] := ⟨_, rfl⟩
      have HTK := Lib.hid (show fldR (r.take (k + 1)) F = fldR (r.take k) F ++ (if a.f = F then [a] else []) from by rw [ha]; exact fldR_take hkr)
      rw [← ha] at c0 c1 c2
      have hfl : (fldR (r.take k) F).length ≤ 10000 := by
        have h3 := fldR_le (r.take k) F
        rw [List.length_take] at h3
        omega
      clear ha
      by_cases hf : a.f = F
      case neg =>
        have hfb : (a.f == (F : Int)) = false := by rw [beq_eq_false_iff_ne]; exact hf
        have HT2 := Lib.hid (show fldR (r.take (k + 1)) F = fldR (r.take k) F from by rw [HTK.out, if_neg hf, List.append_nil])
        clear HTK
        go_wp2_with fail
        go_roundw
        case rel => exact ⟨k + 1, c, by omega, rfl, by go_num, by omega, by rw [HT2.out]; exact hcc.out, by rw [HT2.out]; exact hon.out, hxn.out⟩
        case measure => simp [intOf]; omega
      have HT2 := Lib.hid (show fldR (r.take (k + 1)) F = fldR (r.take k) F ++ [a] from by rw [HTK.out, if_pos hf])
      obtain ⟨ad, af, an⟩ := a
      obtain rfl : af = (F : Int) := hf
      dsimp only at c0 c1 c2
      have HO := Lib.hid (owns_ext hon.out (Ext.alloc wn (.cells #[.int .i8 ad, .int .i8 F, .int .u64 an] 54)))
      have HXn := Lib.hid (hxn.out.andAlloc (.cells #[.int .i8 ad, .int .i8 F, .int .u64 an] 54))
      have hsz := HXn.out.size
      have hlim : (outR r F ++ fldR (r.take k) F).length ≤ 10011 := by rw [List.length_append]; omega
      clear HTK hon how
      go_wp2_with (at_builtin; refine wpList_append_E elemA rfl (.tmp 27) (.tmp 32) rfl w.heap.size u4 _ _ rfl HO.out (some ⟨wn.heap.size, 0, none⟩) 1 1 (AcD.cs ⟨ad, F, an⟩) rfl rfl (.inr ⟨_, rfl, fun i u hu => by
          match i with
          | 0 => cases hu; simp [go_sem]
          | 1 => cases hu; simp [go_sem]
          | 2 => cases hu; simp [go_sem]
          | i + 3 => simp [AcD.cs] at hu⟩) (AcD.one _) (by omega) (by omega) hsz ?_; intro v4 w4 o4 g4 t4)
      have HO4 := Lib.hid (show w4.ownsRow w.heap.size 54 3 v4 (outR r F ++ (fldR (r.take k) F ++ [(⟨ad, F, an⟩ : AcD)])).length (flatA (outR r F ++ (fldR (r.take k) F ++ [(⟨ad, F, an⟩ : AcD)]))) from by
        rw [← List.append_assoc, flatA_app, List.length_append]
        simpa [flatA] using o4)
      have HX4 := Lib.hid (HXn.out.grownV g4 (fun i hi => (owns_lt HO.out i hi).1))
      clear o4 g4 t4
      go_roundw
      case rel => exact ⟨k + 1, c + 1, by omega, by go_num, by go_num, by omega, by rw [HT2.out, List.length_append, ← hcc.out]; rfl, by rw [HT2.out]; exact HO4.out, HX4.out⟩
      case measure => simp [intOf]; omega
end Go.Proofs.YtehdddilcakmlaaDoor
