/- law 20's alike. -/
import Derived.Test.YtehdddilcakmlaaDoorNGet
namespace Go.Proofs.YtehdddilcakmlaaDoor
open Go.RowKit Go.Sort Go.Maps Go.Lib
set_option linter.unusedSimpArgs false

theorem eqAc (x y : AcD) (W : World) : (Op.equalIn 10000 54 (.agg #[.int .i8 x.d, .int .i8 x.f, .int .u64 x.n]) (.agg #[.int .i8 y.d, .int .i8 y.f, .int .u64 y.n])).run Tryd.prog W = .ok (decide (x = y)) W := by
  have hu := Tryd.underlying54
  have e : decide (x = y) = (decide (x.d = y.d) && (decide (x.f = y.f) && decide (x.n = y.n))) := by
    cases x; cases y; simp only [AcD.mk.injEq, Bool.decide_and]
  rw [e]
  go_simp
  by_cases h1 : x.d = y.d <;> by_cases h2 : x.f = y.f <;> by_cases h3 : x.n = y.n <;> simp [h1, h2, h3]
theorem rowsAt {B : Nat → Prop} {w : World} {l : List RowD} {p : Option Addr} {len cap : Nat} (h : RowsOn B w l (.slice p len cap)) : ∀ W, Ext w W → ∀ i (hi : i < l.length), ∃ b o u, p = some ⟨b, o, none⟩ ∧ W.cell? ⟨b, o + i, none⟩ = some u ∧ RowOn B W (l[i]) u := by
  obtain ⟨_, _, _, he, h1, h2, h3, hh⟩ := h
  cases he
  intro W hW i hi
  rcases hh with hh | ⟨b, o, vs, hp, -, -, hvl, hrr, hrow⟩
  · rw [hh] at hi; simp at hi
  · have hi' : i < vs.length := by rw [hvl]; exact hi
    exact ⟨b, o, vs[i], hp, hW.later _ _ (hrr i _ (List.getElem?_eq_getElem hi')), (hrow i hi hi').ext hW⟩
theorem rowAt {B : Nat → Prop} {w : World} {r : RowD} {p : Option Addr} {len cap : Nat} (h : RowOn B w r (.slice p len cap)) : ∀ W, Ext w W → ∀ i (hi : i < r.length), ∃ b o, p = some ⟨b, o, none⟩ ∧ W.cell? ⟨b, o + i * 3, none⟩ = some (.int .i8 (r[i]).d) ∧ W.cell? ⟨b, o + i * 3 + 1, none⟩ = some (.int .i8 (r[i]).f) ∧ W.cell? ⟨b, o + i * 3 + 2, none⟩ = some (.int .u64 (r[i]).n) := by
  obtain ⟨_, _, _, he, h1, h2, h3, h4, hh⟩ := h
  cases he
  intro W hW i hi
  rcases hh with hh | ⟨b, o, hp, -, -, hr⟩
  · rw [hh] at hi; simp at hi
  · exact ⟨b, o, hp, acAt (World.rangeAt.later hW.later hr) i hi⟩

theorem hnn_of {a b : Nat} (h : false = ((a : Int) != (b : Int))) : a = b := by
  refine Decidable.byContradiction fun hc => ?_
  have h1 : ((a : Int) != (b : Int)) = true := by rw [bne_iff_ne]; omega
  rw [h1] at h
  exact Bool.noConfusion h

set_option maxHeartbeats 8000000 in
set_option maxRecDepth 100000 in
theorem alike_any {B C : Nat → Prop} (a b : NdD) (va vb : Value) (w : World) (ha : NodeVal B w a va) (hb : NodeVal C w b vb) :
    Calls Tryd.prog 17 #[va, vb] w fun e w' => e = .returned (.bool (decide (a = b))) ∧ Ext w w' := by
  obtain ⟨la, rfl, hla⟩ := ha
  obtain ⟨lb, rfl, hlb⟩ := hb
  have HLA := Lib.hid hla
  have HLB := Lib.hid hlb
  obtain ⟨pa, na, ca, rfl, hna, hac, ham, -⟩ := hla
  obtain ⟨pb, nb, cb, rfl, hnb, hbc, hbm, -⟩ := hlb
  have HNA := Lib.hid hna
  have HNB := Lib.hid hnb
  obtain ⟨wA, hA⟩ : ∃ W : World, w.alloc (.cells #[.int .i8 a.f, .int .u64 a.n, .int .i64 a.hi, .int .i64 a.lo, .slice pa na ca] 41) = W := ⟨_, rfl⟩
  have xA : Ext w wA := hA ▸ Ext.alloc _ _
  have sA : wA.heap.size = w.heap.size + 1 := by rw [← hA, World.size_alloc]
  obtain ⟨wB, hB⟩ : ∃ W : World, wA.alloc (.cells #[.int .i8 b.f, .int .u64 b.n, .int .i64 b.hi, .int .i64 b.lo, .slice pb nb cb] 41) = W := ⟨_, rfl⟩
  have xB : Ext wA wB := hB ▸ Ext.alloc _ _
  have a0 : wB.cell? ⟨w.heap.size, 0, none⟩ = some (.int .i8 a.f) := xB.later _ _ (by rw [← hA]; simp [go_sem])
  have a1 : wB.cell? ⟨w.heap.size, 1, none⟩ = some (.int .u64 a.n) := xB.later _ _ (by rw [← hA]; simp [go_sem])
  have a2 : wB.cell? ⟨w.heap.size, 2, none⟩ = some (.int .i64 a.hi) := xB.later _ _ (by rw [← hA]; simp [go_sem])
  have a3 : wB.cell? ⟨w.heap.size, 3, none⟩ = some (.int .i64 a.lo) := xB.later _ _ (by rw [← hA]; simp [go_sem])
  have a4 : wB.cell? ⟨w.heap.size, 4, none⟩ = some (.slice pa na ca) := xB.later _ _ (by rw [← hA]; simp [go_sem])
  have b0 : wB.cell? ⟨w.heap.size + 1, 0, none⟩ = some (.int .i8 b.f) := by rw [← hB, ← sA]; simp [go_sem]
  have b1 : wB.cell? ⟨w.heap.size + 1, 1, none⟩ = some (.int .u64 b.n) := by rw [← hB, ← sA]; simp [go_sem]
  have b2 : wB.cell? ⟨w.heap.size + 1, 2, none⟩ = some (.int .i64 b.hi) := by rw [← hB, ← sA]; simp [go_sem]
  have b3 : wB.cell? ⟨w.heap.size + 1, 3, none⟩ = some (.int .i64 b.lo) := by rw [← hB, ← sA]; simp [go_sem]
  have b4 : wB.cell? ⟨w.heap.size + 1, 4, none⟩ = some (.slice pb nb cb) := by rw [← hB, ← sA]; simp [go_sem]
  have HC4 := Lib.hid (fun W (hW : Ext wB W) => show W.cell? ⟨w.heap.size, 4, none⟩ = some (.slice pa na ca) ∧ W.cell? ⟨w.heap.size + 1, 4, none⟩ = some (.slice pb nb cb) from ⟨hW.later _ _ a4, hW.later _ _ b4⟩)
  have HX := Lib.hid (xA.trans xB)
  have HEQ := Lib.hid (And.intro hA (And.intro hB sA))
  have HAB := Lib.hid (show (a = b) ↔ (a.f = b.f ∧ a.n = b.n ∧ a.hi = b.hi ∧ a.lo = b.lo ∧ a.leaf = b.leaf) from by
    cases a; cases b; simp only [NdD.mk.injEq])
  have HRA := Lib.hid (rowsAt HLA.out)
  have HRB := Lib.hid (rowsAt HLB.out)
  clear xA hA xB hB sA hna hnb
  go_enter Tryd.func17, Tryd.ntmps17
  go_upto_region 1 with fail
  rw [HEQ.out.1, HEQ.out.2.1]
  try rw [HEQ.out.2.2]
  clear HEQ
  by_cases hf : a.f = b.f
  case neg =>
    have HF := Lib.hid (show decide (a = b) = false from decide_eq_false fun h => hf (by rw [h]))
    have hne : (a.f != b.f) = true := by simpa using hf
    go_wp2_with fail
    go_ret
    exact ⟨by rw [HF.out]; rfl, HX.out⟩
  have Hf := Lib.hid hf
  rw [hf] at a0
  clear hf
  by_cases hn : a.n = b.n
  case neg =>
    have HF := Lib.hid (show decide (a = b) = false from decide_eq_false fun h => hn (by rw [h]))
    have hne : (a.n != b.n) = true := by simpa using hn
    go_wp2_with fail
    go_ret
    exact ⟨by rw [HF.out]; rfl, HX.out⟩
  have Hn := Lib.hid hn
  rw [hn] at a1
  clear hn
  by_cases hhi : a.hi = b.hi
  case neg =>
    have HF := Lib.hid (show decide (a = b) = false from decide_eq_false fun h => hhi (by rw [h]))
    have hne : (a.hi != b.hi) = true := by simpa using hhi
    go_wp2_with fail
    go_ret
    exact ⟨by rw [HF.out]; rfl, HX.out⟩
  have Hhi := Lib.hid hhi
  rw [hhi] at a2
  clear hhi
  by_cases hlo : a.lo = b.lo
  case neg =>
    have HF := Lib.hid (show decide (a = b) = false from decide_eq_false fun h => hlo (by rw [h]))
    have hne : (a.lo != b.lo) = true := by simpa using hlo
    go_wp2_with fail
    go_ret
    exact ⟨by rw [HF.out]; rfl, HX.out⟩
  have Hlo := Lib.hid hlo
  rw [hlo] at a3
  clear hlo
  by_cases hlen : na = nb
  case neg =>
    have HF := Lib.hid (show decide (a = b) = false from decide_eq_false fun h => hlen (by rw [HNA.out, HNB.out, h]))
    have hne : ((na : Int) != (nb : Int)) = true := by rw [bne_iff_ne]; omega
    go_wp2_with fail
    go_ret
    exact ⟨by rw [HF.out]; rfl, HX.out⟩
  subst hlen
  have HAB2 := Lib.hid (show (a = b) ↔ a.leaf = b.leaf from by rw [HAB.out]; exact ⟨fun h => h.2.2.2.2, fun h => ⟨Hf.out, Hn.out, Hhi.out, Hlo.out, h⟩⟩)
  go_wp2_with fail
  clear a0 a1 a2 a3 a4 b0 b1 b2 b3 b4
  go_loopw [5] (fun i wr => ∃ j : Nat, j ≤ na ∧ i = .int .i64 j ∧ Hid (∀ m (h1 : m < a.leaf.length) (h2 : m < b.leaf.length), m < j → a.leaf[m] = b.leaf[m]) ∧ Hid (Ext wB wr)) (fun i _ => na - (intOf i).toNat)
  case atStart => exact ⟨0, Nat.zero_le _, rfl, fun m _ _ h => by omega, Ext.refl _⟩
  case round =>
    obtain ⟨wo, rfl⟩ : ∃ wo : World, wo = wr := ⟨_, rfl⟩
    obtain ⟨j, hj, rfl, heq, hx⟩ := hrel
    obtain ⟨c4, d4⟩ := HC4.out wo hx.out
    by_cases hlt : j < na
    case neg =>
      have HF := Lib.hid (show decide (a = b) = true from decide_eq_true (HAB2.out.2 (List.ext_getElem (by rw [← HNA.out, ← HNB.out]) (fun i h1 h2 => heq.out i h1 h2 (by have := HNA.out; omega)))))
      clear heq
      go_wp2_with fail
      go_ret
      exact ⟨by rw [HF.out]; rfl, HX.out.trans hx.out⟩
    have hja : j < a.leaf.length := by rw [← HNA.out]; exact hlt
    have hjb : j < b.leaf.length := by rw [← HNB.out]; exact hlt
    obtain ⟨ba, oa, ua, hpa, hca, hra⟩ := HRA.out wo (HX.out.trans hx.out) j hja
    obtain ⟨bb, ob, ub, hpb, hcb, hrb⟩ := HRB.out wo (HX.out.trans hx.out) j hjb
    subst hpa hpb
    obtain ⟨ra, hra'⟩ : ∃ r, r = a.leaf[j] := ⟨_, rfl⟩
    obtain ⟨rb, hrb'⟩ : ∃ r, r = b.leaf[j] := ⟨_, rfl⟩
    rw [← hra'] at hra
    rw [← hrb'] at hrb
    have HRA' := Lib.hid hra'
    have HRB' := Lib.hid hrb'
    have HROA := Lib.hid hra
    have HROB := Lib.hid hrb
    obtain ⟨p1, n1, k1, rfl, hn1, h11, h12, -, -⟩ := hra
    obtain ⟨p2, n2, k2, rfl, hn2, h21, h22, -, -⟩ := hrb
    have HN1 := Lib.hid hn1
    have HN2 := Lib.hid hn2
    have HLW := Lib.hid (fun W (hW : Ext wo W) => And.intro (hW.later _ _ hca) (hW.later _ _ hcb))
    have HSS := Lib.hid (fun W (hW : Ext wo W) => show (fun W => W.cell? ⟨w.heap.size, 4, none⟩ = some (.slice (some ⟨ba, oa, none⟩) na ca) ∧ W.cell? ⟨w.heap.size + 1, 4, none⟩ = some (.slice (some ⟨bb, ob, none⟩) na cb) ∧ W.cell? ⟨ba, oa + j, none⟩ = some (.slice p1 n1 k1) ∧ W.cell? ⟨bb, ob + j, none⟩ = some (.slice p2 n2 k2)) W from
      ⟨(HC4.out W (hx.out.trans hW)).1, (HC4.out W (hx.out.trans hW)).2, hW.later _ _ hca, hW.later _ _ hcb⟩)
    have hz0 : Ext wo wo.drew := Ext.drew _
    clear hra' hrb' hn1 hn2 hca hcb
    go_upto_region 6 with fail
    obtain ⟨lne, hlne⟩ : ∃ x : Bool, x = ((n1 : Int) != (n2 : Int)) := ⟨_, rfl⟩
    have hlne2 := hlne.symm
    have HLNE := Lib.hid hlne
    clear hlne
    refine wp_region_noPanic ?_
    refine wp_region_held_drew (S := (fun W => W.cell? ⟨w.heap.size, 4, none⟩ = some (.slice (some ⟨ba, oa, none⟩) na ca) ∧ W.cell? ⟨w.heap.size + 1, 4, none⟩ = some (.slice (some ⟨bb, ob, none⟩) na cb) ∧ W.cell? ⟨ba, oa + j, none⟩ = some (.slice p1 n1 k1) ∧ W.cell? ⟨bb, ob + j, none⟩ = some (.slice p2 n2 k2))) (by kernel_rfl) (HSS.out _ hz0) (fun hHeld => ?_)
    refine wpAnyH_take (i := 0) (v := .pointer (some ⟨w.heap.size, 4, none⟩)) rfl (by kernel_rfl) (by kernel_rfl) (by kernel_rfl) (fun _ _ _ h => h) (Or.inl ⟨by rfl, by (intro w hSw; (try dsimp only at hSw); go_simp; try (first | omega | (rw [IntKind.wrap_i64]; omega)))⟩) (by assumption) ?_
    try simp only [List.getElem_toArray, List.getElem_cons_zero, List.getElem_cons_succ, Act.put, List.setIfInBounds_toArray, List.set_cons_zero, List.set_cons_succ, Array.toArray_toList]
    refine wpAnyH_take (i := 1) (v := .slice (some ⟨ba, oa, none⟩) na ca) rfl (by kernel_rfl) (by kernel_rfl) (by kernel_rfl) (fun _ _ _ h => h) (Or.inl ⟨by rfl, by (intro w hSw; (try dsimp only at hSw); go_simp; try (first | omega | (rw [IntKind.wrap_i64]; omega)))⟩) (by assumption) ?_
    try simp only [List.getElem_toArray, List.getElem_cons_zero, List.getElem_cons_succ, Act.put, List.setIfInBounds_toArray, List.set_cons_zero, List.set_cons_succ, Array.toArray_toList]
    refine wpAnyH_take (i := 2) (v := .int .i64 j) rfl (by kernel_rfl) (by kernel_rfl) (by kernel_rfl) (fun _ _ _ h => h) (Or.inl ⟨by rfl, by (intro w hSw; (try dsimp only at hSw); go_simp; try (first | omega | (rw [IntKind.wrap_i64]; omega)))⟩) (by assumption) ?_
    try simp only [List.getElem_toArray, List.getElem_cons_zero, List.getElem_cons_succ, Act.put, List.setIfInBounds_toArray, List.set_cons_zero, List.set_cons_succ, Array.toArray_toList]
    refine wpAnyH_take (i := 3) (v := .pointer (some ⟨ba, oa + j, none⟩)) rfl (by kernel_rfl) (by kernel_rfl) (by kernel_rfl) (fun _ _ _ h => h) (Or.inl ⟨by rfl, by (intro w hSw; (try dsimp only at hSw); go_simp; try (first | omega | (rw [IntKind.wrap_i64]; omega)))⟩) (by assumption) ?_
    try simp only [List.getElem_toArray, List.getElem_cons_zero, List.getElem_cons_succ, Act.put, List.setIfInBounds_toArray, List.set_cons_zero, List.set_cons_succ, Array.toArray_toList]
    refine wpAnyH_take (i := 4) (v := .slice p1 n1 k1) rfl (by kernel_rfl) (by kernel_rfl) (by kernel_rfl) (fun _ _ _ h => h) (Or.inl ⟨by rfl, by (intro w hSw; (try dsimp only at hSw); go_simp; try (first | omega | (rw [IntKind.wrap_i64]; omega)))⟩) (by assumption) ?_
    try simp only [List.getElem_toArray, List.getElem_cons_zero, List.getElem_cons_succ, Act.put, List.setIfInBounds_toArray, List.set_cons_zero, List.set_cons_succ, Array.toArray_toList]
    refine wpAnyH_take (i := 5) (v := .int .i64 n1) rfl (by kernel_rfl) (by kernel_rfl) (by kernel_rfl) (fun _ _ _ h => h) (Or.inl ⟨by rfl, by (intro w hSw; (try dsimp only at hSw); go_simp; try (first | omega | (rw [IntKind.wrap_i64]; omega)))⟩) (by assumption) ?_
    try simp only [List.getElem_toArray, List.getElem_cons_zero, List.getElem_cons_succ, Act.put, List.setIfInBounds_toArray, List.set_cons_zero, List.set_cons_succ, Array.toArray_toList]
    refine wpAnyH_take (i := 6) (v := .pointer (some ⟨w.heap.size + 1, 4, none⟩)) rfl (by kernel_rfl) (by kernel_rfl) (by kernel_rfl) (fun _ _ _ h => h) (Or.inl ⟨by rfl, by (intro w hSw; (try dsimp only at hSw); go_simp; try (first | omega | (rw [IntKind.wrap_i64]; omega)))⟩) (by assumption) ?_
    try simp only [List.getElem_toArray, List.getElem_cons_zero, List.getElem_cons_succ, Act.put, List.setIfInBounds_toArray, List.set_cons_zero, List.set_cons_succ, Array.toArray_toList]
    refine wpAnyH_take (i := 7) (v := .slice (some ⟨bb, ob, none⟩) na cb) rfl (by kernel_rfl) (by kernel_rfl) (by kernel_rfl) (fun _ _ _ h => h) (Or.inl ⟨by rfl, by (intro w hSw; (try dsimp only at hSw); go_simp; try (first | omega | (rw [IntKind.wrap_i64]; omega)))⟩) (by assumption) ?_
    try simp only [List.getElem_toArray, List.getElem_cons_zero, List.getElem_cons_succ, Act.put, List.setIfInBounds_toArray, List.set_cons_zero, List.set_cons_succ, Array.toArray_toList]
    refine wpAnyH_take (i := 8) (v := .int .i64 j) rfl (by kernel_rfl) (by kernel_rfl) (by kernel_rfl) (fun _ _ _ h => h) (Or.inl ⟨by rfl, by (intro w hSw; (try dsimp only at hSw); go_simp; try (first | omega | (rw [IntKind.wrap_i64]; omega)))⟩) (by assumption) ?_
    try simp only [List.getElem_toArray, List.getElem_cons_zero, List.getElem_cons_succ, Act.put, List.setIfInBounds_toArray, List.set_cons_zero, List.set_cons_succ, Array.toArray_toList]
    refine wpAnyH_take (i := 9) (v := .pointer (some ⟨bb, ob + j, none⟩)) rfl (by kernel_rfl) (by kernel_rfl) (by kernel_rfl) (fun _ _ _ h => h) (Or.inl ⟨by rfl, by (intro w hSw; (try dsimp only at hSw); go_simp; try (first | omega | (rw [IntKind.wrap_i64]; omega)))⟩) (by assumption) ?_
    try simp only [List.getElem_toArray, List.getElem_cons_zero, List.getElem_cons_succ, Act.put, List.setIfInBounds_toArray, List.set_cons_zero, List.set_cons_succ, Array.toArray_toList]
    refine wpAnyH_take (i := 10) (v := .slice p2 n2 k2) rfl (by kernel_rfl) (by kernel_rfl) (by kernel_rfl) (fun _ _ _ h => h) (Or.inl ⟨by rfl, by (intro w hSw; (try dsimp only at hSw); go_simp; try (first | omega | (rw [IntKind.wrap_i64]; omega)))⟩) (by assumption) ?_
    try simp only [List.getElem_toArray, List.getElem_cons_zero, List.getElem_cons_succ, Act.put, List.setIfInBounds_toArray, List.set_cons_zero, List.set_cons_succ, Array.toArray_toList]
    refine wpAnyH_take (i := 11) (v := .int .i64 n2) rfl (by kernel_rfl) (by kernel_rfl) (by kernel_rfl) (fun _ _ _ h => h) (Or.inl ⟨by rfl, by (intro w hSw; (try dsimp only at hSw); go_simp; try (first | omega | (rw [IntKind.wrap_i64]; omega)))⟩) (by assumption) ?_
    try simp only [List.getElem_toArray, List.getElem_cons_zero, List.getElem_cons_succ, Act.put, List.setIfInBounds_toArray, List.set_cons_zero, List.set_cons_succ, Array.toArray_toList]
    refine wpAnyH_take (i := 12) (v := .bool lne) rfl (by kernel_rfl) (by kernel_rfl) (by kernel_rfl) (fun _ _ _ h => h) (Or.inl ⟨by rfl, by (intro w hSw; (try dsimp only at hSw); go_simp; try (first | omega | (rw [IntKind.wrap_i64]; omega)))⟩) (by assumption) ?_
    try simp only [List.getElem_toArray, List.getElem_cons_zero, List.getElem_cons_succ, Act.put, List.setIfInBounds_toArray, List.set_cons_zero, List.set_cons_succ, Array.toArray_toList]
    refine wpAnyH_done (by kernel_rfl) ?_ _
    refine NoPanic.normal ?_
    clear hHeld hlne2
    cases lne with
    | true =>
      have HF := Lib.hid (show decide (a = b) = false from decide_eq_false fun h => by
        have h2 := HAB2.out.1 h
        have h3 : ra = rb := by rw [HRA'.out, HRB'.out]; simp only [h2]
        have h4 := HLNE.out
        rw [HN1.out, HN2.out, h3] at h4
        simp at h4)
      go_wp2_with fail
      go_ret
      exact ⟨by rw [HF.out]; rfl, HX.out.trans (hx.out.trans hz0)⟩
    | false =>
      have hnn : n1 = n2 := hnn_of HLNE.out
      subst hnn
      have HZ := Lib.hid hz0
      clear hz0 c4 d4
      go_wp2_with fail
      go_loopw [6] (fun i wr => ∃ k : Nat, k ≤ n1 ∧ i = .int .i64 k ∧ Hid (∀ m (h1 : m < ra.length) (h2 : m < rb.length), m < k → ra[m] = rb[m]) ∧ Hid (Ext wo wr)) (fun i _ => n1 - (intOf i).toNat)
      case atStart => exact ⟨0, Nat.zero_le _, rfl, fun m _ _ h => by omega, HZ.out⟩
      case round =>
        obtain ⟨wn, rfl⟩ : ∃ wn : World, wn = wr := ⟨_, rfl⟩
        obtain ⟨k, hk, rfl, hkeq, hxn⟩ := hrel
        obtain ⟨c4, d4⟩ := HC4.out wn (hx.out.trans hxn.out)
        obtain ⟨r4, s4⟩ := HLW.out wn hxn.out
        by_cases hlt2 : k < n1
        case neg =>
          have HREQ := Lib.hid (show ra = rb from List.ext_getElem (by rw [← HN1.out, ← HN2.out]) (fun i h1 h2 => hkeq.out i h1 h2 (by have := HN1.out; omega)))
          have HEQ2 := Lib.hid (show ∀ m (h1 : m < a.leaf.length) (h2 : m < b.leaf.length), m < j + 1 → a.leaf[m] = b.leaf[m] from fun m h1 h2 hm => by
            by_cases he : m = j
            · subst he; rw [← HRA'.out, ← HRB'.out]; exact HREQ.out
            · exact heq.out m h1 h2 (by omega))
          clear hkeq heq
          go_wp2_with fail
          go_roundw
          case rel => exact ⟨j + 1, by omega, by go_num, HEQ2.out, hx.out.trans hxn.out⟩
          case measure => simp [intOf]; omega
        have hka : k < ra.length := by rw [← HN1.out]; exact hlt2
        have hkb : k < rb.length := by rw [← HN2.out]; exact hlt2
        obtain ⟨g1, o1, hp1, x0, x1, x2⟩ := rowAt HROA.out wn hxn.out k hka
        obtain ⟨g2, o2, hp2, y0, y1, y2⟩ := rowAt HROB.out wn hxn.out k hkb
        subst hp1 hp2
        obtain ⟨xa, hxa⟩ : ∃ x, x = ra[k] := ⟨_, rfl⟩
        obtain ⟨ya, hya⟩ : ∃ y, y = rb[k] := ⟨_, rfl⟩
        rw [← hxa] at x0 x1 x2
        rw [← hya] at y0 y1 y2
        have HXA := Lib.hid hxa
        have HYA := Lib.hid hya
        have HSS2 := Lib.hid (fun W (hW : Ext wn W) => show (fun W => W.cell? ⟨w.heap.size, 4, none⟩ = some (.slice (some ⟨ba, oa, none⟩) na ca) ∧ W.cell? ⟨w.heap.size + 1, 4, none⟩ = some (.slice (some ⟨bb, ob, none⟩) na cb) ∧ W.cell? ⟨ba, oa + j, none⟩ = some (.slice (some ⟨g1, o1, none⟩) n1 k1) ∧ W.cell? ⟨bb, ob + j, none⟩ = some (.slice (some ⟨g2, o2, none⟩) n1 k2) ∧ W.cell? ⟨g1, o1 + k * 3, none⟩ = some (.int .i8 xa.d) ∧ W.cell? ⟨g1, o1 + k * 3 + 1, none⟩ = some (.int .i8 xa.f) ∧ W.cell? ⟨g1, o1 + k * 3 + 2, none⟩ = some (.int .u64 xa.n) ∧ W.cell? ⟨g2, o2 + k * 3, none⟩ = some (.int .i8 ya.d) ∧ W.cell? ⟨g2, o2 + k * 3 + 1, none⟩ = some (.int .i8 ya.f) ∧ W.cell? ⟨g2, o2 + k * 3 + 2, none⟩ = some (.int .u64 ya.n)) W from
          ⟨hW.later _ _ c4, hW.later _ _ d4, hW.later _ _ r4, hW.later _ _ s4, hW.later _ _ x0, hW.later _ _ x1, hW.later _ _ x2, hW.later _ _ y0, hW.later _ _ y1, hW.later _ _ y2⟩)
        have hz1 : Ext wn wn.drew := Ext.drew _
        have he : ∀ W, (Op.equalIn 10000 54 (.agg #[.int .i8 xa.d, .int .i8 xa.f, .int .u64 xa.n]) (.agg #[.int .i8 ya.d, .int .i8 ya.f, .int .u64 ya.n])).run Tryd.prog W = .ok (decide (xa = ya)) W := fun W => eqAc xa ya W
        obtain ⟨q, hq⟩ : ∃ q, q = decide (xa = ya) := ⟨_, rfl⟩
        rw [← hq] at he
        have HQ := Lib.hid hq
        clear hxa hya hq x0 x1 x2 y0 y1 y2
        go_upto_region 11 with fail
        refine wp_region_noPanic ?_
        refine wp_region_held_drew (S := (fun W => W.cell? ⟨w.heap.size, 4, none⟩ = some (.slice (some ⟨ba, oa, none⟩) na ca) ∧ W.cell? ⟨w.heap.size + 1, 4, none⟩ = some (.slice (some ⟨bb, ob, none⟩) na cb) ∧ W.cell? ⟨ba, oa + j, none⟩ = some (.slice (some ⟨g1, o1, none⟩) n1 k1) ∧ W.cell? ⟨bb, ob + j, none⟩ = some (.slice (some ⟨g2, o2, none⟩) n1 k2) ∧ W.cell? ⟨g1, o1 + k * 3, none⟩ = some (.int .i8 xa.d) ∧ W.cell? ⟨g1, o1 + k * 3 + 1, none⟩ = some (.int .i8 xa.f) ∧ W.cell? ⟨g1, o1 + k * 3 + 2, none⟩ = some (.int .u64 xa.n) ∧ W.cell? ⟨g2, o2 + k * 3, none⟩ = some (.int .i8 ya.d) ∧ W.cell? ⟨g2, o2 + k * 3 + 1, none⟩ = some (.int .i8 ya.f) ∧ W.cell? ⟨g2, o2 + k * 3 + 2, none⟩ = some (.int .u64 ya.n))) (by kernel_rfl) (HSS2.out _ hz1) (fun hHeld => ?_)
        refine wpAnyH_take (i := 0) (v := .pointer (some ⟨w.heap.size, 4, none⟩)) rfl (by kernel_rfl) (by kernel_rfl) (by kernel_rfl) (fun _ _ _ h => h) (Or.inl ⟨by rfl, by (intro w hSw; (try dsimp only at hSw); go_simp; try (first | omega | (rw [IntKind.wrap_i64]; omega)))⟩) (by assumption) ?_
        try simp only [List.getElem_toArray, List.getElem_cons_zero, List.getElem_cons_succ, Act.put, List.setIfInBounds_toArray, List.set_cons_zero, List.set_cons_succ, Array.toArray_toList]
        refine wpAnyH_take (i := 1) (v := .slice (some ⟨ba, oa, none⟩) na ca) rfl (by kernel_rfl) (by kernel_rfl) (by kernel_rfl) (fun _ _ _ h => h) (Or.inl ⟨by rfl, by (intro w hSw; (try dsimp only at hSw); go_simp; try (first | omega | (rw [IntKind.wrap_i64]; omega)))⟩) (by assumption) ?_
        try simp only [List.getElem_toArray, List.getElem_cons_zero, List.getElem_cons_succ, Act.put, List.setIfInBounds_toArray, List.set_cons_zero, List.set_cons_succ, Array.toArray_toList]
        refine wpAnyH_take (i := 2) (v := .int .i64 j) rfl (by kernel_rfl) (by kernel_rfl) (by kernel_rfl) (fun _ _ _ h => h) (Or.inl ⟨by rfl, by (intro w hSw; (try dsimp only at hSw); go_simp; try (first | omega | (rw [IntKind.wrap_i64]; omega)))⟩) (by assumption) ?_
        try simp only [List.getElem_toArray, List.getElem_cons_zero, List.getElem_cons_succ, Act.put, List.setIfInBounds_toArray, List.set_cons_zero, List.set_cons_succ, Array.toArray_toList]
        refine wpAnyH_take (i := 3) (v := .pointer (some ⟨ba, oa + j, none⟩)) rfl (by kernel_rfl) (by kernel_rfl) (by kernel_rfl) (fun _ _ _ h => h) (Or.inl ⟨by rfl, by (intro w hSw; (try dsimp only at hSw); go_simp; try (first | omega | (rw [IntKind.wrap_i64]; omega)))⟩) (by assumption) ?_
        try simp only [List.getElem_toArray, List.getElem_cons_zero, List.getElem_cons_succ, Act.put, List.setIfInBounds_toArray, List.set_cons_zero, List.set_cons_succ, Array.toArray_toList]
        refine wpAnyH_take (i := 4) (v := .slice (some ⟨g1, o1, none⟩) n1 k1) rfl (by kernel_rfl) (by kernel_rfl) (by kernel_rfl) (fun _ _ _ h => h) (Or.inl ⟨by rfl, by (intro w hSw; (try dsimp only at hSw); go_simp; try (first | omega | (rw [IntKind.wrap_i64]; omega)))⟩) (by assumption) ?_
        try simp only [List.getElem_toArray, List.getElem_cons_zero, List.getElem_cons_succ, Act.put, List.setIfInBounds_toArray, List.set_cons_zero, List.set_cons_succ, Array.toArray_toList]
        refine wpAnyH_take (i := 5) (v := .int .i64 k) rfl (by kernel_rfl) (by kernel_rfl) (by kernel_rfl) (fun _ _ _ h => h) (Or.inl ⟨by rfl, by (intro w hSw; (try dsimp only at hSw); go_simp; try (first | omega | (rw [IntKind.wrap_i64]; omega)))⟩) (by assumption) ?_
        try simp only [List.getElem_toArray, List.getElem_cons_zero, List.getElem_cons_succ, Act.put, List.setIfInBounds_toArray, List.set_cons_zero, List.set_cons_succ, Array.toArray_toList]
        refine wpAnyH_take (i := 6) (v := .pointer (some ⟨g1, o1 + k * 3, none⟩)) rfl (by kernel_rfl) (by kernel_rfl) (by kernel_rfl) (fun _ _ _ h => h) (Or.inl ⟨by rfl, by (intro w hSw; (try dsimp only at hSw); go_simp; try (first | omega | (rw [IntKind.wrap_i64]; omega)))⟩) (by assumption) ?_
        try simp only [List.getElem_toArray, List.getElem_cons_zero, List.getElem_cons_succ, Act.put, List.setIfInBounds_toArray, List.set_cons_zero, List.set_cons_succ, Array.toArray_toList]
        refine wpAnyH_take (i := 7) (v := .agg #[.int .i8 xa.d, .int .i8 xa.f, .int .u64 xa.n]) rfl (by kernel_rfl) (by kernel_rfl) (by kernel_rfl) (fun _ _ _ h => h) (Or.inl ⟨by rfl, by (intro w hSw; (try dsimp only at hSw); go_simp; try (first | omega | (rw [IntKind.wrap_i64]; omega)))⟩) (by assumption) ?_
        try simp only [List.getElem_toArray, List.getElem_cons_zero, List.getElem_cons_succ, Act.put, List.setIfInBounds_toArray, List.set_cons_zero, List.set_cons_succ, Array.toArray_toList]
        refine wpAnyH_take (i := 8) (v := .pointer (some ⟨w.heap.size + 1, 4, none⟩)) rfl (by kernel_rfl) (by kernel_rfl) (by kernel_rfl) (fun _ _ _ h => h) (Or.inl ⟨by rfl, by (intro w hSw; (try dsimp only at hSw); go_simp; try (first | omega | (rw [IntKind.wrap_i64]; omega)))⟩) (by assumption) ?_
        try simp only [List.getElem_toArray, List.getElem_cons_zero, List.getElem_cons_succ, Act.put, List.setIfInBounds_toArray, List.set_cons_zero, List.set_cons_succ, Array.toArray_toList]
        refine wpAnyH_take (i := 9) (v := .slice (some ⟨bb, ob, none⟩) na cb) rfl (by kernel_rfl) (by kernel_rfl) (by kernel_rfl) (fun _ _ _ h => h) (Or.inl ⟨by rfl, by (intro w hSw; (try dsimp only at hSw); go_simp; try (first | omega | (rw [IntKind.wrap_i64]; omega)))⟩) (by assumption) ?_
        try simp only [List.getElem_toArray, List.getElem_cons_zero, List.getElem_cons_succ, Act.put, List.setIfInBounds_toArray, List.set_cons_zero, List.set_cons_succ, Array.toArray_toList]
        refine wpAnyH_take (i := 10) (v := .int .i64 j) rfl (by kernel_rfl) (by kernel_rfl) (by kernel_rfl) (fun _ _ _ h => h) (Or.inl ⟨by rfl, by (intro w hSw; (try dsimp only at hSw); go_simp; try (first | omega | (rw [IntKind.wrap_i64]; omega)))⟩) (by assumption) ?_
        try simp only [List.getElem_toArray, List.getElem_cons_zero, List.getElem_cons_succ, Act.put, List.setIfInBounds_toArray, List.set_cons_zero, List.set_cons_succ, Array.toArray_toList]
        refine wpAnyH_take (i := 11) (v := .pointer (some ⟨bb, ob + j, none⟩)) rfl (by kernel_rfl) (by kernel_rfl) (by kernel_rfl) (fun _ _ _ h => h) (Or.inl ⟨by rfl, by (intro w hSw; (try dsimp only at hSw); go_simp; try (first | omega | (rw [IntKind.wrap_i64]; omega)))⟩) (by assumption) ?_
        try simp only [List.getElem_toArray, List.getElem_cons_zero, List.getElem_cons_succ, Act.put, List.setIfInBounds_toArray, List.set_cons_zero, List.set_cons_succ, Array.toArray_toList]
        refine wpAnyH_take (i := 12) (v := .slice (some ⟨g2, o2, none⟩) n1 k2) rfl (by kernel_rfl) (by kernel_rfl) (by kernel_rfl) (fun _ _ _ h => h) (Or.inl ⟨by rfl, by (intro w hSw; (try dsimp only at hSw); go_simp; try (first | omega | (rw [IntKind.wrap_i64]; omega)))⟩) (by assumption) ?_
        try simp only [List.getElem_toArray, List.getElem_cons_zero, List.getElem_cons_succ, Act.put, List.setIfInBounds_toArray, List.set_cons_zero, List.set_cons_succ, Array.toArray_toList]
        refine wpAnyH_take (i := 13) (v := .int .i64 k) rfl (by kernel_rfl) (by kernel_rfl) (by kernel_rfl) (fun _ _ _ h => h) (Or.inl ⟨by rfl, by (intro w hSw; (try dsimp only at hSw); go_simp; try (first | omega | (rw [IntKind.wrap_i64]; omega)))⟩) (by assumption) ?_
        try simp only [List.getElem_toArray, List.getElem_cons_zero, List.getElem_cons_succ, Act.put, List.setIfInBounds_toArray, List.set_cons_zero, List.set_cons_succ, Array.toArray_toList]
        refine wpAnyH_take (i := 14) (v := .pointer (some ⟨g2, o2 + k * 3, none⟩)) rfl (by kernel_rfl) (by kernel_rfl) (by kernel_rfl) (fun _ _ _ h => h) (Or.inl ⟨by rfl, by (intro w hSw; (try dsimp only at hSw); go_simp; try (first | omega | (rw [IntKind.wrap_i64]; omega)))⟩) (by assumption) ?_
        try simp only [List.getElem_toArray, List.getElem_cons_zero, List.getElem_cons_succ, Act.put, List.setIfInBounds_toArray, List.set_cons_zero, List.set_cons_succ, Array.toArray_toList]
        refine wpAnyH_take (i := 15) (v := .agg #[.int .i8 ya.d, .int .i8 ya.f, .int .u64 ya.n]) rfl (by kernel_rfl) (by kernel_rfl) (by kernel_rfl) (fun _ _ _ h => h) (Or.inl ⟨by rfl, by (intro w hSw; (try dsimp only at hSw); go_simp; try (first | omega | (rw [IntKind.wrap_i64]; omega)))⟩) (by assumption) ?_
        try simp only [List.getElem_toArray, List.getElem_cons_zero, List.getElem_cons_succ, Act.put, List.setIfInBounds_toArray, List.set_cons_zero, List.set_cons_succ, Array.toArray_toList]
        refine wpAnyH_take (i := 16) (v := .bool (!q)) rfl (by kernel_rfl) (by kernel_rfl) (by kernel_rfl) (fun _ _ _ h => h) (Or.inl ⟨by rfl, by (intro w hSw; (try dsimp only at hSw); go_simp; try (first | omega | (rw [IntKind.wrap_i64]; omega)))⟩) (by assumption) ?_
        try simp only [List.getElem_toArray, List.getElem_cons_zero, List.getElem_cons_succ, Act.put, List.setIfInBounds_toArray, List.set_cons_zero, List.set_cons_succ, Array.toArray_toList]
        refine wpAnyH_done (by kernel_rfl) ?_ _
        refine NoPanic.normal ?_
        clear hHeld he
        cases q with
        | false =>
          have HF := Lib.hid (show decide (a = b) = false from decide_eq_false fun h => by
            have h2 := HAB2.out.1 h
            have h3 : ra = rb := by rw [HRA'.out, HRB'.out]; simp only [h2]
            have h4 : xa = ya := by rw [HXA.out, HYA.out]; simp only [h3]
            have h5 := HQ.out
            rw [decide_eq_true h4] at h5
            cases h5)
          go_wp2_with fail
          go_ret
          exact ⟨by rw [HF.out]; rfl, HX.out.trans (hx.out.trans (hxn.out.trans hz1))⟩
        | true =>
          have HK2 := Lib.hid (show ∀ m (h1 : m < ra.length) (h2 : m < rb.length), m < k + 1 → ra[m] = rb[m] from fun m h1 h2 hm => by
            by_cases hme : m = k
            · subst hme; rw [← HXA.out, ← HYA.out]; exact of_decide_eq_true HQ.out.symm
            · exact hkeq.out m h1 h2 (by omega))
          clear hkeq c4 d4 r4 s4
          go_wp2_with fail
          go_roundw
          case rel => exact ⟨k + 1, by omega, by go_num, HK2.out, hxn.out.trans hz1⟩
          case measure => simp [intOf]; omega
end Go.Proofs.YtehdddilcakmlaaDoor
