/- slices.CompactFunc of rows. -/
import Derived.Test.YtehdddilcakmlaaDoorNSort2
import Derived.Deep.Upon
namespace Go.Proofs.YtehdddilcakmlaaDoor
open Go.RowKit Go.Sort Go.Maps Go.Lib
set_option linter.unusedSimpArgs false

theorem run_clear_R (w : World) (b o n c : Nat) (ht : ∀ j, j < n → (w.cell? ⟨b, o + j, none⟩).isSome = true ∧ w.frozen? ⟨b, o + j, none⟩ = false) :
    ∃ vs : List Value, vs.length = n ∧ ∀ ty : TypeId, (Builtin.clear_ #[31] ty #[.slice (some ⟨b, o, none⟩) n c]).run Tryd.prog w = .ok (.tuple #[]) (w.setCells b o vs) := by
  have hz : ∀ w : World, (zeroValue 52).run Tryd.prog w = .ok (.slice none 0 0) w := fun w => by kernel_rfl
  rcases Nat.eq_zero_or_pos n with rfl | hn
  · exact ⟨[], by simp, fun ty => by simp [Builtin.clear_, run_underlying Tryd.underlying31]; rfl⟩
  refine ⟨(Builtin.zeroCells (Value.slice none 0 0).cells n).toList, by simp [Builtin.zeroCells, Value.cells], fun ty => ?_⟩
  have hl : (Builtin.zeroCells (Value.slice none 0 0).cells n).toList.length = n := by simp [Builtin.zeroCells, Value.cells]
  have h1 : ∀ v ∈ (Builtin.zeroCells (Value.slice none 0 0).cells n).toList, v.oneCell' = true := by
    intro v hv
    simp only [Builtin.zeroCells, Value.cells, Array.toList_map, List.mem_map] at hv
    obtain ⟨i, -, rfl⟩ := hv
    simp [Nat.mod_one]
    rfl
  have hst := run_storeCells_cells (P := Tryd.prog) b o (Builtin.zeroCells (Value.slice none 0 0).cells n).toList 0 w (fun j hj => (ht j (by rw [← hl]; exact hj)).1) (fun j hj => (ht j (by rw [← hl]; exact hj)).2) h1
  simp only [Nat.add_zero] at hst
  obtain ⟨m, rfl⟩ : ∃ m, n = m + 1 := ⟨n - 1, by omega⟩
  simp [Builtin.clear_, run_underlying Tryd.underlying31, hz, hst]
theorem keep_setCells {w : World} (g o : Nat) (vs : List Value) : Keep (· = g) w (w.setCells g o vs) :=
  ⟨World.os_setCells _ _ _ _, by
    have : ∀ (vs : List Value) (o : Nat) (w : World), (w.setCells g o vs).tape = w.tape := by
      intro vs
      induction vs with
      | nil => intros; rfl
      | cons v r ih => intro o w; exact (ih (o + 1) _).trans rfl
    exact this vs o w, World.output_setCells _ _ _ _, by simp, fun i hi hs => World.heap_setCells_other w g o vs hi hs⟩

abbrev rowsFn : Value := .func (.func 38) #[] #[]
abbrev PairR := RowD × Value
def qP (x y : PairR) : Bool := cmpR x.1 y.1 == 0
/-- the cells of block g hold the values, and may be written -/
def Cells1 (w : World) (g : Nat) (M : List PairR) : Prop := (∀ i (h : i < M.length), w.cell? ⟨g, i, none⟩ = some (M[i]).2) ∧ ∀ i, i < M.length → w.frozen? ⟨g, i, none⟩ = false
theorem Cells1.ext {w w' : World} {g : Nat} {M : List PairR} (h : Cells1 w g M) (hx : Ext w w') : Cells1 w' g M :=
  ⟨fun i hi => hx.later _ _ (h.1 i hi), fun i hi => by rw [Below.frozen hx (World.block_lt_of_cell? w _ (h.1 i hi))]; exact h.2 i hi⟩
theorem Cells1.set {w : World} {g : Nat} {M : List PairR} (h : Cells1 w g M) (k : Nat) (hk : k < M.length) (x : PairR) : Cells1 (w.setCell ⟨g, k, none⟩ x.2) g (M.set k x) := by
  refine ⟨fun i hi => ?_, fun i hi => ?_⟩
  · have hi' : i < M.length := by simpa using hi
    by_cases he : i = k
    · subst he
      rw [List.getElem_set_self]
      exact World.cell?_setCell_same w ⟨g, i, none⟩ _ (h.1 i hi')
    · rw [List.getElem_set_ne (by omega), World.cell?_setCell_other _ _ _ _ (fun e => by injection e with _ e2; omega)]
      exact h.1 i hi'
  · rw [World.frozen?_setCell]
    exact h.2 i (by simpa using hi)

set_option maxHeartbeats 4000000 in
set_option maxRecDepth 100000 in
theorem compactRows_any {B : Nat → Prop} (L : List PairR) (g len cap : Nat) (w : World) (hlen : len = L.length) (hcap : len ≤ cap) (hmax : cap ≤ 9223372036854775807) (hc : Cells1 w g L) (hB : ¬ B g) (hrow : ∀ p ∈ L, RowOn B w p.1 p.2) :
    Calls Tryd.prog 37 #[.slice (some ⟨g, 0, none⟩) len cap, rowsFn] w fun e w' => e = .returned (.slice (some ⟨g, 0, none⟩) (ddG qP L).length cap) ∧ (∀ i (h : i < (ddG qP L).length), w'.cell? ⟨g, i, none⟩ = some ((ddG qP L)[i]).2) ∧ Keep (· = g) w w' := by
  have HL := Lib.hid hlen
  have HC := Lib.hid hc
  have HRO := Lib.hid (fun W (hW : Keep (· = g) w W) p (hp : p ∈ L) => (hrow p hp).keep hW.size fun b hb hlt => hW.block b hlt (fun e => hB (e ▸ hb)))
  have eg : ∀ args w, (callFunc 38 args).run Tryd.prog w = .ok (.enter 38 args) w := enters_of Tryd.func38 (by kernel_rfl) rfl
  clear hlen hc hrow
  by_cases h2 : len < 2
  · have HF := Lib.hid (show ddG qP L = L from by
      have hll : L.length < 2 := by rw [← HL.out]; exact h2
      match L, hll with
      | [], _ => rfl
      | [x], _ => rfl)
    go_enter Tryd.func37, Tryd.ntmps37
    go_wp2_with fail
    go_ret
    exact ⟨by rw [HF.out, ← HL.out]; rfl, by rw [HF.out]; exact HC.out.1, Keep.refl _ _⟩
  go_enter Tryd.func37, Tryd.ntmps37
  go_wp2_with fail
  go_loopw [5] (fun i wr => ∃ k : Nat, k + 1 ≤ len ∧ i = .int .i64 (k + 1 : Nat) ∧ Hid (∀ m (h : m < L.length), 0 < m → m < k + 1 → qP (L[m]) (L[m - 1]) = false) ∧ Hid (Ext w wr)) (fun i _ => len - (intOf i).toNat)
  case atStart => exact ⟨0, by omega, rfl, fun m h h0 h1 => by omega, Ext.refl _⟩
  case round =>
    obtain ⟨wo, rfl⟩ : ∃ wo : World, wo = wr := ⟨_, rfl⟩
    obtain ⟨k, hk, rfl, hd, hx⟩ := hrel
    by_cases hlt : k + 1 < len
    case neg =>
      have HF := Lib.hid (show ddG qP L = L from by
        have := ddG_rises qP (l := L) L.length (Nat.le_refl _) (fun m h h0 h1 => hd.out m h h0 (by have := HL.out; omega))
        rwa [List.take_length] at this)
      have HCo := Lib.hid (HC.out.ext hx.out)
      clear hd
      go_wp2_with fail
      go_ret
      exact ⟨by rw [HF.out, ← HL.out]; rfl, by rw [HF.out]; exact HCo.out.1, hx.out.keep _⟩
    have hkl : k + 1 < L.length := by rw [← HL.out]; exact hlt
    obtain ⟨x, hxe⟩ : ∃ x, x = L[k + 1] := ⟨_, rfl⟩
    obtain ⟨y, hye⟩ : ∃ y, y = L[k]'(by omega) := ⟨_, rfl⟩
    have hcx : ∀ W, Ext wo W → W.cell? ⟨g, k + 1, none⟩ = some x.2 := fun W hW => by rw [hxe]; exact (HC.out.ext (hx.out.trans hW)).1 (k + 1) hkl
    have hcy : ∀ W, Ext wo W → W.cell? ⟨g, k, none⟩ = some y.2 := fun W hW => by rw [hye]; exact (HC.out.ext (hx.out.trans hW)).1 k (by omega)
    have HXE := Lib.hid hxe
    have HYE := Lib.hid hye
    have HSS := Lib.hid (fun W (hW : Ext wo W) => (show (fun W => W.cell? ⟨g, k + 1, none⟩ = some x.2 ∧ W.cell? ⟨g, k, none⟩ = some y.2) W from ⟨hcx W hW, hcy W hW⟩))
    have HEQ := Lib.hid (fun W (hW : Ext wo W) => rows2_any x.1 y.1 x.2 y.2 W (HRO.out W ((hx.out.trans hW).keep _) x (by rw [hxe]; exact List.getElem_mem _)) (HRO.out W ((hx.out.trans hW).keep _) y (by rw [hye]; exact List.getElem_mem _)))
    have hxd := Ext.drew wo
    have hadd : ((k : Int) + 1 - 1) = k := by omega
    have HQ := Lib.hid (show (cmpR x.1 y.1 == 0) = qP (L[k + 1]) (L[k]'(by omega)) from by rw [← hxe, ← hye]; rfl)
    obtain ⟨xv, hxv⟩ : ∃ xv, xv = x.2 := ⟨_, rfl⟩
    obtain ⟨yv, hyv⟩ : ∃ yv, yv = y.2 := ⟨_, rfl⟩
    rw [← hxv, ← hyv] at HSS HEQ
    generalize (cmpR x.1 y.1 == 0) = qq at *
    clear hcx hcy hxe hye hxv hyv
    go_upto_region 6 with fail
    refine wp_region_noPanic ?_
    refine wp_region_held_drew (S := (fun W => W.cell? ⟨g, k + 1, none⟩ = some xv ∧ W.cell? ⟨g, k, none⟩ = some yv)) (by kernel_rfl) (HSS.out _ hxd) (fun hHeld => ?_)
    refine wpAnyH_take (i := 0) (v := rowsFn) rfl (by kernel_rfl) (by kernel_rfl) (by kernel_rfl) (fun _ _ _ h => h) (Or.inl ⟨by rfl, by (intro w hSw; (try dsimp only at hSw); go_simp; try (first | omega | (rw [IntKind.wrap_i64]; omega)))⟩) (by assumption) ?_
    try simp only [List.getElem_toArray, List.getElem_cons_zero, List.getElem_cons_succ, Act.put, List.setIfInBounds_toArray, List.set_cons_zero, List.set_cons_succ, Array.toArray_toList]
    refine wpAnyH_take (i := 1) (v := .slice (some ⟨g, 0, none⟩) len cap) rfl (by kernel_rfl) (by kernel_rfl) (by kernel_rfl) (fun _ _ _ h => h) (Or.inl ⟨by rfl, by (intro w hSw; (try dsimp only at hSw); go_simp; try (first | omega | (rw [IntKind.wrap_i64]; omega)))⟩) (by assumption) ?_
    try simp only [List.getElem_toArray, List.getElem_cons_zero, List.getElem_cons_succ, Act.put, List.setIfInBounds_toArray, List.set_cons_zero, List.set_cons_succ, Array.toArray_toList]
    refine wpAnyH_take (i := 2) (v := .int .i64 (k + 1 : Nat)) rfl (by kernel_rfl) (by kernel_rfl) (by kernel_rfl) (fun _ _ _ h => h) (Or.inl ⟨by rfl, by (intro w hSw; (try dsimp only at hSw); go_simp; try (first | omega | (rw [IntKind.wrap_i64]; omega)))⟩) (by assumption) ?_
    try simp only [List.getElem_toArray, List.getElem_cons_zero, List.getElem_cons_succ, Act.put, List.setIfInBounds_toArray, List.set_cons_zero, List.set_cons_succ, Array.toArray_toList]
    refine wpAnyH_take (i := 3) (v := .pointer (some ⟨g, k + 1, none⟩)) rfl (by kernel_rfl) (by kernel_rfl) (by kernel_rfl) (fun _ _ _ h => h) (Or.inl ⟨by rfl, by (intro w hSw; (try dsimp only at hSw); go_simp; try (first | omega | (rw [IntKind.wrap_i64]; omega)))⟩) (by assumption) ?_
    try simp only [List.getElem_toArray, List.getElem_cons_zero, List.getElem_cons_succ, Act.put, List.setIfInBounds_toArray, List.set_cons_zero, List.set_cons_succ, Array.toArray_toList]
    refine wpAnyH_take (i := 4) (v := xv) rfl (by kernel_rfl) (by kernel_rfl) (by kernel_rfl) (fun _ _ _ h => h) (Or.inl ⟨by rfl, by (intro w hSw; (try dsimp only at hSw); go_simp; try (first | omega | (rw [IntKind.wrap_i64]; omega)))⟩) (by assumption) ?_
    try simp only [List.getElem_toArray, List.getElem_cons_zero, List.getElem_cons_succ, Act.put, List.setIfInBounds_toArray, List.set_cons_zero, List.set_cons_succ, Array.toArray_toList]
    refine wpAnyH_take (i := 5) (v := .slice (some ⟨g, 0, none⟩) len cap) rfl (by kernel_rfl) (by kernel_rfl) (by kernel_rfl) (fun _ _ _ h => h) (Or.inl ⟨by rfl, by (intro w hSw; (try dsimp only at hSw); go_simp; try (first | omega | (rw [IntKind.wrap_i64]; omega)))⟩) (by assumption) ?_
    try simp only [List.getElem_toArray, List.getElem_cons_zero, List.getElem_cons_succ, Act.put, List.setIfInBounds_toArray, List.set_cons_zero, List.set_cons_succ, Array.toArray_toList]
    refine wpAnyH_take (i := 6) (v := .int .i64 (k + 1 : Nat)) rfl (by kernel_rfl) (by kernel_rfl) (by kernel_rfl) (fun _ _ _ h => h) (Or.inl ⟨by rfl, by (intro w hSw; (try dsimp only at hSw); go_simp; try (first | omega | (rw [IntKind.wrap_i64]; omega)))⟩) (by assumption) ?_
    try simp only [List.getElem_toArray, List.getElem_cons_zero, List.getElem_cons_succ, Act.put, List.setIfInBounds_toArray, List.set_cons_zero, List.set_cons_succ, Array.toArray_toList]
    refine wpAnyH_take (i := 7) (v := .int .i64 k) rfl (by kernel_rfl) (by kernel_rfl) (by kernel_rfl) (fun _ _ _ h => h) (Or.inl ⟨by rfl, by (intro w hSw; (try dsimp only at hSw); go_simp; try (first | omega | (rw [IntKind.wrap_i64]; omega)))⟩) (by assumption) ?_
    try simp only [List.getElem_toArray, List.getElem_cons_zero, List.getElem_cons_succ, Act.put, List.setIfInBounds_toArray, List.set_cons_zero, List.set_cons_succ, Array.toArray_toList]
    refine wpAnyH_take (i := 8) (v := .pointer (some ⟨g, k, none⟩)) rfl (by kernel_rfl) (by kernel_rfl) (by kernel_rfl) (fun _ _ _ h => h) (Or.inl ⟨by rfl, by (intro w hSw; (try dsimp only at hSw); go_simp; try (first | omega | (rw [IntKind.wrap_i64]; omega)))⟩) (by assumption) ?_
    try simp only [List.getElem_toArray, List.getElem_cons_zero, List.getElem_cons_succ, Act.put, List.setIfInBounds_toArray, List.set_cons_zero, List.set_cons_succ, Array.toArray_toList]
    refine wpAnyH_take (i := 9) (v := yv) rfl (by kernel_rfl) (by kernel_rfl) (by kernel_rfl) (fun _ _ _ h => h) (Or.inl ⟨by rfl, by (intro w hSw; (try dsimp only at hSw); go_simp; try (first | omega | (rw [IntKind.wrap_i64]; omega)))⟩) (by assumption) ?_
    try simp only [List.getElem_toArray, List.getElem_cons_zero, List.getElem_cons_succ, Act.put, List.setIfInBounds_toArray, List.set_cons_zero, List.set_cons_succ, Array.toArray_toList]
    refine wpAnyH_ready (rs := [10]) (by kernel_rfl) (by simp) ?_
    refine AllReadyH.cons (i := 10) rfl (fun K hK => ?_) AllReadyH.nil
    go_simp
    refine (HEQ.out _ hxd).mono ?_
    rintro e w5 ⟨rfl, hx5⟩
    refine hK.out _ _ (HSS.out _ (hxd.trans hx5.ext)) (fun hHeld2 => ?_)
    clear hK K hHeld
    try simp only [List.getElem_toArray, List.getElem_cons_zero, List.getElem_cons_succ, Act.put, List.setIfInBounds_toArray, List.set_cons_zero, List.set_cons_succ, Array.toArray_toList]
    refine wpAnyH_done (by kernel_rfl) ?_ _
    refine NoPanic.normal ?_
    have HX5 := Lib.hid (hx.out.trans (hxd.trans hx5.ext))
    cases qq with
    | false =>
      have HNE := HQ
      clear HQ
      go_wp2_with fail
      go_roundw
      case rel => exact ⟨k + 1, by omega, by go_num, fun m h h0 h1 => by
        rcases Nat.lt_succ_iff_lt_or_eq.1 h1 with h2 | rfl
        · exact hd.out m h h0 h2
        · exact HNE.out.symm, HX5.out⟩
      case measure => simp [intOf]; omega
    | true =>
      have HK := Lib.hid (show ddG qP (L.take (k + 1 + 1)) = L.take (k + 1) from by
        rw [ddG_take qP (by omega) hkl, if_pos (by exact HQ.out.symm)]
        exact ddG_rises qP (k + 1) (by omega) hd.out)
      have HC5 := Lib.hid (HC.out.ext HX5.out)
      clear hd HSS HEQ HXE HYE HQ
      go_wp2_with fail
      go_loopw [5, 7] (fun i j wr => ∃ (kk k2 : Nat) (M : List PairR), k + 1 + (k2 + 1) ≤ len ∧ kk ≤ k + 1 + k2 ∧ i = .int .i64 kk ∧ j = .int .i64 (k2 + 1 : Nat) ∧ Hid (kk = (ddG qP (L.take (k + 1 + (k2 + 1)))).length) ∧ M.length = len ∧ Hid (M.take kk = ddG qP (L.take (k + 1 + (k2 + 1)))) ∧ Hid (∀ i (h : i < L.length) (h' : i < M.length), k + 1 + k2 ≤ i → M[i] = L[i]) ∧ Hid (Cells1 wr g M) ∧ Hid (Keep (· = g) w wr)) (fun _ j _ => len - (intOf j).toNat)
      case atStart => exact ⟨k + 1, 0, L, by omega, by omega, rfl, rfl, by show k + 1 = (ddG qP (L.take (k + 1 + 1))).length; rw [HK.out, List.length_take]; omega, HL.out.symm, HK.out.symm, fun i h h' hi => rfl, HC5.out, HX5.out.keep _⟩
      case round =>
        obtain ⟨wi, rfl⟩ : ∃ wi : World, wi = wr := ⟨_, rfl⟩
        obtain ⟨kk, k2, M, hk2, hkk, rfl, rfl, hkl2, hML, hMt, hMi, hMc, hMk⟩ := hrel
        by_cases hlt2 : k + 1 + (k2 + 1) < len
        case neg =>
          have hfull : k + 1 + (k2 + 1) = L.length := by have := HL.out; omega
          have HDL := Lib.hid (show ddG qP (L.take (k + 1 + (k2 + 1))) = ddG qP L from by rw [hfull, List.take_length])
          have HKL := Lib.hid (show (ddG qP L).length = kk from by rw [← HDL.out]; exact hkl2.out.symm)
          obtain ⟨vs, hvs, hcl⟩ := run_clear_R wi g kk (len - kk) (cap - kk) (fun j hj => ⟨by rw [hMc.out.1 (kk + j) (by omega)]; rfl, hMc.out.2 (kk + j) (by omega)⟩)
          have HF1 := Lib.hid (show ∀ i (h : i < (ddG qP L).length), (wi.setCells g kk vs).cell? ⟨g, i, none⟩ = some ((ddG qP L)[i]).2 from fun i h => by
            have hik : i < kk := by rw [← HKL.out]; exact h
            have hc0 := hMc.out.1 i (by omega)
            have e1 : M[i]'(by omega) = (ddG qP L)[i] := by
              have e2 : ddG qP L = M.take kk := by rw [hMt.out, HDL.out]
              simp only [e2, List.getElem_take]
            rw [← e1, ← hc0]
            have hra : wi.rangeAt g i [(M[i]'(by omega)).2] := fun j u hu => by
              cases j with
              | zero => simp at hu; subst hu; simpa using hc0
              | succ j => simp at hu
            have := World.rangeAt_setCells_apart hra g kk vs (.inr (.inl (by simp; omega))) 0 _ rfl
            simpa [hc0] using this)
          have HF2 := Lib.hid (hMk.out.trans (keep_setCells g kk vs))
          clear hMc hMk hMt hMi hvs hkl2
          go_wp2_with fail
          go_ret
          exact ⟨by rw [HKL.out]; rfl, HF1.out, HF2.out⟩
        have hil : k + 1 + (k2 + 1) < L.length := by rw [← HL.out]; exact hlt2
        obtain ⟨x, hxe⟩ : ∃ x, x = M[k + 1 + (k2 + 1)]'(by omega) := ⟨_, rfl⟩
        obtain ⟨y, hye⟩ : ∃ y, y = M[k + 1 + k2]'(by omega) := ⟨_, rfl⟩
        have hcx : ∀ W, Ext wi W → W.cell? ⟨g, k + 1 + (k2 + 1), none⟩ = some x.2 := fun W hW => by rw [hxe]; exact (hMc.out.ext hW).1 (k + 1 + (k2 + 1)) (by omega)
        have hcy : ∀ W, Ext wi W → W.cell? ⟨g, k + 1 + k2, none⟩ = some y.2 := fun W hW => by rw [hye]; exact (hMc.out.ext hW).1 (k + 1 + k2) (by omega)
        have HXE := Lib.hid (show x = L[k + 1 + (k2 + 1)] from by rw [hxe]; exact hMi.out _ hil (by omega) (by omega))
        have HYE := Lib.hid (show y = L[k + 1 + k2]'(by omega) from by rw [hye]; exact hMi.out _ (by omega) (by omega) (by omega))
        have HSS := Lib.hid (fun W (hW : Ext wi W) => (show (fun W => W.cell? ⟨g, k + 1 + (k2 + 1), none⟩ = some x.2 ∧ W.cell? ⟨g, k + 1 + k2, none⟩ = some y.2) W from ⟨hcx W hW, hcy W hW⟩))
        have HEQ := Lib.hid (fun W (hW : Ext wi W) => rows2_any x.1 y.1 x.2 y.2 W (HRO.out W (hMk.out.trans (hW.keep _)) x (by rw [HXE.out]; exact List.getElem_mem _)) (HRO.out W (hMk.out.trans (hW.keep _)) y (by rw [HYE.out]; exact List.getElem_mem _)))
        have hxd := Ext.drew wi
        have hadd : ((k2 : Int) + 1 - 1) = k2 := by omega
        have HQ := Lib.hid (show (cmpR x.1 y.1 == 0) = qP (L[k + 1 + (k2 + 1)]) (L[k + 1 + k2]'(by omega)) from by rw [← HXE.out, ← HYE.out]; rfl)
        obtain ⟨xv, hxv⟩ : ∃ xv, xv = x.2 := ⟨_, rfl⟩
        obtain ⟨yv, hyv⟩ : ∃ yv, yv = y.2 := ⟨_, rfl⟩
        rw [← hxv, ← hyv] at HSS HEQ
        have HXV := Lib.hid hxv
        generalize (cmpR x.1 y.1 == 0) = qq at *
        clear hcx hcy hxe hye hxv hyv
        go_upto_region 11 with fail
        refine wp_region_noPanic ?_
        refine wp_region_held_drew (S := (fun W => W.cell? ⟨g, k + 1 + (k2 + 1), none⟩ = some xv ∧ W.cell? ⟨g, k + 1 + k2, none⟩ = some yv)) (by kernel_rfl) (HSS.out _ hxd) (fun hHeld => ?_)
        refine wpAnyH_take (i := 0) (v := rowsFn) rfl (by kernel_rfl) (by kernel_rfl) (by kernel_rfl) (fun _ _ _ h => h) (Or.inl ⟨by rfl, by (intro w hSw; (try dsimp only at hSw); go_simp; try (first | omega | (rw [IntKind.wrap_i64]; omega)))⟩) (by assumption) ?_
        try simp only [List.getElem_toArray, List.getElem_cons_zero, List.getElem_cons_succ, Act.put, List.setIfInBounds_toArray, List.set_cons_zero, List.set_cons_succ, Array.toArray_toList]
        refine wpAnyH_take (i := 1) (v := .slice (some ⟨g, k + 1, none⟩) (len - (k + 1)) (cap - (k + 1))) rfl (by kernel_rfl) (by kernel_rfl) (by kernel_rfl) (fun _ _ _ h => h) (Or.inl ⟨by rfl, by (intro w hSw; (try dsimp only at hSw); go_simp; try (first | omega | (rw [IntKind.wrap_i64]; omega)))⟩) (by assumption) ?_
        try simp only [List.getElem_toArray, List.getElem_cons_zero, List.getElem_cons_succ, Act.put, List.setIfInBounds_toArray, List.set_cons_zero, List.set_cons_succ, Array.toArray_toList]
        refine wpAnyH_take (i := 2) (v := .int .i64 (k2 + 1 : Nat)) rfl (by kernel_rfl) (by kernel_rfl) (by kernel_rfl) (fun _ _ _ h => h) (Or.inl ⟨by rfl, by (intro w hSw; (try dsimp only at hSw); go_simp; try (first | omega | (rw [IntKind.wrap_i64]; omega)))⟩) (by assumption) ?_
        try simp only [List.getElem_toArray, List.getElem_cons_zero, List.getElem_cons_succ, Act.put, List.setIfInBounds_toArray, List.set_cons_zero, List.set_cons_succ, Array.toArray_toList]
        refine wpAnyH_take (i := 3) (v := .pointer (some ⟨g, k + 1 + (k2 + 1), none⟩)) rfl (by kernel_rfl) (by kernel_rfl) (by kernel_rfl) (fun _ _ _ h => h) (Or.inl ⟨by rfl, by (intro w hSw; (try dsimp only at hSw); go_simp; try (first | omega | (rw [IntKind.wrap_i64]; omega)))⟩) (by assumption) ?_
        try simp only [List.getElem_toArray, List.getElem_cons_zero, List.getElem_cons_succ, Act.put, List.setIfInBounds_toArray, List.set_cons_zero, List.set_cons_succ, Array.toArray_toList]
        refine wpAnyH_take (i := 4) (v := xv) rfl (by kernel_rfl) (by kernel_rfl) (by kernel_rfl) (fun _ _ _ h => h) (Or.inl ⟨by rfl, by (intro w hSw; (try dsimp only at hSw); go_simp; try (first | omega | (rw [IntKind.wrap_i64]; omega)))⟩) (by assumption) ?_
        try simp only [List.getElem_toArray, List.getElem_cons_zero, List.getElem_cons_succ, Act.put, List.setIfInBounds_toArray, List.set_cons_zero, List.set_cons_succ, Array.toArray_toList]
        refine wpAnyH_take (i := 5) (v := .slice (some ⟨g, k + 1, none⟩) (len - (k + 1)) (cap - (k + 1))) rfl (by kernel_rfl) (by kernel_rfl) (by kernel_rfl) (fun _ _ _ h => h) (Or.inl ⟨by rfl, by (intro w hSw; (try dsimp only at hSw); go_simp; try (first | omega | (rw [IntKind.wrap_i64]; omega)))⟩) (by assumption) ?_
        try simp only [List.getElem_toArray, List.getElem_cons_zero, List.getElem_cons_succ, Act.put, List.setIfInBounds_toArray, List.set_cons_zero, List.set_cons_succ, Array.toArray_toList]
        refine wpAnyH_take (i := 6) (v := .int .i64 (k2 + 1 : Nat)) rfl (by kernel_rfl) (by kernel_rfl) (by kernel_rfl) (fun _ _ _ h => h) (Or.inl ⟨by rfl, by (intro w hSw; (try dsimp only at hSw); go_simp; try (first | omega | (rw [IntKind.wrap_i64]; omega)))⟩) (by assumption) ?_
        try simp only [List.getElem_toArray, List.getElem_cons_zero, List.getElem_cons_succ, Act.put, List.setIfInBounds_toArray, List.set_cons_zero, List.set_cons_succ, Array.toArray_toList]
        refine wpAnyH_take (i := 7) (v := .int .i64 k2) rfl (by kernel_rfl) (by kernel_rfl) (by kernel_rfl) (fun _ _ _ h => h) (Or.inl ⟨by rfl, by (intro w hSw; (try dsimp only at hSw); go_simp; try (first | omega | (rw [IntKind.wrap_i64]; omega)))⟩) (by assumption) ?_
        try simp only [List.getElem_toArray, List.getElem_cons_zero, List.getElem_cons_succ, Act.put, List.setIfInBounds_toArray, List.set_cons_zero, List.set_cons_succ, Array.toArray_toList]
        refine wpAnyH_take (i := 8) (v := .pointer (some ⟨g, k + 1 + k2, none⟩)) rfl (by kernel_rfl) (by kernel_rfl) (by kernel_rfl) (fun _ _ _ h => h) (Or.inl ⟨by rfl, by (intro w hSw; (try dsimp only at hSw); go_simp; try (first | omega | (rw [IntKind.wrap_i64]; omega)))⟩) (by assumption) ?_
        try simp only [List.getElem_toArray, List.getElem_cons_zero, List.getElem_cons_succ, Act.put, List.setIfInBounds_toArray, List.set_cons_zero, List.set_cons_succ, Array.toArray_toList]
        refine wpAnyH_take (i := 9) (v := yv) rfl (by kernel_rfl) (by kernel_rfl) (by kernel_rfl) (fun _ _ _ h => h) (Or.inl ⟨by rfl, by (intro w hSw; (try dsimp only at hSw); go_simp; try (first | omega | (rw [IntKind.wrap_i64]; omega)))⟩) (by assumption) ?_
        try simp only [List.getElem_toArray, List.getElem_cons_zero, List.getElem_cons_succ, Act.put, List.setIfInBounds_toArray, List.set_cons_zero, List.set_cons_succ, Array.toArray_toList]
        refine wpAnyH_ready (rs := [10]) (by kernel_rfl) (by simp) ?_
        refine AllReadyH.cons (i := 10) rfl (fun K hK => ?_) AllReadyH.nil
        go_simp
        refine (HEQ.out _ hxd).mono ?_
        rintro e w5 ⟨rfl, hx5⟩
        refine hK.out _ _ (HSS.out _ (hxd.trans hx5.ext)) (fun hHeld2 => ?_)
        clear hK K hHeld
        try simp only [List.getElem_toArray, List.getElem_cons_zero, List.getElem_cons_succ, Act.put, List.setIfInBounds_toArray, List.set_cons_zero, List.set_cons_succ, Array.toArray_toList]
        refine wpAnyH_take (i := 11) (v := .bool (!qq)) rfl (by kernel_rfl) (by kernel_rfl) (by kernel_rfl) (fun _ _ _ h => h) (Or.inl ⟨by rfl, by (intro w hSw; (try dsimp only at hSw); go_simp; try (first | omega | (rw [IntKind.wrap_i64]; omega)))⟩) (by assumption) ?_
        try simp only [List.getElem_toArray, List.getElem_cons_zero, List.getElem_cons_succ, Act.put, List.setIfInBounds_toArray, List.set_cons_zero, List.set_cons_succ, Array.toArray_toList]
        refine wpAnyH_done (by kernel_rfl) ?_ _
        refine NoPanic.normal ?_
        have hx5' : Ext wi w5 := hxd.trans hx5.ext
        have HMC5 := Lib.hid (hMc.out.ext hx5')
        have HMK5 := Lib.hid (hMk.out.trans (hx5'.keep _))
        have HS5 := Lib.hid (HSS.out w5 hx5')
        cases qq with
        | true =>
          have HDT := Lib.hid (show ddG qP (L.take (k + 1 + (k2 + 1 + 1))) = ddG qP (L.take (k + 1 + (k2 + 1))) from by
            have := ddG_take qP (l := L) (i := k + 1 + (k2 + 1)) (by omega) hil
            rw [show k + 1 + (k2 + 1) + 1 = k + 1 + (k2 + 1 + 1) from by omega, if_pos (by exact HQ.out.symm)] at this
            exact this)
          clear HSS HEQ HXE HYE hMc hMk HQ
          go_wp2_with fail
          go_roundw
          case rel => exact ⟨kk, k2 + 1, M, by omega, by omega, rfl, by go_num, by rw [HDT.out]; exact hkl2.out, hML, by rw [HDT.out]; exact hMt.out, fun i h h' hi => hMi.out i h h' (by omega), HMC5.out, HMK5.out⟩
          case measure => simp [intOf]; omega
        | false =>
          have HDT := Lib.hid (show ddG qP (L.take (k + 1 + (k2 + 1 + 1))) = ddG qP (L.take (k + 1 + (k2 + 1))) ++ [x] from by
            have := ddG_take qP (l := L) (i := k + 1 + (k2 + 1)) (by omega) hil
            rw [show k + 1 + (k2 + 1) + 1 = k + 1 + (k2 + 1 + 1) from by omega, if_neg (by
              have h := HQ.out
              intro h2
              have h3 : qP (L[k + 1 + (k2 + 1)]) (L[k + 1 + k2]'(by omega)) = true := h2
              rw [← h] at h3; cases h3), ← HXE.out] at this
            exact this)
          have hkM : kk < M.length := by omega
          have HMC6 := Lib.hid (show Cells1 (w5.setCell ⟨g, kk, none⟩ xv) g (M.set kk x) from by rw [HXV.out]; exact HMC5.out.set kk hkM x)
          have hfz := HMC5.out.2 kk hkM
          have hck := HMC5.out.1 kk hkM
          have HMK6 := Lib.hid (HMK5.out.trans (Keep.set (S := (· = g)) w5 ⟨g, kk, none⟩ xv rfl))
          have HMt6 := Lib.hid (show (M.set kk x).take (kk + 1) = ddG qP (L.take (k + 1 + (k2 + 1 + 1))) from by
            rw [HDT.out, ← hMt.out, List.take_succ_eq_append_getElem (by rw [List.length_set]; exact hkM), List.getElem_set_self, List.take_set_of_le (Nat.le_refl _)])
          have HMi6 := Lib.hid (show ∀ i (h : i < L.length) (h' : i < (M.set kk x).length), k + 1 + (k2 + 1) ≤ i → (M.set kk x)[i] = L[i] from fun i h h' hi => by
            rw [List.getElem_set_ne (by omega)]
            exact hMi.out i h (by rw [List.length_set] at h'; exact h') (by omega))
          obtain ⟨s1, s2⟩ := HS5.out
          obtain ⟨pf, nf, cf, hf⟩ : ∃ p n c, xv = .slice p n c := by
            rw [HXV.out]
            obtain ⟨p, c, he, -⟩ := (HRO.out wi hMk.out x (by rw [HXE.out]; exact List.getElem_mem _)).form
            exact ⟨p, _, c, he⟩
          subst hf
          obtain ⟨ov, hov⟩ : ∃ ov, ov = (M[kk]).2 := ⟨_, rfl⟩
          rw [← hov] at hck
          clear HSS HEQ HXE HYE hMc hMk hMt hMi s2 hov
          go_wp2_with fail
          go_roundw
          case rel => exact ⟨kk + 1, k2 + 1, M.set kk x, by omega, by omega, by go_num, by go_num, by rw [HDT.out, List.length_append, ← hkl2.out]; rfl, by rw [List.length_set]; exact hML, HMt6.out, HMi6.out, HMC6.out, HMK6.out⟩
          case measure => simp [intOf]; omega
end Go.Proofs.YtehdddilcakmlaaDoor
