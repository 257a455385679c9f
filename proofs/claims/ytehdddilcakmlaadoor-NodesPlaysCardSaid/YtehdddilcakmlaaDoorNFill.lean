/- law 20's fill. -/
import Derived.Test.YtehdddilcakmlaaDoorNGreat
import Derived.Test.YtehdddilcakmlaaDoorNWakes
namespace Go.Proofs.YtehdddilcakmlaaDoor
open Go.RowKit Go.Sort Go.Maps Go.Lib
set_option linter.unusedSimpArgs false

def stepA (L : List NdD) (x : ActD) : List NdD := if x.d = 0 then (leafP L x.rows).2 else if x.d = 1 then (testP L x.f x.n x.hi x.lo).2 else L
def fillP (l : List ActD) : List NdD := l.foldl stepA []
theorem take_step {α β : Type} (f : β → α → β) (z : β) (l : List α) (i : Nat) (h : i < l.length) : (l.take (i + 1)).foldl f z = f ((l.take i).foldl f z) l[i] := by
  rw [List.take_succ_eq_append_getElem h, List.foldl_append]
  rfl
def FillPost (l : List ActD) (w : World) (e : Ending) (w' : World) : Prop := ∃ p, e = .returned (.pointer (some ⟨p, 0, none⟩)) ∧ Did w w' p (fillP l)

set_option maxHeartbeats 8000000 in
set_option maxRecDepth 100000 in
theorem fill_any (l : List ActD) (v : Value) (w : World) (h : ActsOn w l v) (hs : ∀ x ∈ l, Sm x) (ht : Tb w) :
    Calls Tryd.prog 19 #[v] w (FillPost l w) := by
  have HAC := Lib.hid h
  have HTB := Lib.hid ht
  have HSM := Lib.hid hs
  obtain ⟨pa, la, ca, rfl, hla, hlc, hcm, hlm, -⟩ := h
  have HLA := Lib.hid hla
  have HAT := Lib.hid (actsAt HAC.out)
  clear hla HAC ht hs
  go_enter Tryd.func19, Tryd.ntmps19
  go_wp2_with fail
  refine (newO w).mono ?_
  rintro e w1 ⟨p, rfl, hd⟩
  have HD1 := Lib.hid hd
  clear hd
  go_wp2_with fail
  go_loopw [4] (fun i wr => ∃ I : Nat, I ≤ la ∧ i = .int .i64 I ∧ Hid (Did w wr p ((l.take I).foldl stepA []))) (fun i _ => la - (intOf i).toNat)
  case atStart => exact ⟨0, Nat.zero_le _, rfl, HD1.out⟩
  case round =>
    obtain ⟨wo, rfl⟩ : ∃ wo : World, wo = wr := ⟨_, rfl⟩
    obtain ⟨I, hI, rfl, hd⟩ := hrel
    by_cases h2 : I < la
    case neg =>
      have HF := Lib.hid (show Did w wo p (fillP l) from by
        have h3 := hd.out
        rw [List.take_of_length_le (by have := HLA.out; omega)] at h3
        exact h3)
      clear hd
      go_wp2_with fail
      go_ret
      exact ⟨p, rfl, HF.out⟩
    have hIl : I < l.length := by rw [← HLA.out]; exact h2
    obtain ⟨b, o, q, m, c, rfl, hcs, hrow, -, hok⟩ := HAT.out wo hd.out.ex I hIl
    obtain ⟨x, hx⟩ : ∃ x, x = l[I] := ⟨_, rfl⟩
    obtain ⟨L, hL⟩ : ∃ L, L = (l.take I).foldl stepA [] := ⟨_, rfl⟩
    have HST := Lib.hid (show (l.take (I + 1)).foldl stepA [] = stepA L x from by rw [take_step _ _ _ _ hIl, hL, hx])
    have HS := Lib.hid (show Sm x from by rw [hx]; exact HSM.out _ (List.getElem_mem _))
    rw [← hx] at hcs hrow hok
    rw [← hL] at hd
    clear hx hL
    obtain ⟨f, n, hi, lo, d⟩ : ∃ (f n hi lo d : Int), True := ⟨0, 0, 0, 0, 0, trivial⟩
    have c0 : wo.cell? ⟨b, o + I * 6, none⟩ = some (.int .i64 x.d) := by simpa using hcs 0 _ rfl
    have c1 : wo.cell? ⟨b, o + I * 6 + 1, none⟩ = some (.slice q m c) := hcs 1 _ rfl
    have c2 : wo.cell? ⟨b, o + I * 6 + 2, none⟩ = some (.int .i8 x.f) := hcs 2 _ rfl
    have c3 : wo.cell? ⟨b, o + I * 6 + 3, none⟩ = some (.int .u64 x.n) := hcs 3 _ rfl
    have c4 : wo.cell? ⟨b, o + I * 6 + 4, none⟩ = some (.int .i64 x.hi) := hcs 4 _ rfl
    have c5 : wo.cell? ⟨b, o + I * 6 + 5, none⟩ = some (.int .i64 x.lo) := hcs 5 _ rfl
    have HLV := Lib.hid (leafO p L x.rows (.slice q m c) wo hd.out hrow (by have := HS.out.1; omega) (fun r hr => by have := HS.out.2 r hr; omega) (HTB.out.ext hd.out.ex))
    have HTV := Lib.hid (fun W (hW : Ext wo W) => testO p L x.f x.n x.hi x.lo W (hd.out.ext hW) hok.2.1 hok.2.2.1 hok.2.2.2.1 hok.2.2.2.2.1)
    clear hcs hrow hok
    by_cases h0 : x.d = 0
    · have HN := Lib.hid (show stepA L x = (leafP L x.rows).2 from by unfold stepA; rw [if_pos h0])
      rw [h0] at c0
      clear h0 c2 c3 c4 c5
      go_wp2_with fail
      refine HLV.out.mono ?_
      rintro e w2 ⟨rfl, hd2⟩
      have HD2 := Lib.hid (show Did w w2 p ((l.take (I + 1)).foldl stepA []) from by rw [HST.out, HN.out]; exact hd2)
      clear hd2 c0 c1 HLV HTV
      go_wp2_with fail
      go_roundw
      case rel => exact ⟨I + 1, by omega, by go_num, HD2.out⟩
      case measure => simp [intOf]; omega
    by_cases h1 : x.d = 1
    case neg =>
      have HD2 := Lib.hid (show Did w wo p ((l.take (I + 1)).foldl stepA []) from by rw [HST.out]; unfold stepA; rw [if_neg h0, if_neg h1]; exact hd.out)
      clear HLV HTV hd
      go_wp2_with fail
      go_roundw
      case rel => exact ⟨I + 1, by omega, by go_num, HD2.out⟩
      case measure => simp [intOf]; omega
    have HN := Lib.hid (show stepA L x = (testP L x.f x.n x.hi x.lo).2 from by unfold stepA; rw [if_neg h0, if_pos h1])
    rw [h1] at c0
    clear h0 h1 HLV
    have hz0 : Ext wo wo.drew := Ext.drew _
    have HAA := Lib.hid (show World.cell? wo ⟨b, o + I * 6 + 2, none⟩ = some (.int .i8 x.f) ∧ wo.cell? ⟨b, o + I * 6 + 3, none⟩ = some (.int .u64 x.n) ∧ wo.cell? ⟨b, o + I * 6 + 4, none⟩ = some (.int .i64 x.hi) ∧ wo.cell? ⟨b, o + I * 6 + 5, none⟩ = some (.int .i64 x.lo) from ⟨c2, c3, c4, c5⟩)
    have HBL := Lib.hid (show b < w.heap.size from by
      obtain ⟨b', o', q', m', c', hb', hcs', -⟩ := HAT.out w (Ext.refl _) I hIl
      cases hb'
      exact World.block_lt_of_cell? _ _ (hcs' 0 _ rfl))
    have HSS := Lib.hid (show ∀ W : World, (∀ k, W.cell? ⟨b, k, none⟩ = wo.cell? ⟨b, k, none⟩) → (fun W => W.cell? ⟨b, o + I * 6 + 2, none⟩ = some (.int .i8 x.f) ∧ W.cell? ⟨b, o + I * 6 + 3, none⟩ = some (.int .u64 x.n) ∧ W.cell? ⟨b, o + I * 6 + 4, none⟩ = some (.int .i64 x.hi) ∧ W.cell? ⟨b, o + I * 6 + 5, none⟩ = some (.int .i64 x.lo)) W from fun W hW =>
      ⟨by rw [hW]; exact HAA.out.1, by rw [hW]; exact HAA.out.2.1, by rw [hW]; exact HAA.out.2.2.1, by rw [hW]; exact HAA.out.2.2.2⟩)
    have HSE := Lib.hid (show ∀ W : World, Ext w W → ∀ k, W.cell? ⟨b, k, none⟩ = wo.cell? ⟨b, k, none⟩ from fun W hW k => by
      exact (World.cell?_of_block (a := ⟨b, k, none⟩) (Below.block hW b HBL.out)).trans (World.cell?_of_block (a := ⟨b, k, none⟩) (Below.block hd.out.ex b HBL.out)).symm)
    clear c2 c3 c4 c5
    go_upto_region 9 with fail
    refine wp_region_noPanic ?_
    refine wp_region_held_drew (S := (fun W => W.cell? ⟨b, o + I * 6 + 2, none⟩ = some (.int .i8 x.f) ∧ W.cell? ⟨b, o + I * 6 + 3, none⟩ = some (.int .u64 x.n) ∧ W.cell? ⟨b, o + I * 6 + 4, none⟩ = some (.int .i64 x.hi) ∧ W.cell? ⟨b, o + I * 6 + 5, none⟩ = some (.int .i64 x.lo))) (by kernel_rfl) (HSS.out _ (HSE.out _ (hd.out.ex.trans hz0))) (fun hHeld => ?_)
    refine wpAnyH_take (i := 0) (v := .pointer (some ⟨p, 0, none⟩)) rfl (by kernel_rfl) (by kernel_rfl) (by kernel_rfl) (fun _ _ _ h => h) (Or.inl ⟨by rfl, by (intro w hSw; (try dsimp only at hSw); go_simp; try (first | omega | (rw [IntKind.wrap_i64]; omega)))⟩) (by assumption) ?_
    try simp only [List.getElem_toArray, List.getElem_cons_zero, List.getElem_cons_succ, Act.put, List.setIfInBounds_toArray, List.set_cons_zero, List.set_cons_succ, Array.toArray_toList]
    refine wpAnyH_take (i := 1) (v := .slice (some ⟨b, o, none⟩) la ca) rfl (by kernel_rfl) (by kernel_rfl) (by kernel_rfl) (fun _ _ _ h => h) (Or.inl ⟨by rfl, by (intro w hSw; (try dsimp only at hSw); go_simp; try (first | omega | (rw [IntKind.wrap_i64]; omega)))⟩) (by assumption) ?_
    try simp only [List.getElem_toArray, List.getElem_cons_zero, List.getElem_cons_succ, Act.put, List.setIfInBounds_toArray, List.set_cons_zero, List.set_cons_succ, Array.toArray_toList]
    refine wpAnyH_take (i := 2) (v := .int .i64 I) rfl (by kernel_rfl) (by kernel_rfl) (by kernel_rfl) (fun _ _ _ h => h) (Or.inl ⟨by rfl, by (intro w hSw; (try dsimp only at hSw); go_simp; try (first | omega | (rw [IntKind.wrap_i64]; omega)))⟩) (by assumption) ?_
    try simp only [List.getElem_toArray, List.getElem_cons_zero, List.getElem_cons_succ, Act.put, List.setIfInBounds_toArray, List.set_cons_zero, List.set_cons_succ, Array.toArray_toList]
    refine wpAnyH_take (i := 3) (v := .pointer (some ⟨b, o + I * 6, none⟩)) rfl (by kernel_rfl) (by kernel_rfl) (by kernel_rfl) (fun _ _ _ h => h) (Or.inl ⟨by rfl, by (intro w hSw; (try dsimp only at hSw); go_simp; try (first | omega | (rw [IntKind.wrap_i64]; omega)))⟩) (by assumption) ?_
    try simp only [List.getElem_toArray, List.getElem_cons_zero, List.getElem_cons_succ, Act.put, List.setIfInBounds_toArray, List.set_cons_zero, List.set_cons_succ, Array.toArray_toList]
    refine wpAnyH_take (i := 4) (v := .pointer (some ⟨b, o + I * 6 + 2, none⟩)) rfl (by kernel_rfl) (by kernel_rfl) (by kernel_rfl) (fun _ _ _ h => h) (Or.inl ⟨by rfl, by (intro w hSw; (try dsimp only at hSw); go_simp; try (first | omega | (rw [IntKind.wrap_i64]; omega)))⟩) (by assumption) ?_
    try simp only [List.getElem_toArray, List.getElem_cons_zero, List.getElem_cons_succ, Act.put, List.setIfInBounds_toArray, List.set_cons_zero, List.set_cons_succ, Array.toArray_toList]
    refine wpAnyH_take (i := 5) (v := .int .i8 x.f) rfl (by kernel_rfl) (by kernel_rfl) (by kernel_rfl) (fun _ _ _ h => h) (Or.inl ⟨by rfl, by (intro w hSw; (try dsimp only at hSw); go_simp; try (first | omega | (rw [IntKind.wrap_i64]; omega)))⟩) (by assumption) ?_
    try simp only [List.getElem_toArray, List.getElem_cons_zero, List.getElem_cons_succ, Act.put, List.setIfInBounds_toArray, List.set_cons_zero, List.set_cons_succ, Array.toArray_toList]
    refine wpAnyH_take (i := 6) (v := .slice (some ⟨b, o, none⟩) la ca) rfl (by kernel_rfl) (by kernel_rfl) (by kernel_rfl) (fun _ _ _ h => h) (Or.inl ⟨by rfl, by (intro w hSw; (try dsimp only at hSw); go_simp; try (first | omega | (rw [IntKind.wrap_i64]; omega)))⟩) (by assumption) ?_
    try simp only [List.getElem_toArray, List.getElem_cons_zero, List.getElem_cons_succ, Act.put, List.setIfInBounds_toArray, List.set_cons_zero, List.set_cons_succ, Array.toArray_toList]
    refine wpAnyH_take (i := 7) (v := .int .i64 I) rfl (by kernel_rfl) (by kernel_rfl) (by kernel_rfl) (fun _ _ _ h => h) (Or.inl ⟨by rfl, by (intro w hSw; (try dsimp only at hSw); go_simp; try (first | omega | (rw [IntKind.wrap_i64]; omega)))⟩) (by assumption) ?_
    try simp only [List.getElem_toArray, List.getElem_cons_zero, List.getElem_cons_succ, Act.put, List.setIfInBounds_toArray, List.set_cons_zero, List.set_cons_succ, Array.toArray_toList]
    refine wpAnyH_take (i := 8) (v := .pointer (some ⟨b, o + I * 6, none⟩)) rfl (by kernel_rfl) (by kernel_rfl) (by kernel_rfl) (fun _ _ _ h => h) (Or.inl ⟨by rfl, by (intro w hSw; (try dsimp only at hSw); go_simp; try (first | omega | (rw [IntKind.wrap_i64]; omega)))⟩) (by assumption) ?_
    try simp only [List.getElem_toArray, List.getElem_cons_zero, List.getElem_cons_succ, Act.put, List.setIfInBounds_toArray, List.set_cons_zero, List.set_cons_succ, Array.toArray_toList]
    refine wpAnyH_take (i := 9) (v := .pointer (some ⟨b, o + I * 6 + 3, none⟩)) rfl (by kernel_rfl) (by kernel_rfl) (by kernel_rfl) (fun _ _ _ h => h) (Or.inl ⟨by rfl, by (intro w hSw; (try dsimp only at hSw); go_simp; try (first | omega | (rw [IntKind.wrap_i64]; omega)))⟩) (by assumption) ?_
    try simp only [List.getElem_toArray, List.getElem_cons_zero, List.getElem_cons_succ, Act.put, List.setIfInBounds_toArray, List.set_cons_zero, List.set_cons_succ, Array.toArray_toList]
    refine wpAnyH_take (i := 10) (v := .int .u64 x.n) rfl (by kernel_rfl) (by kernel_rfl) (by kernel_rfl) (fun _ _ _ h => h) (Or.inl ⟨by rfl, by (intro w hSw; (try dsimp only at hSw); go_simp; try (first | omega | (rw [IntKind.wrap_i64]; omega)))⟩) (by assumption) ?_
    try simp only [List.getElem_toArray, List.getElem_cons_zero, List.getElem_cons_succ, Act.put, List.setIfInBounds_toArray, List.set_cons_zero, List.set_cons_succ, Array.toArray_toList]
    refine wpAnyH_take (i := 11) (v := .slice (some ⟨b, o, none⟩) la ca) rfl (by kernel_rfl) (by kernel_rfl) (by kernel_rfl) (fun _ _ _ h => h) (Or.inl ⟨by rfl, by (intro w hSw; (try dsimp only at hSw); go_simp; try (first | omega | (rw [IntKind.wrap_i64]; omega)))⟩) (by assumption) ?_
    try simp only [List.getElem_toArray, List.getElem_cons_zero, List.getElem_cons_succ, Act.put, List.setIfInBounds_toArray, List.set_cons_zero, List.set_cons_succ, Array.toArray_toList]
    refine wpAnyH_take (i := 12) (v := .int .i64 I) rfl (by kernel_rfl) (by kernel_rfl) (by kernel_rfl) (fun _ _ _ h => h) (Or.inl ⟨by rfl, by (intro w hSw; (try dsimp only at hSw); go_simp; try (first | omega | (rw [IntKind.wrap_i64]; omega)))⟩) (by assumption) ?_
    try simp only [List.getElem_toArray, List.getElem_cons_zero, List.getElem_cons_succ, Act.put, List.setIfInBounds_toArray, List.set_cons_zero, List.set_cons_succ, Array.toArray_toList]
    refine wpAnyH_take (i := 13) (v := .pointer (some ⟨b, o + I * 6, none⟩)) rfl (by kernel_rfl) (by kernel_rfl) (by kernel_rfl) (fun _ _ _ h => h) (Or.inl ⟨by rfl, by (intro w hSw; (try dsimp only at hSw); go_simp; try (first | omega | (rw [IntKind.wrap_i64]; omega)))⟩) (by assumption) ?_
    try simp only [List.getElem_toArray, List.getElem_cons_zero, List.getElem_cons_succ, Act.put, List.setIfInBounds_toArray, List.set_cons_zero, List.set_cons_succ, Array.toArray_toList]
    refine wpAnyH_take (i := 14) (v := .pointer (some ⟨b, o + I * 6 + 4, none⟩)) rfl (by kernel_rfl) (by kernel_rfl) (by kernel_rfl) (fun _ _ _ h => h) (Or.inl ⟨by rfl, by (intro w hSw; (try dsimp only at hSw); go_simp; try (first | omega | (rw [IntKind.wrap_i64]; omega)))⟩) (by assumption) ?_
    try simp only [List.getElem_toArray, List.getElem_cons_zero, List.getElem_cons_succ, Act.put, List.setIfInBounds_toArray, List.set_cons_zero, List.set_cons_succ, Array.toArray_toList]
    refine wpAnyH_take (i := 15) (v := .int .i64 x.hi) rfl (by kernel_rfl) (by kernel_rfl) (by kernel_rfl) (fun _ _ _ h => h) (Or.inl ⟨by rfl, by (intro w hSw; (try dsimp only at hSw); go_simp; try (first | omega | (rw [IntKind.wrap_i64]; omega)))⟩) (by assumption) ?_
    try simp only [List.getElem_toArray, List.getElem_cons_zero, List.getElem_cons_succ, Act.put, List.setIfInBounds_toArray, List.set_cons_zero, List.set_cons_succ, Array.toArray_toList]
    refine wpAnyH_take (i := 16) (v := .slice (some ⟨b, o, none⟩) la ca) rfl (by kernel_rfl) (by kernel_rfl) (by kernel_rfl) (fun _ _ _ h => h) (Or.inl ⟨by rfl, by (intro w hSw; (try dsimp only at hSw); go_simp; try (first | omega | (rw [IntKind.wrap_i64]; omega)))⟩) (by assumption) ?_
    try simp only [List.getElem_toArray, List.getElem_cons_zero, List.getElem_cons_succ, Act.put, List.setIfInBounds_toArray, List.set_cons_zero, List.set_cons_succ, Array.toArray_toList]
    refine wpAnyH_take (i := 17) (v := .int .i64 I) rfl (by kernel_rfl) (by kernel_rfl) (by kernel_rfl) (fun _ _ _ h => h) (Or.inl ⟨by rfl, by (intro w hSw; (try dsimp only at hSw); go_simp; try (first | omega | (rw [IntKind.wrap_i64]; omega)))⟩) (by assumption) ?_
    try simp only [List.getElem_toArray, List.getElem_cons_zero, List.getElem_cons_succ, Act.put, List.setIfInBounds_toArray, List.set_cons_zero, List.set_cons_succ, Array.toArray_toList]
    refine wpAnyH_take (i := 18) (v := .pointer (some ⟨b, o + I * 6, none⟩)) rfl (by kernel_rfl) (by kernel_rfl) (by kernel_rfl) (fun _ _ _ h => h) (Or.inl ⟨by rfl, by (intro w hSw; (try dsimp only at hSw); go_simp; try (first | omega | (rw [IntKind.wrap_i64]; omega)))⟩) (by assumption) ?_
    try simp only [List.getElem_toArray, List.getElem_cons_zero, List.getElem_cons_succ, Act.put, List.setIfInBounds_toArray, List.set_cons_zero, List.set_cons_succ, Array.toArray_toList]
    refine wpAnyH_take (i := 19) (v := .pointer (some ⟨b, o + I * 6 + 5, none⟩)) rfl (by kernel_rfl) (by kernel_rfl) (by kernel_rfl) (fun _ _ _ h => h) (Or.inl ⟨by rfl, by (intro w hSw; (try dsimp only at hSw); go_simp; try (first | omega | (rw [IntKind.wrap_i64]; omega)))⟩) (by assumption) ?_
    try simp only [List.getElem_toArray, List.getElem_cons_zero, List.getElem_cons_succ, Act.put, List.setIfInBounds_toArray, List.set_cons_zero, List.set_cons_succ, Array.toArray_toList]
    refine wpAnyH_take (i := 20) (v := .int .i64 x.lo) rfl (by kernel_rfl) (by kernel_rfl) (by kernel_rfl) (fun _ _ _ h => h) (Or.inl ⟨by rfl, by (intro w hSw; (try dsimp only at hSw); go_simp; try (first | omega | (rw [IntKind.wrap_i64]; omega)))⟩) (by assumption) ?_
    try simp only [List.getElem_toArray, List.getElem_cons_zero, List.getElem_cons_succ, Act.put, List.setIfInBounds_toArray, List.set_cons_zero, List.set_cons_succ, Array.toArray_toList]
    refine wpAnyH_ready (rs := [21]) (by kernel_rfl) (by simp) ?_
    refine AllReadyH.cons (i := 21) rfl (fun K hK => ?_) AllReadyH.nil
    go_simp
    go_at_call 13
    refine (HTV.out _ hz0).mono ?_
    rintro e w2 ⟨rfl, hd2⟩
    refine hK.out _ _ (HSS.out _ (HSE.out _ hd2.ex)) (fun hHeld1 => ?_)
    clear hK K
    try simp only [List.getElem_toArray, List.getElem_cons_zero, List.getElem_cons_succ, Act.put, List.setIfInBounds_toArray, List.set_cons_zero, List.set_cons_succ, Array.toArray_toList]
    refine wpAnyH_done (by kernel_rfl) ?_ _
    refine NoPanic.normal ?_
    have HD2 := Lib.hid (show Did w w2 p ((l.take (I + 1)).foldl stepA []) from by rw [HST.out, HN.out]; exact hd2)
    clear hd2 c0 c1 HTV hHeld hHeld1
    go_wp2_with fail
    go_roundw
    case rel => exact ⟨I + 1, by omega, by go_num, HD2.out⟩
    case measure => simp [intOf]; omega
end Go.Proofs.YtehdddilcakmlaaDoor
