/- slices.CompactFunc of headers, walked. -/
import Derived.Test.YtddeelepaiklgaaJCompact
import Derived.Deep.Upon
namespace Go.Proofs.Ytddeelepaiklgaa
open Go.RowKit Go.Maps Go.Sort
set_option linter.unusedSimpArgs false

theorem there_keep {w w' : World} {g o n : Nat} (h : w.there g o n) (hx : Ext w w') : w'.there g o n := fun j hj => by
  obtain ⟨v, hv⟩ := Option.isSome_iff_exists.1 (h j hj).1
  refine ⟨by rw [hx.later _ _ hv]; rfl, ?_⟩
  rw [Below.frozen hx (World.block_lt_of_cell? w _ hv)]
  exact (h j hj).2
theorem keep_setCells {w : World} (g o : Nat) (vs : List Value) : Keep (· = g) w (w.setCells g o vs) :=
  ⟨World.os_setCells _ _ _ _, by
    have : ∀ (vs : List Value) (o : Nat) (w : World), (w.setCells g o vs).tape = w.tape := by
      intro vs
      induction vs with
      | nil => intros; rfl
      | cons v r ih => intro o w; exact (ih (o + 1) _).trans rfl
    exact this vs o w, World.output_setCells _ _ _ _, by simp, fun i hi hs => World.heap_setCells_other w g o vs hi hs⟩
theorem flatH_len (l : List Hdr) : (flatH l).length = l.length * 11 := by
  induction l with
  | nil => rfl
  | cons x xs ih =>
    have e : flatH (x :: xs) = x.cs.toList ++ flatH xs := by simp [flatH]
    rw [e, List.length_append, ih, Hdr.len_cs, List.length_cons]; omega
/-- a row with one header set anew -/
theorem range_set {w : World} {g : Nat} {M : List Hdr} (h : w.rangeAt g 0 (flatH M)) (k : Nat) (hk : k < M.length) (x : Hdr) (ht : w.there g 0 (M.length * 11)) :
    (w.setCells g (k * 11) x.cs.toList).rangeAt g 0 (flatH (M.set k x)) := by
  have hl := x.len_cs
  have h1 : (w.setCells g (k * 11) x.cs.toList).rangeAt g (k * 11) x.cs.toList := World.rangeAt_setCells_same w g (k * 11) _ (fun j hj => by
    rw [hl] at hj
    have := ht (k * 11 + j) (by omega)
    simpa using this)
  have hM : M = M.take k ++ M[k] :: M.drop (k + 1) := by rw [← List.drop_eq_getElem_cons hk, List.take_append_drop]
  have hset : M.set k x = M.take k ++ x :: M.drop (k + 1) := by rw [List.set_eq_take_append_cons_drop, if_pos hk]
  have e0 : flatH M = flatH (M.take k) ++ ((M[k]).cs.toList ++ flatH (M.drop (k + 1))) := by
    refine (congrArg flatH hM).trans ?_
    simp only [flatH, List.flatMap_append, List.flatMap_cons]
  have e1 : flatH (M.set k x) = flatH (M.take k) ++ (x.cs.toList ++ flatH (M.drop (k + 1))) := by rw [hset]; simp [flatH]
  have l0 : (flatH (M.take k)).length = k * 11 := by rw [flatH_len, List.length_take]; congr 1; omega
  rw [e0] at h
  rw [e1]
  have ha : w.rangeAt g 0 (flatH (M.take k)) := fun j v hv => h j v (by rw [List.getElem?_append_left (List.getElem?_eq_some_iff.1 hv).1]; exact hv)
  have hb : w.rangeAt g (k * 11 + 11) (flatH (M.drop (k + 1))) := fun j v hv => by
    have := h (k * 11 + (11 + j)) v (by
      rw [List.getElem?_append_right (by omega), l0, show k * 11 + (11 + j) - k * 11 = 11 + j from by omega, List.getElem?_append_right (by rw [Hdr.len_cs]; omega), Hdr.len_cs, show 11 + j - 11 = j from by omega]
      exact hv)
    rwa [Nat.zero_add, ← Nat.add_assoc] at this
  have ha2 := World.rangeAt_setCells_apart ha g (k * 11) x.cs.toList (.inr (.inl (by rw [l0]; omega)))
  have hb2 := World.rangeAt_setCells_apart hb g (k * 11) x.cs.toList (.inr (.inr (by rw [hl]; omega)))
  intro j v hv
  rcases Nat.lt_or_ge j (k * 11) with hj | hj
  · refine ha2 j v ?_
    rwa [List.getElem?_append_left (by rw [l0]; exact hj)] at hv
  · rw [List.getElem?_append_right (by rw [l0]; exact hj), l0] at hv
    rcases Nat.lt_or_ge (j - k * 11) 11 with hj2 | hj2
    · rw [List.getElem?_append_left (by rw [hl]; exact hj2)] at hv
      have := h1 (j - k * 11) v hv
      rwa [show k * 11 + (j - k * 11) = 0 + j from by omega] at this
    · rw [List.getElem?_append_right (by rw [hl]; exact hj2), hl] at hv
      have := hb2 (j - k * 11 - 11) v hv
      rwa [show k * 11 + 11 + (j - k * 11 - 11) = 0 + j from by omega] at this
theorem range_head {w : World} {g : Nat} {M D : List Hdr} (h : w.rangeAt g 0 (flatH M)) (hD : M.take D.length = D) : w.rangeAt g 0 (flatH D) := fun j v hv => h j v (by
  have e : flatH M = flatH D ++ flatH (M.drop D.length) := by
    conv => lhs; rw [← List.take_append_drop D.length M, hD]
    simp [flatH]
  rw [e, List.getElem?_append_left (List.getElem?_eq_some_iff.1 hv).1]; exact hv)

set_option maxHeartbeats 4000000 in
set_option maxRecDepth 100000 in
theorem compact_any (l : List Hdr) (g len cap p : Nat) (w : World) (hlen : len = l.length) (hcap : len ≤ cap) (hmax : cap ≤ 9223372036854775807) (hr : w.rangeAt g 0 (flatH l)) (ht : w.there g 0 (len * 11)) (hp : w.cell? ⟨p, 0, none⟩ = some ordFun) (hpg : p ≠ g) :
    Calls Try.prog 46 #[.slice (some ⟨g, 0, none⟩) len cap, eqFun p] w fun e w' => e = .returned (.slice (some ⟨g, 0, none⟩) (dd l).length cap) ∧ w'.rangeAt g 0 (flatH (dd l)) ∧ Keep (· = g) w w' := by
  have HL := Lib.hid hlen
  have HR := Lib.hid (fun W (hW : Ext w W) => World.rangeAt.later hW.later hr)
  have HTH := Lib.hid (fun W (hW : Ext w W) => there_keep ht hW)
  have HPC := Lib.hid (fun W (hW : Keep (· = g) w W) => hW.cell hp (show ¬ p = g from hpg))
  have eg : ∀ args w, (callFunc 47 args).run Try.prog w = .ok (.enter 47 args) w := enters_of Try.func47 (by kernel_rfl) rfl
  have HHU := Lib.hid (show Try.prog.underlying 24 = some (.array 11 22) from Try.underlying24)
  have HHI := Lib.hid (fun (x : Hdr) => show (Try.prog.info? 24).map (·.size) = some x.cs.toList.length from by rw [x.len_cs]; kernel_rfl)
  clear hlen hr ht hp
  by_cases h2 : len < 2
  · have HF := Lib.hid (show dd l = l from by
      have hll : l.length < 2 := by rw [← HL.out]; exact h2
      match l, hll with
      | [], _ => rfl
      | [x], _ => rfl)
    go_enter Try.func46, Try.ntmps46
    go_wp2_with fail
    go_ret
    exact ⟨by rw [HF.out, ← HL.out]; rfl, by rw [HF.out]; exact HR.out _ (Ext.refl _), Keep.refl _ _⟩
  go_enter Try.func46, Try.ntmps46
  go_wp2_with fail
  go_loopw [5] (fun i wr => ∃ k : Nat, k + 1 ≤ len ∧ i = .int .i64 (k + 1 : Nat) ∧ Hid (∀ m (h : m < l.length), 0 < m → m < k + 1 → l[m - 1] ≠ l[m]) ∧ Hid (Ext w wr)) (fun i _ => len - (intOf i).toNat)
  case atStart => exact ⟨0, by omega, rfl, fun m h h0 h1 => by omega, Ext.refl _⟩
  case round =>
    obtain ⟨wo, rfl⟩ : ∃ wo : World, wo = wr := ⟨_, rfl⟩
    obtain ⟨k, hk, rfl, hd, hx⟩ := hrel
    by_cases hlt : k + 1 < len
    · have hkl : k + 1 < l.length := by rw [← HL.out]; exact hlt
      have hrx := fun W (hW : Ext wo W) => rangeAt_get Hdr.len_cs (HR.out W (hx.out.trans hW)) (k + 1) hkl
      have hry := fun W (hW : Ext wo W) => rangeAt_get Hdr.len_cs (HR.out W (hx.out.trans hW)) k (by omega)
      simp only [Nat.zero_add] at hrx hry
      have HXK := Lib.hid (show ∃ x, x = l[k + 1] from ⟨_, rfl⟩)
      obtain ⟨x, hxe⟩ := HXK.out
      obtain ⟨y, hye⟩ : ∃ y, y = l[k]'(by omega) := ⟨_, rfl⟩
      rw [← hxe] at hrx
      rw [← hye] at hry
      have HXE := Lib.hid hxe
      have HYE := Lib.hid hye
      have HSS := Lib.hid (fun W (hW : Ext wo W) => (show (fun W => W.rangeAt g ((k + 1) * 11) x.cs.toList ∧ W.rangeAt g (k * 11) y.cs.toList) W from ⟨hrx W hW, hry W hW⟩))
      have HEQ := Lib.hid (fun W (hW : Ext wo W) => eqR_any x y p W (HPC.out W ((hx.out.trans hW).keep _)))
      have hxd := Ext.drew wo
      have huH := HHU.out
      have hiH := HHI.out
      have hadd : ((k : Int) + 1 - 1) = k := by omega
      clear hrx hry hxe hye HXK
      go_upto_region 6 with fail
      refine wp_region_noPanic ?_
      refine wp_region_held_drew (S := (fun W => W.rangeAt g ((k + 1) * 11) x.cs.toList ∧ W.rangeAt g (k * 11) y.cs.toList)) (by kernel_rfl) (HSS.out _ hxd) (fun hHeld => ?_)
      refine wpAnyH_take (i := 0) (v := eqFun p) rfl (by kernel_rfl) (by kernel_rfl) (by kernel_rfl) (fun _ _ _ h => h) (Or.inl ⟨by rfl, by (intro w hSw; (try dsimp only at hSw); go_simp; try (first | omega | (rw [IntKind.wrap_i64]; omega)))⟩) (by assumption) ?_
      try simp only [List.getElem_toArray, List.getElem_cons_zero, List.getElem_cons_succ, Act.put, List.setIfInBounds_toArray, List.set_cons_zero, List.set_cons_succ, Array.toArray_toList]
      refine wpAnyH_take (i := 1) (v := .slice (some ⟨g, 0, none⟩) len cap) rfl (by kernel_rfl) (by kernel_rfl) (by kernel_rfl) (fun _ _ _ h => h) (Or.inl ⟨by rfl, by (intro w hSw; (try dsimp only at hSw); go_simp; try (first | omega | (rw [IntKind.wrap_i64]; omega)))⟩) (by assumption) ?_
      try simp only [List.getElem_toArray, List.getElem_cons_zero, List.getElem_cons_succ, Act.put, List.setIfInBounds_toArray, List.set_cons_zero, List.set_cons_succ, Array.toArray_toList]
      refine wpAnyH_take (i := 2) (v := .int .i64 (k + 1 : Nat)) rfl (by kernel_rfl) (by kernel_rfl) (by kernel_rfl) (fun _ _ _ h => h) (Or.inl ⟨by rfl, by (intro w hSw; (try dsimp only at hSw); go_simp; try (first | omega | (rw [IntKind.wrap_i64]; omega)))⟩) (by assumption) ?_
      try simp only [List.getElem_toArray, List.getElem_cons_zero, List.getElem_cons_succ, Act.put, List.setIfInBounds_toArray, List.set_cons_zero, List.set_cons_succ, Array.toArray_toList]
      refine wpAnyH_take (i := 3) (v := .pointer (some ⟨g, (k + 1) * 11, none⟩)) rfl (by kernel_rfl) (by kernel_rfl) (by kernel_rfl) (fun _ _ _ h => h) (Or.inl ⟨by rfl, by (intro w hSw; (try dsimp only at hSw); go_simp; try (first | omega | (rw [IntKind.wrap_i64]; omega)))⟩) (by assumption) ?_
      try simp only [List.getElem_toArray, List.getElem_cons_zero, List.getElem_cons_succ, Act.put, List.setIfInBounds_toArray, List.set_cons_zero, List.set_cons_succ, Array.toArray_toList]
      refine wpAnyH_take (i := 4) (v := .agg x.cs.toList.toArray) rfl (by kernel_rfl) (by kernel_rfl) (by kernel_rfl) (fun _ _ _ h => h) ?_ (by assumption) ?_
      · try simp only [List.getElem_toArray, List.getElem_cons_zero, List.getElem_cons_succ]
        exact yieldsIf_load_mid (by rfl) _ _ rfl g ((k + 1) * 11) rfl x.cs.toList _ (fun w hSw => hSw.1) huH rfl (hiH x)
      try simp only [List.getElem_toArray, List.getElem_cons_zero, List.getElem_cons_succ, Act.put, List.setIfInBounds_toArray, List.set_cons_zero, List.set_cons_succ, Array.toArray_toList]
      refine wpAnyH_take (i := 5) (v := .slice (some ⟨g, 0, none⟩) len cap) rfl (by kernel_rfl) (by kernel_rfl) (by kernel_rfl) (fun _ _ _ h => h) (Or.inl ⟨by rfl, by (intro w hSw; (try dsimp only at hSw); go_simp; try (first | omega | (rw [IntKind.wrap_i64]; omega)))⟩) (by assumption) ?_
      try simp only [List.getElem_toArray, List.getElem_cons_zero, List.getElem_cons_succ, Act.put, List.setIfInBounds_toArray, List.set_cons_zero, List.set_cons_succ, Array.toArray_toList]
      refine wpAnyH_take (i := 6) (v := .int .i64 (k + 1 : Nat)) rfl (by kernel_rfl) (by kernel_rfl) (by kernel_rfl) (fun _ _ _ h => h) (Or.inl ⟨by rfl, by (intro w hSw; (try dsimp only at hSw); go_simp; try (first | omega | (rw [IntKind.wrap_i64]; omega)))⟩) (by assumption) ?_
      try simp only [List.getElem_toArray, List.getElem_cons_zero, List.getElem_cons_succ, Act.put, List.setIfInBounds_toArray, List.set_cons_zero, List.set_cons_succ, Array.toArray_toList]
      refine wpAnyH_take (i := 7) (v := .int .i64 k) rfl (by kernel_rfl) (by kernel_rfl) (by kernel_rfl) (fun _ _ _ h => h) (Or.inl ⟨by rfl, by (intro w hSw; (try dsimp only at hSw); go_simp; try (first | omega | (rw [IntKind.wrap_i64]; omega)))⟩) (by assumption) ?_
      try simp only [List.getElem_toArray, List.getElem_cons_zero, List.getElem_cons_succ, Act.put, List.setIfInBounds_toArray, List.set_cons_zero, List.set_cons_succ, Array.toArray_toList]
      refine wpAnyH_take (i := 8) (v := .pointer (some ⟨g, k * 11, none⟩)) rfl (by kernel_rfl) (by kernel_rfl) (by kernel_rfl) (fun _ _ _ h => h) (Or.inl ⟨by rfl, by (intro w hSw; (try dsimp only at hSw); go_simp; try (first | omega | (rw [IntKind.wrap_i64]; omega)))⟩) (by assumption) ?_
      try simp only [List.getElem_toArray, List.getElem_cons_zero, List.getElem_cons_succ, Act.put, List.setIfInBounds_toArray, List.set_cons_zero, List.set_cons_succ, Array.toArray_toList]
      refine wpAnyH_take (i := 9) (v := .agg y.cs.toList.toArray) rfl (by kernel_rfl) (by kernel_rfl) (by kernel_rfl) (fun _ _ _ h => h) ?_ (by assumption) ?_
      · try simp only [List.getElem_toArray, List.getElem_cons_zero, List.getElem_cons_succ]
        exact yieldsIf_load_mid (by rfl) _ _ rfl g (k * 11) rfl y.cs.toList _ (fun w hSw => hSw.2) huH rfl (hiH y)
      try simp only [List.getElem_toArray, List.getElem_cons_zero, List.getElem_cons_succ, Act.put, List.setIfInBounds_toArray, List.set_cons_zero, List.set_cons_succ, Array.toArray_toList]
      refine wpAnyH_ready (rs := [10]) (by kernel_rfl) (by simp) ?_
      refine AllReadyH.cons (i := 10) rfl (fun K hK => ?_) AllReadyH.nil
      go_simp
      refine (HEQ.out _ hxd).mono ?_
      rintro e w5 ⟨rfl, hx5⟩
      refine hK.out _ _ (HSS.out _ (hxd.trans hx5)) (fun hHeld2 => ?_)
      clear hK K hHeld
      try simp only [List.getElem_toArray, List.getElem_cons_zero, List.getElem_cons_succ, Act.put, List.setIfInBounds_toArray, List.set_cons_zero, List.set_cons_succ, Array.toArray_toList]
      refine wpAnyH_done (by kernel_rfl) ?_ _
      refine NoPanic.normal ?_
      have HX5 := Lib.hid (hx.out.trans (hxd.trans hx5))
      cases hxy : decide (x = y) with
      | false =>
        have HNE := Lib.hid (show l[k]'(by omega) ≠ l[k + 1] from by rw [← HXE.out, ← HYE.out]; exact fun e => by simp [e] at hxy)
        clear hxy
        go_wp2_with fail
        go_roundw
        case rel => exact ⟨k + 1, by omega, by go_num, fun m h h0 h1 => by
          rcases Nat.lt_succ_iff_lt_or_eq.1 h1 with h2 | rfl
          · exact hd.out m h h0 h2
          · exact HNE.out, HX5.out⟩
        case measure => simp [intOf]; omega
      | true =>
        have HK := Lib.hid (show dd (l.take (k + 1 + 1)) = l.take (k + 1) from by
          rw [dd_take (by omega) hkl, if_pos (by
            have := of_decide_eq_true hxy
            show l[k]'(by omega) = l[k + 1]
            rw [← HXE.out, ← HYE.out, this])]
          exact dd_rises (k + 1) (by omega) hd.out)
        have HR5 := Lib.hid (HR.out _ HX5.out)
        have HT5 := Lib.hid (HTH.out _ HX5.out)
        clear hxy hd HSS HEQ HXE HYE
        go_wp2_with fail
        go_loopw [5, 7] (fun i j wr => ∃ (kk k2 : Nat) (M : List Hdr), k + 1 + (k2 + 1) ≤ len ∧ kk ≤ k + 1 + k2 ∧ i = .int .i64 kk ∧ j = .int .i64 (k2 + 1 : Nat) ∧ Hid (kk = (dd (l.take (k + 1 + (k2 + 1)))).length) ∧ M.length = len ∧ Hid (M.take kk = dd (l.take (k + 1 + (k2 + 1)))) ∧ Hid (∀ i (h : i < l.length) (h' : i < M.length), k + 1 + k2 ≤ i → M[i] = l[i]) ∧ Hid (wr.rangeAt g 0 (flatH M)) ∧ Hid (wr.there g 0 (len * 11)) ∧ Hid (Keep (· = g) w wr)) (fun _ j _ => len - (intOf j).toNat)
        case atStart => exact ⟨k + 1, 0, l, by omega, by omega, rfl, rfl, by show k + 1 = (dd (l.take (k + 1 + 1))).length; rw [HK.out, List.length_take]; omega, HL.out.symm, HK.out.symm, fun i h h' hi => rfl, HR5.out, HT5.out, HX5.out.keep _⟩
        case round =>
          obtain ⟨wi, rfl⟩ : ∃ wi : World, wi = wr := ⟨_, rfl⟩
          obtain ⟨kk, k2, M, hk2, hkk, rfl, rfl, hkl2, hML, hMt, hMi, hMr, hMth, hMk⟩ := hrel
          by_cases hlt2 : k + 1 + (k2 + 1) < len
          · have hil : k + 1 + (k2 + 1) < l.length := by rw [← HL.out]; exact hlt2
            have hrx := fun W (hW : Ext wi W) => rangeAt_get Hdr.len_cs (World.rangeAt.later hW.later hMr.out) (k + 1 + (k2 + 1)) (by omega)
            have hry := fun W (hW : Ext wi W) => rangeAt_get Hdr.len_cs (World.rangeAt.later hW.later hMr.out) (k + 1 + k2) (by omega)
            simp only [Nat.zero_add] at hrx hry
            obtain ⟨x, hxe⟩ : ∃ x, x = M[k + 1 + (k2 + 1)]'(by omega) := ⟨_, rfl⟩
            obtain ⟨y, hye⟩ : ∃ y, y = M[k + 1 + k2]'(by omega) := ⟨_, rfl⟩
            rw [← hxe, show (k + 1 + (k2 + 1)) * 11 = (k + 1) * 11 + (k2 + 1) * 11 from by omega] at hrx
            rw [← hye, show (k + 1 + k2) * 11 = (k + 1) * 11 + k2 * 11 from by omega] at hry
            have HXE := Lib.hid (show x = l[k + 1 + (k2 + 1)] from by rw [hxe]; exact hMi.out _ hil (by omega) (by omega))
            have HYE := Lib.hid (show y = l[k + 1 + k2]'(by omega) from by rw [hye]; exact hMi.out _ (by omega) (by omega) (by omega))
            have HSS := Lib.hid (fun W (hW : Ext wi W) => (show (fun W => W.rangeAt g ((k + 1) * 11 + (k2 + 1) * 11) x.cs.toList ∧ W.rangeAt g ((k + 1) * 11 + k2 * 11) y.cs.toList) W from ⟨hrx W hW, hry W hW⟩))
            have HEQ := Lib.hid (fun W (hW : Ext wi W) => eqR_any x y p W (HPC.out W (hMk.out.trans (hW.keep _))))
            have hxd := Ext.drew wi
            have huH := HHU.out
            have hiH := HHI.out
            have hadd : ((k2 : Int) + 1 - 1) = k2 := by omega
            clear hrx hry hxe hye
            go_upto_region 11 with fail
            refine wp_region_noPanic ?_
            refine wp_region_held_drew (S := (fun W => W.rangeAt g ((k + 1) * 11 + (k2 + 1) * 11) x.cs.toList ∧ W.rangeAt g ((k + 1) * 11 + k2 * 11) y.cs.toList)) (by kernel_rfl) (HSS.out _ hxd) (fun hHeld => ?_)
            refine wpAnyH_take (i := 0) (v := eqFun p) rfl (by kernel_rfl) (by kernel_rfl) (by kernel_rfl) (fun _ _ _ h => h) (Or.inl ⟨by rfl, by (intro w hSw; (try dsimp only at hSw); go_simp; try (first | omega | (rw [IntKind.wrap_i64]; omega)))⟩) (by assumption) ?_
            try simp only [List.getElem_toArray, List.getElem_cons_zero, List.getElem_cons_succ, Act.put, List.setIfInBounds_toArray, List.set_cons_zero, List.set_cons_succ, Array.toArray_toList]
            refine wpAnyH_take (i := 1) (v := .slice (some ⟨g, (k + 1) * 11, none⟩) (len - (k + 1)) (cap - (k + 1))) rfl (by kernel_rfl) (by kernel_rfl) (by kernel_rfl) (fun _ _ _ h => h) (Or.inl ⟨by rfl, by (intro w hSw; (try dsimp only at hSw); go_simp; try (first | omega | (rw [IntKind.wrap_i64]; omega)))⟩) (by assumption) ?_
            try simp only [List.getElem_toArray, List.getElem_cons_zero, List.getElem_cons_succ, Act.put, List.setIfInBounds_toArray, List.set_cons_zero, List.set_cons_succ, Array.toArray_toList]
            refine wpAnyH_take (i := 2) (v := .int .i64 (k2 + 1 : Nat)) rfl (by kernel_rfl) (by kernel_rfl) (by kernel_rfl) (fun _ _ _ h => h) (Or.inl ⟨by rfl, by (intro w hSw; (try dsimp only at hSw); go_simp; try (first | omega | (rw [IntKind.wrap_i64]; omega)))⟩) (by assumption) ?_
            try simp only [List.getElem_toArray, List.getElem_cons_zero, List.getElem_cons_succ, Act.put, List.setIfInBounds_toArray, List.set_cons_zero, List.set_cons_succ, Array.toArray_toList]
            refine wpAnyH_take (i := 3) (v := .pointer (some ⟨g, (k + 1) * 11 + (k2 + 1) * 11, none⟩)) rfl (by kernel_rfl) (by kernel_rfl) (by kernel_rfl) (fun _ _ _ h => h) (Or.inl ⟨by rfl, by (intro w hSw; (try dsimp only at hSw); go_simp; try (first | omega | (rw [IntKind.wrap_i64]; omega)))⟩) (by assumption) ?_
            try simp only [List.getElem_toArray, List.getElem_cons_zero, List.getElem_cons_succ, Act.put, List.setIfInBounds_toArray, List.set_cons_zero, List.set_cons_succ, Array.toArray_toList]
            refine wpAnyH_take (i := 4) (v := .agg x.cs.toList.toArray) rfl (by kernel_rfl) (by kernel_rfl) (by kernel_rfl) (fun _ _ _ h => h) ?_ (by assumption) ?_
            · try simp only [List.getElem_toArray, List.getElem_cons_zero, List.getElem_cons_succ]
              exact yieldsIf_load_mid (by rfl) _ _ rfl g ((k + 1) * 11 + (k2 + 1) * 11) rfl x.cs.toList _ (fun w hSw => hSw.1) huH rfl (hiH x)
            try simp only [List.getElem_toArray, List.getElem_cons_zero, List.getElem_cons_succ, Act.put, List.setIfInBounds_toArray, List.set_cons_zero, List.set_cons_succ, Array.toArray_toList]
            refine wpAnyH_take (i := 5) (v := .slice (some ⟨g, (k + 1) * 11, none⟩) (len - (k + 1)) (cap - (k + 1))) rfl (by kernel_rfl) (by kernel_rfl) (by kernel_rfl) (fun _ _ _ h => h) (Or.inl ⟨by rfl, by (intro w hSw; (try dsimp only at hSw); go_simp; try (first | omega | (rw [IntKind.wrap_i64]; omega)))⟩) (by assumption) ?_
            try simp only [List.getElem_toArray, List.getElem_cons_zero, List.getElem_cons_succ, Act.put, List.setIfInBounds_toArray, List.set_cons_zero, List.set_cons_succ, Array.toArray_toList]
            refine wpAnyH_take (i := 6) (v := .int .i64 (k2 + 1 : Nat)) rfl (by kernel_rfl) (by kernel_rfl) (by kernel_rfl) (fun _ _ _ h => h) (Or.inl ⟨by rfl, by (intro w hSw; (try dsimp only at hSw); go_simp; try (first | omega | (rw [IntKind.wrap_i64]; omega)))⟩) (by assumption) ?_
            try simp only [List.getElem_toArray, List.getElem_cons_zero, List.getElem_cons_succ, Act.put, List.setIfInBounds_toArray, List.set_cons_zero, List.set_cons_succ, Array.toArray_toList]
            refine wpAnyH_take (i := 7) (v := .int .i64 k2) rfl (by kernel_rfl) (by kernel_rfl) (by kernel_rfl) (fun _ _ _ h => h) (Or.inl ⟨by rfl, by (intro w hSw; (try dsimp only at hSw); go_simp; try (first | omega | (rw [IntKind.wrap_i64]; omega)))⟩) (by assumption) ?_
            try simp only [List.getElem_toArray, List.getElem_cons_zero, List.getElem_cons_succ, Act.put, List.setIfInBounds_toArray, List.set_cons_zero, List.set_cons_succ, Array.toArray_toList]
            refine wpAnyH_take (i := 8) (v := .pointer (some ⟨g, (k + 1) * 11 + k2 * 11, none⟩)) rfl (by kernel_rfl) (by kernel_rfl) (by kernel_rfl) (fun _ _ _ h => h) (Or.inl ⟨by rfl, by (intro w hSw; (try dsimp only at hSw); go_simp; try (first | omega | (rw [IntKind.wrap_i64]; omega)))⟩) (by assumption) ?_
            try simp only [List.getElem_toArray, List.getElem_cons_zero, List.getElem_cons_succ, Act.put, List.setIfInBounds_toArray, List.set_cons_zero, List.set_cons_succ, Array.toArray_toList]
            refine wpAnyH_take (i := 9) (v := .agg y.cs.toList.toArray) rfl (by kernel_rfl) (by kernel_rfl) (by kernel_rfl) (fun _ _ _ h => h) ?_ (by assumption) ?_
            · try simp only [List.getElem_toArray, List.getElem_cons_zero, List.getElem_cons_succ]
              exact yieldsIf_load_mid (by rfl) _ _ rfl g ((k + 1) * 11 + k2 * 11) rfl y.cs.toList _ (fun w hSw => hSw.2) huH rfl (hiH y)
            try simp only [List.getElem_toArray, List.getElem_cons_zero, List.getElem_cons_succ, Act.put, List.setIfInBounds_toArray, List.set_cons_zero, List.set_cons_succ, Array.toArray_toList]
            refine wpAnyH_ready (rs := [10]) (by kernel_rfl) (by simp) ?_
            refine AllReadyH.cons (i := 10) rfl (fun K hK => ?_) AllReadyH.nil
            go_simp
            refine (HEQ.out _ hxd).mono ?_
            rintro e w5 ⟨rfl, hx5⟩
            refine hK.out _ _ (HSS.out _ (hxd.trans hx5)) (fun hHeld2 => ?_)
            clear hK K hHeld
            try simp only [List.getElem_toArray, List.getElem_cons_zero, List.getElem_cons_succ, Act.put, List.setIfInBounds_toArray, List.set_cons_zero, List.set_cons_succ, Array.toArray_toList]
            refine wpAnyH_take (i := 11) (v := .bool (!decide (x = y))) rfl (by kernel_rfl) (by kernel_rfl) (by kernel_rfl) (fun _ _ _ h => h) (Or.inl ⟨by rfl, by (intro w hSw; (try dsimp only at hSw); go_simp; try (first | omega | (rw [IntKind.wrap_i64]; omega)))⟩) (by assumption) ?_
            try simp only [List.getElem_toArray, List.getElem_cons_zero, List.getElem_cons_succ, Act.put, List.setIfInBounds_toArray, List.set_cons_zero, List.set_cons_succ, Array.toArray_toList]
            refine wpAnyH_done (by kernel_rfl) ?_ _
            refine NoPanic.normal ?_
            have hx5' : Ext wi w5 := hxd.trans hx5
            have HMR5 := Lib.hid (World.rangeAt.later hx5'.later hMr.out)
            have HMT5 := Lib.hid (there_keep hMth.out hx5')
            have HMK5 := Lib.hid (hMk.out.trans (hx5'.keep _))
            have HRX5 := Lib.hid (HSS.out w5 hx5').1
            cases hxy : decide (x = y) with
            | true =>
              have HDT := Lib.hid (show dd (l.take (k + 1 + (k2 + 1 + 1))) = dd (l.take (k + 1 + (k2 + 1))) from by
                have := dd_take (l := l) (i := k + 1 + (k2 + 1)) (by omega) hil
                rw [show k + 1 + (k2 + 1) + 1 = k + 1 + (k2 + 1 + 1) from by omega, if_pos (by
                  have := of_decide_eq_true hxy
                  show l[k + 1 + k2]'(by omega) = l[k + 1 + (k2 + 1)]
                  rw [← HXE.out, ← HYE.out, this])] at this
                exact this)
              clear hxy HSS HEQ HXE HYE hMr hMth hMk
              go_wp2_with fail
              go_roundw
              case rel => exact ⟨kk, k2 + 1, M, by omega, by omega, rfl, by go_num, by rw [HDT.out]; exact hkl2.out, hML, by rw [HDT.out]; exact hMt.out, fun i h h' hi => hMi.out i h h' (by omega), HMR5.out, HMT5.out, HMK5.out⟩
              case measure => simp [intOf]; omega
            | false =>
              have HDT := Lib.hid (show dd (l.take (k + 1 + (k2 + 1 + 1))) = dd (l.take (k + 1 + (k2 + 1))) ++ [x] from by
                have := dd_take (l := l) (i := k + 1 + (k2 + 1)) (by omega) hil
                rw [show k + 1 + (k2 + 1) + 1 = k + 1 + (k2 + 1 + 1) from by omega, if_neg (by
                  have := of_decide_eq_false hxy
                  show ¬ l[k + 1 + k2]'(by omega) = l[k + 1 + (k2 + 1)]
                  rw [← HXE.out, ← HYE.out]
                  exact fun e => this e.symm), ← HXE.out] at this
                exact this)
              have hkM : kk < M.length := by omega
              have HMR6 := Lib.hid (range_set HMR5.out kk hkM x (by rw [hML]; exact HMT5.out))
              have hthk : w5.there g (kk * 11) x.cs.size := fun j hj => by
                rw [x.size_cs] at hj
                have := HMT5.out (kk * 11 + j) (by omega)
                simpa using this
              have HTK := Lib.hid hthk
              have HMT6 := Lib.hid (World.there_setCells HMT5.out g (kk * 11) x.cs.toList)
              have HMK6 := Lib.hid (HMK5.out.trans (keep_setCells g (kk * 11) x.cs.toList))
              have HMt6 := Lib.hid (show (M.set kk x).take (kk + 1) = dd (l.take (k + 1 + (k2 + 1 + 1))) from by
                rw [HDT.out, ← hMt.out, List.take_succ_eq_append_getElem (by rw [List.length_set]; exact hkM), List.getElem_set_self, List.take_set_of_le (Nat.le_refl _)])
              have HMi6 := Lib.hid (show ∀ i (h : i < l.length) (h' : i < (M.set kk x).length), k + 1 + (k2 + 1) ≤ i → (M.set kk x)[i] = l[i] from fun i h h' hi => by
                rw [List.getElem_set_ne (by omega)]
                exact hMi.out i h (by rw [List.length_set] at h'; exact h') (by omega))
              have HHS := Lib.hid (show (Try.prog.info? 24).map (·.size) = some x.cs.size from by rw [x.size_cs]; kernel_rfl)
              clear hxy HSS HEQ HXE HYE hMr hMth hMk hthk hMt hMi
              go_wp2_with (first
                | (refine wpList_load_H rfl _ rfl g ((k + 1) * 11 + (k2 + 1) * 11) rfl x HRX5.out ?_)
                | (refine wpList_store_mid rfl 24 _ _ rfl g (kk * 11) x.cs rfl rfl HTK.out HHS.out (all_oneCell_toArray x.one) ?_))
              go_roundw
              case rel => exact ⟨kk + 1, k2 + 1, M.set kk x, by omega, by omega, by go_num, by go_num, by rw [HDT.out, List.length_append, ← hkl2.out]; rfl, by rw [List.length_set]; exact hML, HMt6.out, HMi6.out, HMR6.out, HMT6.out, HMK6.out⟩
              case measure => simp [intOf]; omega
          · have hfull : k + 1 + (k2 + 1) = l.length := by have := HL.out; omega
            have HDL := Lib.hid (show dd (l.take (k + 1 + (k2 + 1))) = dd l from by rw [hfull, List.take_length])
            have HKL := Lib.hid (show (dd l).length = kk from by rw [← HDL.out]; exact hkl2.out.symm)
            have hths : wi.there g (kk * 11) ((len - kk) * 11) := fun j hj => by
              have := hMth.out (kk * 11 + j) (by omega)
              simpa using this
            obtain ⟨vs, hvs, hcl⟩ := run_clear_H wi g (kk * 11) (len - kk) (cap - kk) hths
            have HF1 := Lib.hid (World.rangeAt_setCells_apart (range_head (D := dd l) hMr.out (by rw [HKL.out, ← HDL.out]; exact hMt.out)) g (kk * 11) vs (.inr (.inl (by rw [flatH_len, HKL.out]; omega))))
            have HF2 := Lib.hid (hMk.out.trans (keep_setCells g (kk * 11) vs))
            clear hMr hMth hMk hMt hMi hths hvs hkl2
            go_wp2_with fail
            go_ret
            exact ⟨by rw [HKL.out]; rfl, HF1.out, HF2.out⟩
    · have HF := Lib.hid (show dd l = l from by
        have := dd_rises (l := l) l.length (Nat.le_refl _) (fun m h h0 _ => hd.out m h h0 (by have := HL.out; omega))
        rwa [List.take_length] at this)
      clear hd
      go_wp2_with fail
      go_ret
      exact ⟨by rw [HF.out, ← HL.out]; rfl, by rw [HF.out]; exact HR.out _ hx.out, hx.out.keep _⟩
end Go.Proofs.Ytddeelepaiklgaa
