/- The document's terms, Add, both. -/
import Derived.Test.YtddeelepaiklgaaRef19a
import Derived.Test.YtddeelepaiklgaaSet
import Derived.Test.YtddeelepaiklgaaSame
import Derived.Laws.MakeOwn
import Derived.OwnWalk
namespace Go.Proofs.Ytddeelepaiklgaa
open Go.RowKit Go.Maps

set_option maxHeartbeats 1000000 in
set_option maxRecDepth 100000 in
theorem refTerms_aux (m : Nat) : ∀ (t : Tm) (v : Value) (w : World), t.sz ≤ m → t.sz ≤ 4096 → t.Val w v →
    Calls Try.prog 65 #[v] w fun e w' => e = .returned (.int .i64 t.sz) ∧ Ext w w' := by
  induction m with
  | zero => intro t v w hm; have := t.sz_pos; omega
  | succ m ih =>
    intro t v w hm h4 hv
    cases t with | mk op f n ks =>
    have HM := Lib.hid (fun i (h : i < ks.length) => Tm.sz_kid hm i h)
    obtain ⟨cs, rfl, s, rfl, -, -, -, p, len, cap, rfl, hlen, hlc, hcm, hks⟩ := hv
    have HL := Lib.hid (show len = ks.length from hlen)
    have HK := Lib.hid (show ks = [] ∨ ∃ b' o', p = some ⟨b', o', none⟩ ∧ Tm.AllAt w ks b' o' from hks)
    have HS := Lib.hid (show (Tm.mk op f n ks).sz = 1 + Tm.szAll ks from by simp [Tm.sz]; omega)
    generalize (Tm.mk op f n ks).sz = S at *
    have h4' : Tm.szAll ks ≤ 4095 := by have := HS.out; omega
    simp only [Tm.op, Tm.fld, Tm.n] at *
    clear hlen hks hm
    go_enter Try.func65, Try.ntmps65
    go_wp2_with fail
    go_loopw [3, 4] (fun a i wr => ∃ (j : Nat), j ≤ len ∧ i = .int .i64 j ∧ a = .int .i64 (1 + Tm.szAll (ks.take j) : Nat) ∧ Hid (Ext w wr) ∧ wr.cell? ⟨w.heap.size, 3, none⟩ = some (.slice p len cap)) (fun _ i _ => len - (intOf i).toNat)
    case atStart => exact ⟨0, Nat.zero_le _, rfl, by simp [Tm.szAll], Ext.alloc _ _, by simp [go_sem]⟩
    case round =>
      obtain ⟨wo, rfl⟩ : ∃ wo : World, wo = wr := ⟨_, rfl⟩
      obtain ⟨j, hj, rfl, rfl, hx, h3⟩ := hrel
      by_cases hlt : j < len
      · have hjl : j < ks.length := by rw [← HL.out]; exact hlt
        rcases HK.out with hk | ⟨b', o', rfl, hall⟩
        · exfalso; subst hk; simp at hjl
        have HT := Lib.hid ((Tm.AllAt_get hall j hjl).later hx.out.later)
        have HTk := Lib.hid (Tm.szAll_take ks j hjl)
        have hle := Tm.szAll_take_le ks (j + 1)
        have hle0 := Tm.sz_get j hjl
        have hsum : Tm.szAll (ks.take j) + (ks[j]).sz ≤ 4095 := by have := HTk.out; omega
        have HI := Lib.hid (fun cs (h : (ks[j]).Val wo (.agg cs)) => ih (ks[j]) (.agg cs) wo (HM.out j hjl) (by omega) h)
        generalize ks[j] = y at *
        generalize Tm.szAll (ks.take j) = q at *
        clear hall hle hle0
        go_wp2_with (first | (refine wpList_load_T rfl _ rfl b' (o' + j * 4) rfl y HT.out ?_; intro cs hcs _ _))
        refine (HI.out cs hcs).mono ?_
        rintro e w1 ⟨rfl, hx1⟩
        have h3' := hx1.later _ _ h3
        generalize y.sz = d at *
        clear hcs
        go_wp2_with fail
        go_roundw
        case rel => exact ⟨j + 1, by omega, by go_num, by rw [HTk.out]; congr 1; omega, hx.out.trans hx1, h3'⟩
        case measure => simp [intOf]; omega
      · have HF := Lib.hid (show S = 1 + Tm.szAll (ks.take j) from by rw [HS.out, List.take_of_length_le (by have := HL.out; omega)])
        go_wp2_with fail
        go_ret
        exact ⟨by rw [HF.out]; rfl, hx.out⟩
theorem refTerms_any (t : Tm) (v : Value) (w : World) (h4 : t.sz ≤ 4096) (hv : t.Val w v) :
    Calls Try.prog 65 #[v] w fun e w' => e = .returned (.int .i64 t.sz) ∧ Ext w w' := refTerms_aux t.sz t v w (Nat.le_refl _) h4 hv

/-- a set in order with one more -/
def addH : List Hdr → Hdr → List Hdr
  | [], x => [x]
  | y :: ys, x => if ltH y x then y :: addH ys x else if y = x then y :: ys else x :: y :: ys
theorem addH_there {x : Hdr} : ∀ {l : List Hdr} {k : Nat}, (∀ m (h : m < l.length), m < k → ltH (l[m]) x = true) → (hk : k < l.length) → l[k] = x → addH l x = l
  | y :: ys, 0, _, _, he => by
    rw [List.getElem_cons_zero] at he
    rw [addH, he, ltH_irrefl]
    simp
  | y :: ys, k + 1, h, hk, he => by
    have h0 := h 0 (by simp) (by omega)
    rw [List.getElem_cons_zero] at h0
    rw [List.getElem_cons_succ] at he
    rw [addH, if_pos h0, addH_there (l := ys) (k := k) (fun m hm hmk => by
      have := h (m + 1) (by simpa using hm) (by omega)
      rwa [List.getElem_cons_succ] at this) (by simpa using hk) he]
theorem addH_new {x : Hdr} : ∀ {l : List Hdr} {k : Nat}, (∀ m (h : m < l.length), m < k → ltH (l[m]) x = true) → k ≤ l.length → (∀ h : k < l.length, ltH (l[k]) x = false ∧ l[k] ≠ x) → addH l x = l.take k ++ x :: l.drop k
  | [], k, _, hk, _ => by
    obtain rfl : k = 0 := by simpa using hk
    rfl
  | y :: ys, 0, _, _, he => by
    have := he (by simp)
    rw [List.getElem_cons_zero] at this
    rw [addH, if_neg (by simp [this.1]), if_neg this.2]
    rfl
  | y :: ys, k + 1, h, hk, he => by
    have h0 := h 0 (by simp) (by omega)
    rw [List.getElem_cons_zero] at h0
    rw [addH, if_pos h0, addH_new (l := ys) (k := k) (fun m hm hmk => by
      have := h (m + 1) (by simpa using hm) (by omega)
      rwa [List.getElem_cons_succ] at this) (by simpa using hk) (fun hk2 => by
      have := he (by simpa using hk2)
      rwa [List.getElem_cons_succ] at this)]
    rfl
theorem length_addH (x : Hdr) : ∀ (l : List Hdr), l.length ≤ (addH l x).length ∧ (addH l x).length ≤ l.length + 1
  | [] => by simp [addH]
  | y :: ys => by
    have := length_addH x ys
    rw [addH]
    split
    · simp; omega
    · split <;> simp
theorem Ext.grown {w a c : World} {v : Value} (h : Ext w a) (g : a.grownBy c v.ownBlock) (hb : ∀ i, v.ownBlock = some i → w.heap.size ≤ i) : Ext w c :=
  h.trans' ⟨g.os, g.tape, g.output, g.size, fun i hi => g.block i (Nat.lt_of_lt_of_le hi h.size) (fun e => by have := hb i e.symm; omega)⟩
theorem Ext.grown0 {w a c : World} (h : Ext w a) (g : a.grownBy c none) : Ext w c :=
  h.trans' ⟨g.os, g.tape, g.output, g.size, fun i hi => g.block i (Nat.lt_of_lt_of_le hi h.size) (fun e => by cases e)⟩
theorem take_drop_one {l : List Hdr} {k j : Nat} (hk : k ≤ j) (hj : j < l.length) : (l.take (j + 1)).drop k = (l.take j).drop k ++ [l[j]] := by
  rw [List.take_succ_eq_append_getElem hj, List.drop_append_of_le_length (by simp; omega)]

theorem cellAt0 {w : World} {b : Nat} {x : Hdr} (h : w.rangeAt b 0 x.cs.toList) (i : Nat) (hi : i < 11) : w.cell? ⟨b, i, none⟩ = some (.int .u64 (x.f i)) := by
  have := cellAt h i hi
  rwa [Nat.zero_add] at this

set_option maxHeartbeats 8000000 in
set_option maxRecDepth 100000 in
theorem refAdd_any (l : List Hdr) (v : Value) (x : Hdr) (lo : Nat) (w : World) (hv : HSl w lo l v) (h100 : l.length ≤ 1000) (hlo : lo ≤ w.heap.size) :
    Calls Try.prog 78 #[v, .agg x.cs] w fun e w' => (∃ u, e = .returned u ∧ HSl w' lo (addH l x) u) ∧ Ext w w' := by
  have HV := Lib.hid hv
  obtain ⟨p, len, cap, rfl, hlen, hl⟩ := hv
  have HL := Lib.hid hlen
  have hlen100 : len ≤ 1000 := by omega
  have HH := Lib.hid hl
  clear hlen hl
  obtain ⟨wA, hA⟩ : ∃ W : World, w.alloc (.cells x.cs 24) = W := ⟨_, rfl⟩
  have xA : Ext w wA := hA ▸ Ext.alloc _ _
  have rA : wA.rangeAt w.heap.size 0 x.cs.toList := by
    have := rangeAt_new w x.cs 24
    rw [hA] at this
    exact this
  have HRX := Lib.hid (fun W (hW : Ext wA W) => World.rangeAt.later hW.later rA)
  have HZ := Lib.hid xA
  have HEQ := Lib.hid hA
  clear xA rA hA
  have hu28 : Try.prog.underlying 24 = some (.array 11 22) := Try.underlying24
  have hi28 : (Try.prog.info? 24).map (·.size) = some 11 := by kernel_rfl
  have hx11 : x.cs.toList.length = 11 := x.len_cs
  go_enter Try.func78, Try.ntmps78
  go_upto_region 1 with fail
  rw [HEQ.out]
  clear HEQ
  go_wp2_with fail
  go_loopw [5] (fun i wr => ∃ k : Nat, k ≤ len ∧ i = .int .i64 k ∧ Hid (∀ m (h : m < l.length), m < k → ltH (l[m]) x = true) ∧ Hid (Ext wA wr)) (fun i _ => len - (intOf i).toNat)
  case atStart => exact ⟨0, Nat.zero_le _, rfl, fun m h hm => by omega, Ext.refl _⟩
  case round =>
    obtain ⟨wo, rfl⟩ : ∃ wo : World, wo = wr := ⟨_, rfl⟩
    obtain ⟨k, hk, rfl, hd, hx⟩ := hrel
    by_cases hlt : k < len
    · have hkl : k < l.length := by rw [← HL.out]; exact hlt
      obtain ⟨b, o, rfl, hb, hr⟩ := HH.out.resolve_left (fun e => by rw [e] at hkl; simp at hkl)
      have hre := World.rangeAt.later (HZ.out.trans hx.out).later (rangeAt_get Hdr.len_cs hr k hkl)
      have HRE := Lib.hid (fun W (hW : Ext wo W) => World.rangeAt.later hW.later hre)
      have hj11 : (l[k]).cs.toList.length = 11 := (l[k]).len_cs
      have HSS := Lib.hid (fun W (hW : Ext wo W) => (show (fun W => W.rangeAt b (o + k * 11) (l[k]).cs.toList ∧ W.rangeAt w.heap.size 0 x.cs.toList) W from ⟨HRE.out _ hW, HRX.out _ (hx.out.trans hW)⟩))
      have hxd := Ext.drew wo
      have hdk := hd
      generalize hyk : l[k] = y at *
      have HLs := Lib.hid (fun W => refLess_any y x W)
      have HR0 := Lib.hid hr
      clear hre hr
      have hkl3 : ((k : Int) < len) := by omega
      have hy28 : (Try.prog.info? 24).map (·.size) = some y.cs.toList.length := by rw [y.len_cs]; exact hi28
      have hx28 : (Try.prog.info? 24).map (·.size) = some x.cs.toList.length := by rw [x.len_cs]; exact hi28
      go_upto_region 2 with fail
      refine wp_region_noPanic ?_
      refine wp_region_held_drew (S := (fun W => W.rangeAt b (o + k * 11) y.cs.toList ∧ W.rangeAt w.heap.size 0 x.cs.toList)) (by kernel_rfl) (HSS.out _ hxd) (fun hHeld => ?_)
      refine wpAnyH_take (i := 0) (v := .int .i64 k) rfl (by kernel_rfl) (by kernel_rfl) (by kernel_rfl) (fun _ _ _ h => h) (Or.inl ⟨by rfl, by (intro w hSw; (try dsimp only at hSw); go_simp)⟩) (by assumption) ?_
      try simp only [List.getElem_toArray, List.getElem_cons_zero, List.getElem_cons_succ, Act.put, List.setIfInBounds_toArray, List.set_cons_zero, List.set_cons_succ]
      refine wpAnyH_take (i := 1) (v := .slice (some ⟨b, o, none⟩) len cap) rfl (by kernel_rfl) (by kernel_rfl) (by kernel_rfl) (fun _ _ _ h => h) (Or.inl ⟨by rfl, by (intro w hSw; (try dsimp only at hSw); go_simp)⟩) (by assumption) ?_
      try simp only [List.getElem_toArray, List.getElem_cons_zero, List.getElem_cons_succ, Act.put, List.setIfInBounds_toArray, List.set_cons_zero, List.set_cons_succ]
      refine wpAnyH_take (i := 2) (v := .int .i64 len) rfl (by kernel_rfl) (by kernel_rfl) (by kernel_rfl) (fun _ _ _ h => h) (Or.inl ⟨by rfl, by (intro w hSw; (try dsimp only at hSw); go_simp)⟩) (by assumption) ?_
      try simp only [List.getElem_toArray, List.getElem_cons_zero, List.getElem_cons_succ, Act.put, List.setIfInBounds_toArray, List.set_cons_zero, List.set_cons_succ]
      refine wpAnyH_take (i := 3) (v := .bool true) rfl (by kernel_rfl) (by kernel_rfl) (by kernel_rfl) (fun _ _ _ h => h) (Or.inl ⟨by rfl, by (intro w hSw; (try dsimp only at hSw); go_simp)⟩) (by assumption) ?_
      try simp only [List.getElem_toArray, List.getElem_cons_zero, List.getElem_cons_succ, Act.put, List.setIfInBounds_toArray, List.set_cons_zero, List.set_cons_succ]
      refine wpAnyH_take (i := 4) (v := .bool true) rfl (by kernel_rfl) (by kernel_rfl) (by kernel_rfl) (fun _ _ _ h => h) (Or.inl ⟨by rfl, by (intro w hSw; (try dsimp only at hSw); go_simp)⟩) (by assumption) ?_
      try simp only [List.getElem_toArray, List.getElem_cons_zero, List.getElem_cons_succ, Act.put, List.setIfInBounds_toArray, List.set_cons_zero, List.set_cons_succ]
      refine wpAnyH_take (i := 5) (v := .slice (some ⟨b, o, none⟩) len cap) rfl (by kernel_rfl) (by kernel_rfl) (by kernel_rfl) (fun _ _ _ h => h) (Or.inl ⟨by rfl, by (intro w hSw; (try dsimp only at hSw); go_simp)⟩) (by assumption) ?_
      try simp only [List.getElem_toArray, List.getElem_cons_zero, List.getElem_cons_succ, Act.put, List.setIfInBounds_toArray, List.set_cons_zero, List.set_cons_succ]
      refine wpAnyH_take (i := 6) (v := .int .i64 k) rfl (by kernel_rfl) (by kernel_rfl) (by kernel_rfl) (fun _ _ _ h => h) (Or.inl ⟨by rfl, by (intro w hSw; (try dsimp only at hSw); go_simp)⟩) (by assumption) ?_
      try simp only [List.getElem_toArray, List.getElem_cons_zero, List.getElem_cons_succ, Act.put, List.setIfInBounds_toArray, List.set_cons_zero, List.set_cons_succ]
      refine wpAnyH_take (i := 7) (v := .pointer (some ⟨b, o + k * 11, none⟩)) rfl (by kernel_rfl) (by kernel_rfl) (by kernel_rfl) (fun _ _ _ h => h) (Or.inl ⟨by rfl, by (intro w hSw; (try dsimp only at hSw); go_simp)⟩) (by assumption) ?_
      try simp only [List.getElem_toArray, List.getElem_cons_zero, List.getElem_cons_succ, Act.put, List.setIfInBounds_toArray, List.set_cons_zero, List.set_cons_succ]
      refine wpAnyH_take (i := 8) (v := .agg y.cs.toList.toArray) rfl (by kernel_rfl) (by kernel_rfl) (by kernel_rfl) (fun _ _ _ h => h) ?_ (by assumption) ?_
      · try simp only [List.getElem_toArray, List.getElem_cons_zero, List.getElem_cons_succ]
        exact yieldsIf_load_mid (by rfl) _ _ rfl b (o + k * 11) rfl y.cs.toList _ (fun w hSw => hSw.1) hu28 rfl hy28
      try simp only [List.getElem_toArray, List.getElem_cons_zero, List.getElem_cons_succ, Act.put, List.setIfInBounds_toArray, List.set_cons_zero, List.set_cons_succ, Array.toArray_toList]
      refine wpAnyH_take (i := 9) (v := .agg x.cs.toList.toArray) rfl (by kernel_rfl) (by kernel_rfl) (by kernel_rfl) (fun _ _ _ h => h) ?_ (by assumption) ?_
      · try simp only [List.getElem_toArray, List.getElem_cons_zero, List.getElem_cons_succ]
        exact yieldsIf_load_mid (by rfl) _ _ rfl w.heap.size (0) rfl x.cs.toList _ (fun w hSw => hSw.2) hu28 rfl hx28
      try simp only [List.getElem_toArray, List.getElem_cons_zero, List.getElem_cons_succ, Act.put, List.setIfInBounds_toArray, List.set_cons_zero, List.set_cons_succ, Array.toArray_toList]
      refine wpAnyH_ready (rs := [10]) (by kernel_rfl) (by simp) ?_
      refine AllReadyH.cons (i := 10) rfl (fun K hK => ?_) AllReadyH.nil
      go_simp
      go_at_call 22
      refine (HLs.out _).mono ?_
      rintro e w5 ⟨rfl, n5, hw5⟩
      have hx5 : Ext wo.drew w5 := hw5 ▸ ((Ext.alloc _ _).andAlloc _).andDrewN _
      clear hw5
      refine hK.out _ _ (HSS.out _ (hxd.trans hx5)) (fun hHeld2 => ?_)
      clear hK K hHeld
      try simp only [List.getElem_toArray, List.getElem_cons_zero, List.getElem_cons_succ, Act.put, List.setIfInBounds_toArray, List.set_cons_zero, List.set_cons_succ]
      refine wpAnyH_take (i := 11) (v := .bool (decide (cmpH y x < 0))) rfl (by kernel_rfl) (by kernel_rfl) (by kernel_rfl) (fun _ _ _ h => h) (Or.inl ⟨by rfl, by (intro w hSw; (try dsimp only at hSw); go_simp)⟩) (by assumption) ?_
      try simp only [List.getElem_toArray, List.getElem_cons_zero, List.getElem_cons_succ, Act.put, List.setIfInBounds_toArray, List.set_cons_zero, List.set_cons_succ]
      refine wpAnyH_done (by kernel_rfl) ?_ _
      refine NoPanic.normal ?_
      cases hq : decide (cmpH y x < 0) with
      | true =>
        have HT := Lib.hid (show ltH (l[k]) x = true from by rw [hyk]; exact hq)
        clear hq
        go_wp2_with fail
        go_roundw
        case rel => exact ⟨k + 1, by omega, by go_num, fun m h hm => by
          rcases Nat.lt_succ_iff_lt_or_eq.1 hm with h1 | rfl
          · exact hdk.out m h h1
          · exact HT.out, hx.out.trans (hxd.trans hx5)⟩
        case measure => simp [intOf]; omega
      | false =>
        have HT := Lib.hid (show ltH (l[k]) x = false from by rw [hyk]; exact hq)
        clear hq
        go_upto_region 4 with fail
        have hx5' := hx.out.trans (hxd.trans hx5)
        have hp := HRE.out _ (hxd.trans hx5)
        have hqx := HRX.out _ hx5'
        have p0 : w5.cell? ⟨b, o + k * 11, none⟩ = some (.int .u64 (y.f 0)) := cellAt hp 0 (by omega)
        have p1 : w5.cell? ⟨b, o + k * 11 + 1, none⟩ = some (.int .u64 (y.f 1)) := cellAt hp 1 (by omega)
        have p2 : w5.cell? ⟨b, o + k * 11 + 2, none⟩ = some (.int .u64 (y.f 2)) := cellAt hp 2 (by omega)
        have p3 : w5.cell? ⟨b, o + k * 11 + 3, none⟩ = some (.int .u64 (y.f 3)) := cellAt hp 3 (by omega)
        have p4 : w5.cell? ⟨b, o + k * 11 + 4, none⟩ = some (.int .u64 (y.f 4)) := cellAt hp 4 (by omega)
        have p5 : w5.cell? ⟨b, o + k * 11 + 5, none⟩ = some (.int .u64 (y.f 5)) := cellAt hp 5 (by omega)
        have p6 : w5.cell? ⟨b, o + k * 11 + 6, none⟩ = some (.int .u64 (y.f 6)) := cellAt hp 6 (by omega)
        have p7 : w5.cell? ⟨b, o + k * 11 + 7, none⟩ = some (.int .u64 (y.f 7)) := cellAt hp 7 (by omega)
        have p8 : w5.cell? ⟨b, o + k * 11 + 8, none⟩ = some (.int .u64 (y.f 8)) := cellAt hp 8 (by omega)
        have p9 : w5.cell? ⟨b, o + k * 11 + 9, none⟩ = some (.int .u64 (y.f 9)) := cellAt hp 9 (by omega)
        have p10 : w5.cell? ⟨b, o + k * 11 + 10, none⟩ = some (.int .u64 (y.f 10)) := cellAt hp 10 (by omega)
        have q0 : w5.cell? ⟨w.heap.size, 0, none⟩ = some (.int .u64 (x.f 0)) := by have := cellAt hqx 0 (by omega); rwa [Nat.zero_add] at this
        have q1 : w5.cell? ⟨w.heap.size, 1, none⟩ = some (.int .u64 (x.f 1)) := by have := cellAt hqx 1 (by omega); rwa [Nat.zero_add] at this
        have q2 : w5.cell? ⟨w.heap.size, 2, none⟩ = some (.int .u64 (x.f 2)) := by have := cellAt hqx 2 (by omega); rwa [Nat.zero_add] at this
        have q3 : w5.cell? ⟨w.heap.size, 3, none⟩ = some (.int .u64 (x.f 3)) := by have := cellAt hqx 3 (by omega); rwa [Nat.zero_add] at this
        have q4 : w5.cell? ⟨w.heap.size, 4, none⟩ = some (.int .u64 (x.f 4)) := by have := cellAt hqx 4 (by omega); rwa [Nat.zero_add] at this
        have q5 : w5.cell? ⟨w.heap.size, 5, none⟩ = some (.int .u64 (x.f 5)) := by have := cellAt hqx 5 (by omega); rwa [Nat.zero_add] at this
        have q6 : w5.cell? ⟨w.heap.size, 6, none⟩ = some (.int .u64 (x.f 6)) := by have := cellAt hqx 6 (by omega); rwa [Nat.zero_add] at this
        have q7 : w5.cell? ⟨w.heap.size, 7, none⟩ = some (.int .u64 (x.f 7)) := by have := cellAt hqx 7 (by omega); rwa [Nat.zero_add] at this
        have q8 : w5.cell? ⟨w.heap.size, 8, none⟩ = some (.int .u64 (x.f 8)) := by have := cellAt hqx 8 (by omega); rwa [Nat.zero_add] at this
        have q9 : w5.cell? ⟨w.heap.size, 9, none⟩ = some (.int .u64 (x.f 9)) := by have := cellAt hqx 9 (by omega); rwa [Nat.zero_add] at this
        have q10 : w5.cell? ⟨w.heap.size, 10, none⟩ = some (.int .u64 (x.f 10)) := by have := cellAt hqx 10 (by omega); rwa [Nat.zero_add] at this
        have hg := guardH
        have he := eqH y x
        simp only [Hdr.cs_eq] at he
        clear hp hqx
        by_cases hyx : y = x
        · have HF := Lib.hid (addH_there (l := l) (k := k) (fun m h hm => hdk.out m h hm) hkl (hyk.trans hyx))
          rw [show decide (y = x) = true from by simpa using hyx] at he
          clear hyx
          go_quiet (fail)
          go_wp2_with fail
          go_ret
          exact ⟨⟨_, rfl, by rw [HF.out]; exact HV.out.ext (HZ.out.trans (hx5'.andDrewN _))⟩, HZ.out.trans (hx5'.andDrewN _)⟩
        · have HF := Lib.hid (addH_new (l := l) (k := k) (fun m h hm => hdk.out m h hm) (Nat.le_of_lt hkl) (fun h => ⟨HT.out, by rw [hyk]; exact hyx⟩))
          rw [show decide (y = x) = false from by simpa using hyx] at he
          clear hyx
          go_quiet (fail)
          have HX0 := Lib.hid (HZ.out.trans (hx5'.andDrewN nq))
          have HXA := Lib.hid (hx5'.andDrewN nq)
          generalize w5.drewN nq = wz at *
          obtain ⟨i0, hi0, hz0, hz1, hz2⟩ := info_parts infoH
          have hkle : k ≤ l.length := by rw [← HL.out]; omega
          go_wp2_with (first | (refine wpList_make_own wz rfl _ _ 25 rfl wz.heap.size 24 i0 _ 11 Try.underlying25 hi0 hz0 hz1 .i64 .i64 _ (len + 1) rfl rfl (by push_cast; rfl) (by rw [hz2]; omega) (by unfold maxLen; omega) (Nat.le_refl _) ?_; intro wm hown hgm))
          have HOM := Lib.hid hown
          have HGM := Lib.hid hgm
          clear hown hgm
          go_loopw [6, 7] (fun u i wr => ∃ j : Nat, j ≤ k ∧ i = .int .i64 j ∧ wr.ownsRow wz.heap.size 24 11 u (l.take j).length (flatH (l.take j)) ∧ Hid (Ext wz wr)) (fun _ i _ => k - (intOf i).toNat)
          case atStart => exact ⟨0, Nat.zero_le _, rfl, HOM.out, (Ext.refl wz).grown0 HGM.out⟩
          case round =>
            obtain ⟨wl, rfl⟩ : ∃ wl : World, wl = wr := ⟨_, rfl⟩
            obtain ⟨j, hj, rfl, hown, hxl⟩ := hrel
            have hszl : wz.heap.size ≤ wl.heap.size := hxl.out.size
            have HBL := Lib.hid (fun i (hi : u6.ownBlock = some i) => (hown.lt i hi).1)
            by_cases hjk : j < k
            · have hjl : j < l.length := by omega
              have hre := Lib.hid (World.rangeAt.later (HX0.out.trans hxl.out).later (rangeAt_get Hdr.len_cs HR0.out j hjl))
              have HTk := Lib.hid (List.take_succ_eq_append_getElem hjl)
              have HO := Lib.hid (hown.alloc (.cells (l[j]).cs 24))
              have hlj : (l.take j).length < 1000000000 := by simp; omega
              have hjlen : j < len := by rw [HL.out]; exact hjl
              generalize hyj : l[j] = y2 at *
              clear hown
              go_wp2_with (first
                | (refine wpList_load_H rfl _ rfl b (o + j * 11) rfl y2 hre.out ?_)
                | (refine wpList_one_H rfl _ rfl y2 rfl ?_)
                | (at_builtin; refine wpList_append_H rfl _ _ rfl wz.heap.size u6 (l.take j) rfl HO.out _ y2 rfl (rangeAt_new _ _ _) hlj (by simp; omega) ?_; intro v4 w4 hown4 hg4))
              go_roundw
              case rel => exact ⟨j + 1, by omega, by go_num, by rw [HTk.out]; exact hown4, (hxl.out.andAlloc _).grown hg4 HBL.out⟩
              case measure => simp [intOf]; omega
            · have hjk2 : j = k := by omega
              subst hjk2
              have HRXl := Lib.hid (HRX.out _ (HXA.out.trans hxl.out))
              have HO := Lib.hid (hown.alloc (.cells x.cs 24))
              have hlj : (l.take j).length < 1000000000 := by simp; omega
              clear hown
              go_wp2_with (first
                | (refine wpList_load_H rfl _ rfl w.heap.size 0 rfl x HRXl.out ?_)
                | (refine wpList_one_H rfl _ rfl x rfl ?_)
                | (at_builtin; refine wpList_append_H rfl _ _ rfl wz.heap.size u6 (l.take j) rfl HO.out _ x rfl (rangeAt_new _ _ _) hlj (by simp; omega) ?_; intro v4 w4 hown4 hg4))
              have HO4 := Lib.hid hown4
              have HX4 := Lib.hid ((hxl.out.andAlloc _).grown hg4 HBL.out)
              clear hown4 hg4
              go_wp2_with fail
              go_loopw [6, 8] (fun u i wr => ∃ m : Nat, j ≤ m ∧ m ≤ len ∧ i = .int .i64 m ∧ wr.ownsRow wz.heap.size 24 11 u (l.take j ++ x :: (l.take m).drop j).length (flatH (l.take j ++ x :: (l.take m).drop j)) ∧ Hid (Ext wz wr)) (fun _ i _ => len - (intOf i).toNat)
              case atStart => exact ⟨j, Nat.le_refl _, by omega, rfl, by have := HO4.out; simpa using this, HX4.out⟩
              case round =>
                obtain ⟨wn, rfl⟩ : ∃ wn : World, wn = wr := ⟨_, rfl⟩
                obtain ⟨m, hjm, hm, rfl, hown, hxn⟩ := hrel
                have hszn : wz.heap.size ≤ wn.heap.size := hxn.out.size
                have HBL2 := Lib.hid (fun i (hi : u6.ownBlock = some i) => (hown.lt i hi).1)
                by_cases hml : m < len
                · have hjl : m < l.length := by rw [← HL.out]; exact hml
                  have hre := Lib.hid (World.rangeAt.later (HX0.out.trans hxn.out).later (rangeAt_get Hdr.len_cs HR0.out m hjl))
                  have HTk := Lib.hid (show l.take j ++ x :: (l.take (m + 1)).drop j = (l.take j ++ x :: (l.take m).drop j) ++ [l[m]] from by rw [take_drop_one hjm hjl]; simp)
                  have HO := Lib.hid (hown.alloc (.cells (l[m]).cs 24))
                  have hlj2 : (l.take j ++ x :: (l.take m).drop j).length < 1000000000 := by simp; omega
                  generalize hyj : l[m] = y2 at *
                  clear hown
                  go_wp2_with (first
                    | (refine wpList_load_H rfl _ rfl b (o + m * 11) rfl y2 hre.out ?_)
                    | (refine wpList_one_H rfl _ rfl y2 rfl ?_)
                    | (at_builtin; refine wpList_append_H rfl _ _ rfl wz.heap.size u6 (l.take j ++ x :: (l.take m).drop j) rfl HO.out _ y2 rfl (rangeAt_new _ _ _) hlj2 (by simp; omega) ?_; intro v5 w5' hown5 hg5))
                  go_roundw
                  case rel => exact ⟨m + 1, by omega, by omega, by go_num, by rw [HTk.out]; exact hown5, (hxn.out.andAlloc _).grown hg5 HBL2.out⟩
                  case measure => simp [intOf]; omega
                · have HT := Lib.hid (show l.take j ++ x :: (l.take m).drop j = addH l x from by
                    rw [HF.out, List.take_of_length_le (l := l) (i := m) (by have := HL.out; omega)])
                  have HO5 := Lib.hid hown
                  clear hown
                  go_wp2_with fail
                  go_ret
                  refine ⟨⟨_, rfl, ?_⟩, HX0.out.trans hxn.out⟩
                  have := HSl.of_owns HO5.out
                  rw [HT.out] at this
                  exact this.mono (by have := HX0.out.size; omega)
    · have hkl : k = len := by omega
      subst hkl
      have HF := Lib.hid (addH_new (l := l) (k := k) (fun m h hm => hd.out m h hm) (by have := HL.out; omega) (fun h => by have := HL.out; omega))
      go_upto_region 2 with fail
      go_quiet (fail)
      have hx2 := hx.out.andDrewN nq
      generalize wo.drewN nq = wy at *
      go_upto_region 4 with fail
      go_quiet (fail)
      have HX0 := Lib.hid (HZ.out.trans (hx2.andDrewN nq))
      have HXA := Lib.hid (hx2.andDrewN nq)
      generalize wy.drewN nq = wz at *
      obtain ⟨i0, hi0, hz0, hz1, hz2⟩ := info_parts infoH
      have hkle : k ≤ l.length := by rw [← HL.out]; omega
      go_wp2_with (first | (refine wpList_make_own wz rfl _ _ 25 rfl wz.heap.size 24 i0 _ 11 Try.underlying25 hi0 hz0 hz1 .i64 .i64 _ (k + 1) rfl rfl (by push_cast; rfl) (by rw [hz2]; omega) (by unfold maxLen; omega) (Nat.le_refl _) ?_; intro wm hown hgm))
      have HOM := Lib.hid hown
      have HGM := Lib.hid hgm
      clear hown hgm
      go_loopw [6, 7] (fun u i wr => ∃ j : Nat, j ≤ k ∧ i = .int .i64 j ∧ wr.ownsRow wz.heap.size 24 11 u (l.take j).length (flatH (l.take j)) ∧ Hid (Ext wz wr)) (fun _ i _ => k - (intOf i).toNat)
      case atStart => exact ⟨0, Nat.zero_le _, rfl, HOM.out, (Ext.refl wz).grown0 HGM.out⟩
      case round =>
        obtain ⟨wl, rfl⟩ : ∃ wl : World, wl = wr := ⟨_, rfl⟩
        obtain ⟨j, hj, rfl, hown, hxl⟩ := hrel
        have hszl : wz.heap.size ≤ wl.heap.size := hxl.out.size
        have HBL := Lib.hid (fun i (hi : u6.ownBlock = some i) => (hown.lt i hi).1)
        by_cases hjk : j < k
        · have hjl : j < l.length := by omega
          obtain ⟨b, o, rfl, hb, hr⟩ := HH.out.resolve_left (fun e => by rw [e] at hjl; simp at hjl)
          have HR0 := Lib.hid hr
          clear hr
          have hre := Lib.hid (World.rangeAt.later (HX0.out.trans hxl.out).later (rangeAt_get Hdr.len_cs HR0.out j hjl))
          have HTk := Lib.hid (List.take_succ_eq_append_getElem hjl)
          have HO := Lib.hid (hown.alloc (.cells (l[j]).cs 24))
          have hlj : (l.take j).length < 1000000000 := by simp; omega
          have hjlen : j < k := by rw [HL.out]; exact hjl
          generalize hyj : l[j] = y2 at *
          clear hown
          go_wp2_with (first
            | (refine wpList_load_H rfl _ rfl b (o + j * 11) rfl y2 hre.out ?_)
            | (refine wpList_one_H rfl _ rfl y2 rfl ?_)
            | (at_builtin; refine wpList_append_H rfl _ _ rfl wz.heap.size u6 (l.take j) rfl HO.out _ y2 rfl (rangeAt_new _ _ _) hlj (by simp; omega) ?_; intro v4 w4 hown4 hg4))
          go_roundw
          case rel => exact ⟨j + 1, by omega, by go_num, by rw [HTk.out]; exact hown4, (hxl.out.andAlloc _).grown hg4 HBL.out⟩
          case measure => simp [intOf]; omega
        · have hjk2 : j = k := by omega
          subst hjk2
          have HRXl := Lib.hid (HRX.out _ (HXA.out.trans hxl.out))
          have HO := Lib.hid (hown.alloc (.cells x.cs 24))
          have hlj : (l.take j).length < 1000000000 := by simp; omega
          clear hown
          go_wp2_with (first
            | (refine wpList_load_H rfl _ rfl w.heap.size 0 rfl x HRXl.out ?_)
            | (refine wpList_one_H rfl _ rfl x rfl ?_)
            | (at_builtin; refine wpList_append_H rfl _ _ rfl wz.heap.size u6 (l.take j) rfl HO.out _ x rfl (rangeAt_new _ _ _) hlj (by simp; omega) ?_; intro v4 w4 hown4 hg4))
          have HO4 := Lib.hid hown4
          have HX4 := Lib.hid ((hxl.out.andAlloc _).grown hg4 HBL.out)
          clear hown4 hg4
          go_wp2_with fail
          go_loopw [6, 8] (fun u i wr => ∃ m : Nat, j ≤ m ∧ m ≤ j ∧ i = .int .i64 m ∧ wr.ownsRow wz.heap.size 24 11 u (l.take j ++ x :: (l.take m).drop j).length (flatH (l.take j ++ x :: (l.take m).drop j)) ∧ Hid (Ext wz wr)) (fun _ i _ => j - (intOf i).toNat)
          case atStart => exact ⟨j, Nat.le_refl _, by omega, rfl, by have := HO4.out; simpa using this, HX4.out⟩
          case round =>
            obtain ⟨wn, rfl⟩ : ∃ wn : World, wn = wr := ⟨_, rfl⟩
            obtain ⟨m, hjm, hm, rfl, hown, hxn⟩ := hrel
            have hszn : wz.heap.size ≤ wn.heap.size := hxn.out.size
            have HBL2 := Lib.hid (fun i (hi : u6.ownBlock = some i) => (hown.lt i hi).1)
            by_cases hml : m < j
            · have hjl : m < l.length := by rw [← HL.out]; exact hml
              obtain ⟨b, o, rfl, hb, hr⟩ := HH.out.resolve_left (fun e => by rw [e] at hjl; simp at hjl)
              have HR0 := Lib.hid hr
              clear hr
              have hre := Lib.hid (World.rangeAt.later (HX0.out.trans hxn.out).later (rangeAt_get Hdr.len_cs HR0.out m hjl))
              have HTk := Lib.hid (show l.take j ++ x :: (l.take (m + 1)).drop j = (l.take j ++ x :: (l.take m).drop j) ++ [l[m]] from by rw [take_drop_one hjm hjl]; simp)
              have HO := Lib.hid (hown.alloc (.cells (l[m]).cs 24))
              have hlj2 : (l.take j ++ x :: (l.take m).drop j).length < 1000000000 := by simp; omega
              generalize hyj : l[m] = y2 at *
              clear hown
              go_wp2_with (first
                | (refine wpList_load_H rfl _ rfl b (o + m * 11) rfl y2 hre.out ?_)
                | (refine wpList_one_H rfl _ rfl y2 rfl ?_)
                | (at_builtin; refine wpList_append_H rfl _ _ rfl wz.heap.size u6 (l.take j ++ x :: (l.take m).drop j) rfl HO.out _ y2 rfl (rangeAt_new _ _ _) hlj2 (by simp; omega) ?_; intro v5 w5' hown5 hg5))
              go_roundw
              case rel => exact ⟨m + 1, by omega, by omega, by go_num, by rw [HTk.out]; exact hown5, (hxn.out.andAlloc _).grown hg5 HBL2.out⟩
              case measure => simp [intOf]; omega
            · have HT := Lib.hid (show l.take j ++ x :: (l.take m).drop j = addH l x from by
                rw [HF.out, List.take_of_length_le (l := l) (i := m) (by have := HL.out; omega)])
              have HO5 := Lib.hid hown
              clear hown
              go_wp2_with fail
              go_ret
              refine ⟨⟨_, rfl, ?_⟩, HX0.out.trans hxn.out⟩
              have := HSl.of_owns HO5.out
              rw [HT.out] at this
              exact this.mono (by have := HX0.out.size; omega)
end Go.Proofs.Ytddeelepaiklgaa
