/- The document's Trace. -/
import Derived.Test.YtddeelepaiklgaaMJ5
import Derived.Test.YtddeelepaiklgaaMJ1
import Derived.Test.YtddeelepaiklgaaMJ3
import Derived.Test.YtddeelepaiklgaaRow
import Derived.Carry
namespace Go.Proofs.Ytddeelepaiklgaa
open Go.RowKit Go.Maps Go.Sort Go.Lib
set_option linter.unusedSimpArgs false

set_option maxHeartbeats 8000000 in
set_option maxRecDepth 100000 in
theorem refTrace_any (l : List HopD) (all : List PolD) (lv av : Value) (w : World) (hl : SlOf HAt 14 w l lv) (ha : SlOf PAt 5 w all av) :
    Calls Try.prog 14 #[lv, av] w fun e w' => e = .returned (.bool (traceP l all)) ∧ Ext w w' := by
  obtain ⟨pl, len, cap, rfl, hlen, hlc, hcm, hls⟩ := hl
  obtain ⟨pa, len2, cap2, rfl, hlen2, hlc2, hcm2, has⟩ := ha
  have HL := Lib.hid hlen
  have HL2 := Lib.hid hlen2
  have hiH : ∀ (a b : Int) (x : Hdr) (v : Value), (Try.prog.info? 27).map (·.size) = some (hopCs a b x v).length := fun a b x v => by
    rw [← List.size_toArray, size_hopCs]; kernel_rfl
  have HUS := Lib.hid (And.intro Try.underlying27 (And.intro hiH (And.intro (show (Try.prog.info? 34).map (·.size) = some 5 from by kernel_rfl) Try.underlying34)))
  clear hiH hlen hlen2
  by_cases hl0 : len = 0
  · have HF := Lib.hid (show traceP l all = true from by
      have : l = [] := List.length_eq_zero_iff.1 (by rw [← HL.out]; exact hl0)
      rw [this]; rfl)
    subst hl0
    go_enter Try.func14, Try.ntmps14
    go_wp2_with fail
    go_ret
    exact ⟨by rw [HF.out]; rfl, Ext.refl _⟩
  have hlp : 0 < l.length := by have := HL.out; omega
  have hlpb : ((len : Int) == 0) = false := by simpa using hl0
  rcases hls with hls | ⟨b, o, rfl, hls⟩
  · exfalso; subst hls; simp at hlp
  have hlenp : 0 < len := by omega
  have HP := Lib.hid (show traceP l all = traceL (l[0]).pol all l from by
    cases l with
    | nil => simp at hlp
    | cons h hs => rfl)
  have HP0 := Lib.hid (show traceL (l[0]).pol all l = (hopOk all (l[0]) && traceL (l[0]).pol all (l.drop 1)) from by
    cases l with
    | nil => simp at hlp
    | cons h hs => rw [traceL]; simp)
  have HHS := Lib.hid (fun W (hW : Ext w W) i (h : i < l.length) => (hls i h).later hW)
  have h00 : HAt w (l[0]) b o := by have := hls 0 hlp; rwa [Nat.zero_mul, Nat.add_zero] at this
  obtain ⟨_, hr0, -, -, hb0, hb0'⟩ := h00
  have e0 := (hop_cells hr0).2.1
  have HOK := Lib.hid (show hopOk all (l[0]) = (match all[((l[0]).pol - 1).toNat]? with
    | some q => decide (1 ≤ (l[0]).pol) && hopP q.1 q.2 (l[0]).x (l[0]).out
    | none => false) from rfl)
  generalize hn0 : (l[0]).pol = n0 at *
  clear hls hr0 hn0
  by_cases hn1 : n0 < 1
  · have HF := Lib.hid (show traceP l all = false from by
      rw [HP.out, HP0.out, HOK.out]
      cases all[(n0 - 1).toNat]? with
      | none => rfl
      | some q => simp; omega)
    go_enter Try.func14, Try.ntmps14
    go_wp2_with fail
    go_ret
    exact ⟨by rw [HF.out]; rfl, Ext.refl _⟩
  by_cases hn2 : (len2 : Int) < n0
  · have HF := Lib.hid (show traceP l all = false from by
      rw [HP.out, HP0.out, HOK.out, List.getElem?_eq_none (by have := HL2.out; omega)]
      rfl)
    go_enter Try.func14, Try.ntmps14
    go_wp2_with fail
    go_ret
    exact ⟨by rw [HF.out]; rfl, Ext.refl _⟩
  obtain ⟨k, rfl⟩ : ∃ k : Nat, n0 = (k : Int) + 1 := ⟨(n0 - 1).toNat, by omega⟩
  have hk2 : k < len2 := by omega
  have hkall : k < all.length := by rw [← HL2.out]; exact hk2
  rcases has with has | ⟨b2, o2, rfl, has⟩
  · exfalso; subst has; simp at hkall
  have HOK2 := Lib.hid (fun (h : HopD) (hh : h.pol = (k : Int) + 1) => show hopOk all h = hopP (all[k]).1 (all[k]).2 h.x h.out from by
    unfold hopOk
    rw [hh, show (((k : Int) + 1 - 1).toNat) = k by omega, List.getElem?_eq_getElem hkall]
    have : decide (1 ≤ (k : Int) + 1) = true := by simp; omega
    simp only [this, Bool.true_and])
  have HPA := Lib.hid (fun W (hW : Ext w W) => (has k hkall).later hW)
  clear has HP0 HOK
  generalize hqk : all[k] = q at *
  clear hqk
  go_enter Try.func14, Try.ntmps14
  go_wp2_with fail
  go_loopw [6, 7] (fun i _ wr => ∃ j : Nat, j ≤ len ∧ i = .int .i64 j ∧ Hid (traceL ((k : Int) + 1) all (l.drop j) = traceL ((k : Int) + 1) all l) ∧ Hid (Ext w wr)) (fun i _ _ => len - (intOf i).toNat)
  case atStart => exact ⟨0, Nat.zero_le _, rfl, rfl, Ext.refl _⟩
  case round =>
    obtain ⟨wn, rfl⟩ : ∃ wn : World, wn = wr := ⟨_, rfl⟩
    obtain ⟨j, hj, rfl, hT, hx⟩ := hrel
    by_cases hlt : j < len
    case neg =>
      have HF := Lib.hid (show traceP l all = true from by
        rw [HP.out, ← hT.out, List.drop_of_length_le (by have := HL.out; omega), traceL])
      clear hT
      go_wp2_with fail
      go_ret
      exact ⟨by rw [HF.out]; rfl, hx.out⟩
    have hjl : j < l.length := by rw [← HL.out]; exact hlt
    have hT2 := hT.out
    rw [drop_get hjl, traceL] at hT2
    obtain ⟨h, hh⟩ : ∃ h, h = l[j] := ⟨_, rfl⟩
    have HHJ := Lib.hid (fun W (hW : Ext wn W) => show HAt W h b (o + j * 14) from by rw [hh]; exact HHS.out W (hx.out.trans hW) j hjl)
    rw [← hh] at hT2
    obtain ⟨ov, hr, hov, hmx, hpl, hpu⟩ := HHJ.out wn (Ext.refl _)
    obtain ⟨p, ln, cp, qv, hpr, hpv, hpq⟩ := HPA.out wn hx.out
    have HSS := Lib.hid (fun W (hW : Ext wn W) => (show (fun W => W.rangeAt b (o + j * 14) (hopCs h.step h.pol h.x ov) ∧ W.rangeAt b2 (o2 + k * 5) [.int .i8 q.1.op, .int .i8 q.1.fld, .int .u64 q.1.n, .slice p ln cp, qv]) W from
      ⟨World.rangeAt.later hW.later hr, World.rangeAt.later hW.later hpr⟩))
    have HRH := Lib.hid (fun W (hW : Ext wn W) => refHop_any q.1 q.2 h.step h.pol h.x h.out (.agg (hopCs h.step h.pol h.x ov).toArray) (.agg #[.int .i8 q.1.op, .int .i8 q.1.fld, .int .u64 q.1.n, .slice p ln cp, qv]) W
      ⟨ov, rfl, hov.ext hW, hmx⟩ ⟨p, ln, cp, qv, rfl, hpv.later hW.later, hpq.later hW.later⟩)
    have HOKh := Lib.hid (HOK2.out h)
    have HT2 := Lib.hid hT2
    generalize hopP q.1 q.2 h.x h.out = ok at *
    have huO := HUS.out.1
    have hiO := HUS.out.2.1 h.step h.pol h.x ov
    have huP := HUS.out.2.2.2
    have hiP : (Try.prog.info? 34).map (·.size) = some [.int .i8 q.1.op, .int .i8 q.1.fld, .int .u64 q.1.n, .slice p ln cp, qv].length := HUS.out.2.2.1
    have hz0 : Ext wn wn.drew := Ext.drew _
    have hko : ¬ ((k : Int) + 1 < 1) := by omega
    clear hT hT2 hr hov hpr hpv hpq hh
    go_upto_region 9 with fail
    refine wp_region_noPanic ?_
    refine wp_region_held_drew (S := (fun W => W.rangeAt b (o + j * 14) (hopCs h.step h.pol h.x ov) ∧ W.rangeAt b2 (o2 + k * 5) [.int .i8 q.1.op, .int .i8 q.1.fld, .int .u64 q.1.n, .slice p ln cp, qv])) (by kernel_rfl) (HSS.out _ hz0) (fun hHeld => ?_)
    refine wpAnyH_take (i := 0) (v := .slice (some ⟨b, o, none⟩) len cap) rfl (by kernel_rfl) (by kernel_rfl) (by kernel_rfl) (fun _ _ _ h => h) (Or.inl ⟨by rfl, by (intro w hSw; (try dsimp only at hSw); go_simp; try (first | omega | (rw [IntKind.wrap_i64]; omega)))⟩) (by assumption) ?_
    try simp only [List.getElem_toArray, List.getElem_cons_zero, List.getElem_cons_succ, Act.put, List.setIfInBounds_toArray, List.set_cons_zero, List.set_cons_succ, Array.toArray_toList]
    refine wpAnyH_take (i := 1) (v := .int .i64 j) rfl (by kernel_rfl) (by kernel_rfl) (by kernel_rfl) (fun _ _ _ h => h) (Or.inl ⟨by rfl, by (intro w hSw; (try dsimp only at hSw); go_simp; try (first | omega | (rw [IntKind.wrap_i64]; omega)))⟩) (by assumption) ?_
    try simp only [List.getElem_toArray, List.getElem_cons_zero, List.getElem_cons_succ, Act.put, List.setIfInBounds_toArray, List.set_cons_zero, List.set_cons_succ, Array.toArray_toList]
    refine wpAnyH_take (i := 2) (v := .pointer (some ⟨b, o + j * 14, none⟩)) rfl (by kernel_rfl) (by kernel_rfl) (by kernel_rfl) (fun _ _ _ h => h) (Or.inl ⟨by rfl, by (intro w hSw; (try dsimp only at hSw); go_simp; try (first | omega | (rw [IntKind.wrap_i64]; omega)))⟩) (by assumption) ?_
    try simp only [List.getElem_toArray, List.getElem_cons_zero, List.getElem_cons_succ, Act.put, List.setIfInBounds_toArray, List.set_cons_zero, List.set_cons_succ, Array.toArray_toList]
    refine wpAnyH_take (i := 3) (v := .agg (hopCs h.step h.pol h.x ov).toArray) rfl (by kernel_rfl) (by kernel_rfl) (by kernel_rfl) (fun _ _ _ h => h) ?_ (by assumption) ?_
    · try simp only [List.getElem_toArray, List.getElem_cons_zero, List.getElem_cons_succ]
      exact yieldsIf_load_mid (by rfl) _ _ rfl (b) (o + j * 14) rfl (hopCs h.step h.pol h.x ov) _ (fun w hSw => hSw.1) huO rfl hiO
    try simp only [List.getElem_toArray, List.getElem_cons_zero, List.getElem_cons_succ, Act.put, List.setIfInBounds_toArray, List.set_cons_zero, List.set_cons_succ, Array.toArray_toList]
    refine wpAnyH_take (i := 4) (v := .slice (some ⟨b2, o2, none⟩) len2 cap2) rfl (by kernel_rfl) (by kernel_rfl) (by kernel_rfl) (fun _ _ _ h => h) (Or.inl ⟨by rfl, by (intro w hSw; (try dsimp only at hSw); go_simp; try (first | omega | (rw [IntKind.wrap_i64]; omega)))⟩) (by assumption) ?_
    try simp only [List.getElem_toArray, List.getElem_cons_zero, List.getElem_cons_succ, Act.put, List.setIfInBounds_toArray, List.set_cons_zero, List.set_cons_succ, Array.toArray_toList]
    refine wpAnyH_take (i := 5) (v := .int .i64 ((k : Int) + 1)) rfl (by kernel_rfl) (by kernel_rfl) (by kernel_rfl) (fun _ _ _ h => h) (Or.inl ⟨by rfl, by (intro w hSw; (try dsimp only at hSw); go_simp; try (first | omega | (rw [IntKind.wrap_i64]; omega)))⟩) (by assumption) ?_
    try simp only [List.getElem_toArray, List.getElem_cons_zero, List.getElem_cons_succ, Act.put, List.setIfInBounds_toArray, List.set_cons_zero, List.set_cons_succ, Array.toArray_toList]
    refine wpAnyH_take (i := 6) (v := .int .i64 k) rfl (by kernel_rfl) (by kernel_rfl) (by kernel_rfl) (fun _ _ _ h => h) (Or.inl ⟨by rfl, by (intro w hSw; (try dsimp only at hSw); go_simp; try (first | omega | (rw [IntKind.wrap_i64]; omega)))⟩) (by assumption) ?_
    try simp only [List.getElem_toArray, List.getElem_cons_zero, List.getElem_cons_succ, Act.put, List.setIfInBounds_toArray, List.set_cons_zero, List.set_cons_succ, Array.toArray_toList]
    refine wpAnyH_take (i := 7) (v := .pointer (some ⟨b2, o2 + k * 5, none⟩)) rfl (by kernel_rfl) (by kernel_rfl) (by kernel_rfl) (fun _ _ _ h => h) (Or.inl ⟨by rfl, by (intro w hSw; (try dsimp only at hSw); go_simp; try (first | omega | (rw [IntKind.wrap_i64]; omega)))⟩) (by assumption) ?_
    try simp only [List.getElem_toArray, List.getElem_cons_zero, List.getElem_cons_succ, Act.put, List.setIfInBounds_toArray, List.set_cons_zero, List.set_cons_succ, Array.toArray_toList]
    refine wpAnyH_take (i := 8) (v := .agg #[.int .i8 q.1.op, .int .i8 q.1.fld, .int .u64 q.1.n, .slice p ln cp, qv]) rfl (by kernel_rfl) (by kernel_rfl) (by kernel_rfl) (fun _ _ _ h => h) ?_ (by assumption) ?_
    · try simp only [List.getElem_toArray, List.getElem_cons_zero, List.getElem_cons_succ]
      exact yieldsIf_load_mid (by rfl) _ _ rfl (b2) (o2 + k * 5) rfl [.int .i8 q.1.op, .int .i8 q.1.fld, .int .u64 q.1.n, .slice p ln cp, qv] _ (fun w hSw => hSw.2) huP rfl hiP
    try simp only [List.getElem_toArray, List.getElem_cons_zero, List.getElem_cons_succ, Act.put, List.setIfInBounds_toArray, List.set_cons_zero, List.set_cons_succ, Array.toArray_toList]
    refine wpAnyH_ready (rs := [9]) (by kernel_rfl) (by simp) ?_
    refine AllReadyH.cons (i := 9) rfl (fun K hK => ?_) AllReadyH.nil
    go_simp
    go_at_call 11
    refine (HRH.out _ hz0).mono ?_
    rintro e y1 ⟨rfl, hy1⟩
    have hz1 := hz0.trans hy1
    refine hK.out _ _ (HSS.out _ hz1) (fun hHeld1 => ?_)
    clear hK K
    try simp only [List.getElem_toArray, List.getElem_cons_zero, List.getElem_cons_succ, Act.put, List.setIfInBounds_toArray, List.set_cons_zero, List.set_cons_succ, Array.toArray_toList]
    refine wpAnyH_take (i := 10) (v := .bool ok) rfl (by kernel_rfl) (by kernel_rfl) (by kernel_rfl) (fun _ _ _ h => h) (Or.inl ⟨by rfl, by (intro w hSw; (try dsimp only at hSw); go_simp; try (first | omega | (rw [IntKind.wrap_i64]; omega)))⟩) (by assumption) ?_
    try simp only [List.getElem_toArray, List.getElem_cons_zero, List.getElem_cons_succ, Act.put, List.setIfInBounds_toArray, List.set_cons_zero, List.set_cons_succ, Array.toArray_toList]
    refine wpAnyH_done (by kernel_rfl) ?_ _
    refine NoPanic.normal ?_
    clear hHeld hHeld1 huO hiO huP hiP
    obtain ⟨_, hr1, -⟩ := HHJ.out _ hz1
    have e1 := (hop_cells hr1).2.1
    clear hr1
    by_cases hp : h.pol = (k : Int) + 1
    case neg =>
      have HF := Lib.hid (show traceP l all = false from by rw [HP.out, ← HT2.out]; simp [hp])
      have hd : (h.pol != (k : Int) + 1) = true := by simpa using hp
      generalize h.pol = y at *
      go_wp2_with fail
      go_ret
      exact ⟨by rw [HF.out]; rfl, hx.out.trans hz1⟩
    have HT3 := Lib.hid (show (ok && traceL ((k : Int) + 1) all (l.drop (j + 1))) = traceL ((k : Int) + 1) all l from by
      rw [← HT2.out, HOKh.out hp, hp]; simp)
    rw [hp] at e1
    clear hp
    cases ok with
    | false =>
      have HF := Lib.hid (show traceP l all = false from by rw [HP.out, ← HT3.out]; rfl)
      go_wp2_with fail
      go_ret
      exact ⟨by rw [HF.out]; rfl, hx.out.trans hz1⟩
    | true =>
      have HT4 := Lib.hid (show traceL ((k : Int) + 1) all (l.drop (j + 1)) = traceL ((k : Int) + 1) all l from by rw [← HT3.out]; rfl)
      go_wp2_with fail
      go_roundw
      case rel => exact ⟨j + 1, by omega, by go_num, HT4.out, hx.out.trans hz1⟩
      case measure => simp [intOf]; omega
end Go.Proofs.Ytddeelepaiklgaa
/- JudgeTraces, walked. -/
namespace Go.Proofs.Ytddeelepaiklgaa
open Go.RowKit Go.Maps Go.Sort Go.Lib
set_option linter.unusedSimpArgs false

theorem SlOf.later' {α : Type} {At : World → α → Nat → Nat → Prop} {k : Nat} {w w' : World} {l : List α} {v : Value} (h : SlOf At k w l v) (hx : Ext w w') (ha : ∀ x b o, At w x b o → At w' x b o) : SlOf At k w' l v := by
  obtain ⟨p, len, cap, e1, e2, e3, e4, e5⟩ := h
  exact ⟨p, len, cap, e1, e2, e3, e4, e5.imp id fun ⟨b, o, hp, h⟩ => ⟨b, o, hp, fun i hi => ha _ _ _ (h i hi)⟩⟩

set_option maxHeartbeats 4000000 in
set_option maxRecDepth 100000 in
theorem great30_any (l : List HopD) (lv : Value) (w : World) (hl : SlOf HAt 14 w l lv) :
    Calls Try.prog 12 #[lv] w fun e w' => (∃ b : Bool, Hid (e = .returned (.bool b))) ∧ Ext w w' := by
  obtain ⟨p, len, cap, rfl, hlen, hlc, hcm, hls⟩ := hl
  have HL := Lib.hid hlen
  have HLS := Lib.hid hls
  clear hlen hls
  go_enter Try.func12, Try.ntmps12
  go_wp2_with fail
  go_loopw [3] (fun i wr => ∃ j : Nat, j ≤ len ∧ j ≤ 61 ∧ i = .int .i64 j ∧ Hid (Ext w wr)) (fun i _ => 61 - (intOf i).toNat)
  case atStart => exact ⟨0, Nat.zero_le _, by omega, rfl, Ext.refl _⟩
  case round =>
    obtain ⟨wn, rfl⟩ : ∃ wn : World, wn = wr := ⟨_, rfl⟩
    obtain ⟨j, hj, hj61, rfl, hx⟩ := hrel
    by_cases hlt : j < len
    · by_cases h60 : j ≤ 60
      · have hjl : j < l.length := by rw [← HL.out]; exact hlt
        rcases HLS.out with h | ⟨b, o, rfl, hr⟩
        · exfalso; subst h; simp at hjl
        obtain ⟨ov, hr2, hov, -⟩ := (hr j hjl).later hx.out
        obtain ⟨po, lo, co, rfl, -⟩ := hov
        have c13 := (hop_cells hr2).2.2.2
        clear hr hr2
        by_cases h200 : 200 < lo
        · go_wp2_with fail
          go_ret
          exact ⟨⟨true, Lib.hid rfl⟩, hx.out⟩
        · go_wp2_with fail
          go_roundw
          case rel => exact ⟨j + 1, by omega, by omega, by go_num, hx.out⟩
          case measure => simp [intOf]; omega
      · go_wp2_with fail
        all_goals (go_ret; exact ⟨⟨_, Lib.hid rfl⟩, hx.out⟩)
    · go_wp2_with fail
      all_goals (go_ret; exact ⟨⟨_, Lib.hid rfl⟩, hx.out⟩)

set_option maxHeartbeats 4000000 in
set_option maxRecDepth 100000 in
theorem lawTraces_any (l : List HopD) (all : List PolD) (lv av : Value) (w : World) (hl : SlOf HAt 14 w l lv) (ha : SlOf PAt 5 w all av) :
    Calls Try.prog 4 #[lv, av] w fun e w' => e = .returned (.bool true) ∧ Ext w w' := by
  have HG := Lib.hid (great30_any l lv w hl)
  have HT1 := Lib.hid (fun W (hW : Ext w W) => trace_any l all lv av W (hl.later' hW fun _ _ _ h => h.later hW) (ha.later' hW fun _ _ _ h => h.later hW))
  have HT2 := Lib.hid (fun W (hW : Ext w W) => refTrace_any l all lv av W (hl.later' hW fun _ _ _ h => h.later hW) (ha.later' hW fun _ _ _ h => h.later hW))
  obtain ⟨pl, len, cap, rfl, hlen, hlc, hcm, hls⟩ := hl
  obtain ⟨pa, len2, cap2, rfl, hlen2, hlc2, hcm2, has⟩ := ha
  clear hlen hls hlen2 has
  generalize traceP l all = bb at *
  go_enter Try.func4, Try.ntmps4
  go_wp2_with fail
  refine HG.out.mono ?_
  rintro e w1 ⟨⟨b, he⟩, hx1⟩
  obtain rfl := he.out
  clear he
  have HX1 := Lib.hid hx1
  clear hx1
  cases b with
  | true =>
    go_wp2_with fail
    refine (wakes30_any _).mono ?_
    rintro e w2 ⟨rfl, hx2⟩
    go_wp2_with fail
    go_ret
    exact ⟨rfl, HX1.out.trans hx2⟩
  | false =>
    by_cases h10 : 10 < len2
    · go_wp2_with fail
      refine (wakes30_any _).mono ?_
      rintro e w2 ⟨rfl, hx2⟩
      go_wp2_with fail
      go_ret
      exact ⟨rfl, HX1.out.trans hx2⟩
    · go_wp2_with fail
      refine (HT1.out _ HX1.out).mono ?_
      rintro e w2 ⟨rfl, hx2⟩
      have HX2 := Lib.hid (HX1.out.trans hx2)
      clear hx2
      go_wp2_with fail
      refine (HT2.out _ HX2.out).mono ?_
      rintro e w3 ⟨rfl, hx3⟩
      have HX3 := Lib.hid (HX2.out.trans hx3)
      clear hx3
      go_wp2_with fail
      refine (wakes30_any _).mono ?_
      rintro e w4 ⟨rfl, hx4⟩
      go_wp2_with fail
      go_ret
      exact ⟨rfl, HX3.out.trans hx4⟩
end Go.Proofs.Ytddeelepaiklgaa
/- JudgeTraces returns true for every input, and each argument reads behind the call as before it. Conditions: none. -/
namespace Go.Proofs.Ytddeelepaiklgaa
open Go.ChangeShapes Go.WideShapes Go.ChangeAt Go.RowKit
set_option linter.unusedSimpArgs false

set_option maxRecDepth 100000 in
theorem judgeTraces_lifted (os : Os) (started : os.Started) (H : Type) (enc : TypeId × Value → H) :
    ReturnsInHanded {} Try.checked os 4 .any (Rows.judgeTracesSpec.pre6 enc Try.prog Try.f4 Rows.judgeTracesRow.domain false) (Rows.judgeTracesSpec.post enc Try.prog Try.f4 false true false false) := by
  refine returnsInHanded_of_change (C := Try.checked) ownL started (by kernel_rfl) Try.func4
    (ChangeSpec.witness6 (enc := enc) (C := Try.checked) false ⟨#[], #[.slice none 0 0, .slice none 0 0], []⟩ 8 (by kernel_rfl) (by kernel_rfl) (by kernel_rfl) (by kernel_rfl)) ?_
  intro W base args ds gs before hval0 hW hcnd _
  have hval : ∀ (j : Nat) t v, Try.f4.params[j]? = some t → args[j]? = some v → Value.okWide Try.prog W .any base t v := hval0
  have hW' := hW
  obtain ⟨p, q, hA0, hV, rfl, hfz, hnd⟩ := hW
  have hA : DataW.TrodAll enc Try.prog W 0 (fun _ => true) true Try.f4.params.toList args.toList ds p := hA0
  rw [Try.params4] at hA hval
  obtain ⟨v0, v1, d0, d1, p0, p1, rfl, rfl, rfl, h0, h1⟩ := trodAll_two hA
  obtain ⟨rfl, rfl⟩ := trodVars_none hV
  obtain ⟨l0, w0⟩ := hops_val (hval 0 37 v0 rfl rfl) h0
  obtain ⟨a1, w1⟩ := policies_val (hval 1 38 v1 rfl rfl) h1
  have hlt : ∀ y ∈ p0 ++ p1, y.block < W.heap.size := fun y hy => hW'.lt y (by simpa using hy)
  simp only [List.append_nil, List.append_assoc] at hW'
  refine (lawTraces_any l0 a1 v0 v1 W w0 w1).mono fun e W' ⟨he, hw⟩ => ?_
  subst he
  have hb : Below W.heap.size W W' := hw
  exact ⟨_, rfl, post_below (pa := p0 ++ p1) (pv := []) hW' (fun _ _ _ => trodAll_mk1 (shut_bool Try.underlying4 true))
    (fun sp hsp => trodAll_mk2 (stays_Hops sp h0 hb (fun y hy => hlt y (List.mem_append_left _ hy)) (fun y hy => hsp y (List.mem_append_left _ hy))) (stays_Ps sp h1 hb (fun y hy => hlt y (List.mem_append_right _ hy)) (fun y hy => hsp y (List.mem_append_right _ hy))))
    (fun _ _ => rfl) (by simp) hb (ok_one (by kernel_rfl) rfl (okWide_bool_mk Try.underlying4 true))⟩

theorem JudgeTraces_holds : Rows.JudgeTracesSaid :=
  OpenClaim.holds_of_wide 4 Try.f4 rfl rfl rfl rfl rfl rfl rfl ⟨rfl, rfl, rfl, rfl, rfl⟩ rfl rfl rfl rfl rfl (by kernel_rfl) Try.func4 (by kernel_rfl)
    (of_decide_eq_true (by kernel_rfl)) (by unfold Func.isWrapper; first | (rw [if_pos (by decide +kernel)]; kernel_rfl) | (rw [if_neg (by decide +kernel)]; exact ⟨rfl, rfl⟩))
    (fun os started H enc _ => judgeTraces_lifted os started H enc)
#print axioms JudgeTraces_holds
end Go.Proofs.Ytddeelepaiklgaa
