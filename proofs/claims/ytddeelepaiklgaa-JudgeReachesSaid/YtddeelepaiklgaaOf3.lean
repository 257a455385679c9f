/- work.of: unions. -/
import Derived.Test.YtddeelepaiklgaaOf2
namespace Go.Proofs.Ytddeelepaiklgaa
open Go.RowKit

theorem Hdr.cs_eq (x : Hdr) : x.cs = #[.int .u64 (x.f 0), .int .u64 (x.f 1), .int .u64 (x.f 2), .int .u64 (x.f 3), .int .u64 (x.f 4), .int .u64 (x.f 5), .int .u64 (x.f 6), .int .u64 (x.f 7), .int .u64 (x.f 8), .int .u64 (x.f 9), .int .u64 (x.f 10)] := by
  apply Array.ext_getElem?
  intro i
  by_cases h : i < 11
  · rw [x.cell i h]
    match i, h with
    | 0, _ | 1, _ | 2, _ | 3, _ | 4, _ | 5, _ | 6, _ | 7, _ | 8, _ | 9, _ | 10, _ => rfl
  · rw [Array.getElem?_eq_none (by rw [x.size_cs]; omega), Array.getElem?_eq_none (by simp; omega)]
theorem loadH {W : World} {b o : Nat} {x : Hdr} (h : W.rangeAt b o x.cs.toList) : (Instr.loadAt 24 (.pointer (some ⟨b, o, none⟩))).run Try.prog W = .ok (.agg x.cs) W := by
  have := run_loadAt_mid (P := Try.prog) W b o 24 x.cs.toList _ h Try.underlying24 rfl (by rw [x.len_cs]; kernel_rfl)
  rwa [Array.toArray_toList] at this

theorem execLoadH {a : Act} {o : Oper} {x : Operand} {b f : Nat} {y : Hdr} {W : World} (ho : o.op = .load 24 x) (hx : a.eval x = .pointer (some ⟨b, f, none⟩)) (h : W.rangeAt b f y.cs.toList) : (execOp a.eval o).run Try.prog W = .ok (.value (.agg y.cs)) W := by
  have := loadH h
  unfold execOp
  simp only [ho, hx, Sem.run_bind, this, Result.andThen_ok]
  rfl

set_option maxHeartbeats 4000000 in
set_option maxRecDepth 100000 in
theorem of_union (f n : Int) (ks : List Tm) (ih : ∀ i (h : i < ks.length), OfOf (ks[i])) : OfOf (.mk 8 f n ks) := by
  intro x wb c b o w0 w hpre
  have IH := Lib.hid ih
  have hwb := World.block_lt_of_cell? w _ hpre.cell
  rcases Tm.right_pol hpre.right with ⟨h, -⟩ | ⟨h, -⟩ | ⟨h, -⟩ | ⟨-, hlen1, hra⟩ <;> try omega
  have HE := Lib.hid (Tm.ofT_union f n ks x c)
  obtain ⟨_, _, _, c0, _, _, p, len, cap, c3, hlen, hlc, hcm, hks⟩ := hpre.at_
  have HL := Lib.hid hlen
  have HC0 := Lib.hid c0
  have HC3 := Lib.hid c3
  have HRA := Lib.hid hra
  have hmm := @run_makeMap Try.prog
  have HZ := Lib.hid zeroH
  have hxa : Ext w (w.alloc (.cells x.cs 24)) := Ext.alloc _ _
  have d0 := (hpre.ext.trans hxa).later _ _ c0
  have hxb : Ext w ((w.alloc (.cells x.cs 24)).alloc (.map #[] 0)) := hxa.andAlloc _
  have HXR := Lib.hid (World.rangeAt.later (Ext.alloc _ (.map #[] 0)).later (rangeAt_new w x.cs 24))
  have HS0 := Lib.hid (show SetIs ((w.alloc (.cells x.cs 24)).alloc (.map #[] 0)) (w.heap.size + 1) [] from by
    have := SetIs.made (w.alloc (.cells x.cs 24))
    rwa [World.size_alloc] at this)
  have HP := Lib.hid (show OfPre (.mk 8 f n ks) wb c b o w0 ((w.alloc (.cells x.cs 24)).alloc (.map #[] 0)) from hpre.later (hxb.keep _) hpre.bd (hxb.later _ _ hpre.cell) (by rw [Below.frozen hxb hwb]; exact hpre.fr))
  have HX := Lib.hid hxb
  have hb := World.block_lt_of_cell? w0 _ c0
  have hbw : b < w.heap.size := Nat.lt_of_lt_of_le hb hpre.ext.size
  have e3 := (hpre.ext.trans hxb).later _ _ c3
  clear hpre hxa hxb hlen hra ih c0 c3
  go_enter Try.func36, Try.ntmps36
  go_wp2_with fail
  clear d0 e3
  go_loopw [120] (fun i wr => ∃ (j : Nat) (S : List Hdr) (c1 : Int), j ≤ len ∧ i = .int .i64 j ∧ Hid (SetIs wr (w.heap.size + 1) S) ∧ S.length ≤ 64 ∧ Hid ((Tm.unionT (ks.drop j) x S c1).map (fun r => (sortH r.1, r.2)) = (Tm.mk 8 f n ks).ofT x c) ∧ Hid (OfPre (.mk 8 f n ks) wb c1 b o w0 wr) ∧ Hid (Keep (· = wb) w wr) ∧ Hid (wr.rangeAt w.heap.size 0 x.cs.toList)) (fun i _ => len - (intOf i).toNat)
  case atStart => exact ⟨0, [], c, Nat.zero_le _, rfl, HS0.out, by simp, HE.out.symm, HP.out, HX.out.keep _, HXR.out⟩
  case round =>
    obtain ⟨wo, rfl⟩ : ∃ wo : World, wo = wr := ⟨_, rfl⟩
    obtain ⟨j, S, c1, hj, rfl, hS, hS64, hR, hpr, hk, hxr⟩ := hrel
    by_cases hlt : j < len
    · rcases hks with hks | ⟨b', o', rfl, hall⟩
      · exfalso; have := HL.out; subst hks; simp at this; omega
      have hjl : j < ks.length := by rw [← HL.out]; exact hlt
      have f3 := hpr.out.ext.later _ _ HC3.out
      have hxd : Ext wo wo.drew := Ext.drew _
      have HOj := Lib.hid (IH.out j hjl x wb c1 b' (o' + j * 4) w0 wo.drew ((hpr.out.later (hxd.keep _) hpr.out.bd hpr.out.cell hpr.out.fr).kid HRA.out j hjl hall))
      have HR' := Lib.hid (show (((((ks[j]).ofT x c1).bind fun r => (putAll S r.1).bind fun S' => Tm.unionT (ks.drop (j + 1)) x S' r.2)).map fun r => (sortH r.1, r.2)) = (Tm.mk 8 f n ks).ofT x c from by
        have := hR.out
        rw [drop_get hjl] at this
        exact this)
      have hszr : w.heap.size ≤ wo.heap.size := hk.out.size
      generalize hF : (ks[j]).ofT x c1 = R at *
      clear hF hall hR
      have hu28 : Try.prog.underlying 24 = some (.array 11 22) := Try.underlying24
      have hi28 : (Try.prog.info? 24).map (·.size) = some x.cs.toList.length := by rw [x.len_cs]; kernel_rfl
      have habw : w0.heap.size ≤ wb := hpr.out.above
      have hbw0 : b < w0.heap.size := hb
      cases R with
      | none =>
        have HOn := Lib.hid (show Calls Try.prog 36 #[.pointer (some ⟨wb, 0, none⟩), .pointer (some ⟨b', o' + j * 4, none⟩), .agg x.cs] wo.drew (fun e w' => e = .panicked tooBig ∧ Keep (· = wb) wo.drew w') from HOj.out.mono fun e w' h => ⟨h.2, h.1⟩)
        clear HOj
        go_wp2_with fail
        refine wp_region_held_drew (S := fun W => W.cell? ⟨b, o + 3, none⟩ = some (.slice (some ⟨b', o', none⟩) len cap) ∧ W.rangeAt w.heap.size 0 x.cs.toList) (by kernel_rfl) ⟨f3, hxr.out⟩ (fun hSW => ?_)
        refine wpAnyH_take (i := 7) (v := ?_) rfl (by kernel_rfl) (by kernel_rfl) (by kernel_rfl) (fun _ _ _ h => h) (Or.inl ⟨by rfl, ?_⟩) hSW ?_
        case' refine_2 => (intro W hW; refine execLoadH (x := .tmp 5) ?_ ?_ hW.2; rfl; rfl)
        refine wpAnyH_take (i := 0) (v := ?_) rfl (by kernel_rfl) (by kernel_rfl) (by kernel_rfl) (fun _ _ _ h => h) (Or.inl ⟨by rfl, ?_⟩) hSW ?_
        case' refine_2 => (intro W hW; obtain ⟨hW1, hW2⟩ := hW; go_simp; try with_reducible rfl)
        refine wpAnyH_take (i := 1) (v := ?_) rfl (by kernel_rfl) (by kernel_rfl) (by kernel_rfl) (fun _ _ _ h => h) (Or.inl ⟨by rfl, ?_⟩) hSW ?_
        case' refine_2 => (intro W hW; obtain ⟨hW1, hW2⟩ := hW; go_simp; try with_reducible rfl)
        refine wpAnyH_take (i := 2) (v := ?_) rfl (by kernel_rfl) (by kernel_rfl) (by kernel_rfl) (fun _ _ _ h => h) (Or.inl ⟨by rfl, ?_⟩) hSW ?_
        case' refine_2 => (intro W hW; obtain ⟨hW1, hW2⟩ := hW; go_simp; try with_reducible rfl)
        refine wpAnyH_take (i := 3) (v := ?_) rfl (by kernel_rfl) (by kernel_rfl) (by kernel_rfl) (fun _ _ _ h => h) (Or.inl ⟨by rfl, ?_⟩) hSW ?_
        case' refine_2 => (intro W hW; obtain ⟨hW1, hW2⟩ := hW; go_simp; try with_reducible rfl)
        refine wpAnyH_take (i := 4) (v := ?_) rfl (by kernel_rfl) (by kernel_rfl) (by kernel_rfl) (fun _ _ _ h => h) (Or.inl ⟨by rfl, ?_⟩) hSW ?_
        case' refine_2 => (intro W hW; obtain ⟨hW1, hW2⟩ := hW; go_simp; try with_reducible rfl)
        refine wpAnyH_take (i := 5) (v := ?_) rfl (by kernel_rfl) (by kernel_rfl) (by kernel_rfl) (fun _ _ _ h => h) (Or.inl ⟨by rfl, ?_⟩) hSW ?_
        case' refine_2 => (intro W hW; obtain ⟨hW1, hW2⟩ := hW; go_simp; try with_reducible rfl)
        refine wpAnyH_take (i := 6) (v := ?_) rfl (by kernel_rfl) (by kernel_rfl) (by kernel_rfl) (fun _ _ _ h => h) (Or.inl ⟨by rfl, ?_⟩) hSW ?_
        case' refine_2 => (intro W hW; obtain ⟨hW1, hW2⟩ := hW; go_simp; try with_reducible rfl)
        refine wpAnyH_take (i := 10) (v := ?_) rfl (by kernel_rfl) (by kernel_rfl) (by kernel_rfl) (fun _ _ _ h => h) (Or.inl ⟨by rfl, ?_⟩) hSW ?_
        case' refine_2 => (intro W hW; obtain ⟨hW1, hW2⟩ := hW; go_simp; try with_reducible rfl)
        refine wpAnyH_ready (rs := [8]) (by kernel_rfl) (by simp) (AllReadyH.cons rfl (fun K hK => ?_) AllReadyH.nil)
        go_simp
        go_wp2_with (first | (go_at_call 36; refine HOn.out.mono ?_; rintro e w2 ⟨rfl, hk2⟩))
        exact ⟨rfl, hk.out.trans ((hxd.keep _).trans hk2), by rw [← HR'.out]; rfl⟩
      | some r =>
        obtain ⟨l2, c2⟩ := r
        have HOs := Lib.hid (show Calls Try.prog 36 #[.pointer (some ⟨wb, 0, none⟩), .pointer (some ⟨b', o' + j * 4, none⟩), .agg x.cs] wo.drew (fun e w' => ∃ p2 cap2, e = .returned (.slice p2 l2.length cap2) ∧ Keep (· = wb) wo.drew w' ∧ Hid (w'.ownsRow wo.heap.size 24 11 (.slice p2 l2.length cap2) l2.length (flatH l2)) ∧ l2.length ≤ 64 ∧ (0 ≤ c2 ∧ c2 ≤ 65536) ∧ Hid (w'.cell? ⟨wb, 0, none⟩ = some (.int .i64 c2)) ∧ Hid (w'.frozen? ⟨wb, 0, none⟩ = false)) from HOj.out.mono fun e w' h => by
          obtain ⟨hk2, ⟨v2, rfl, hown2⟩, h64, hbd, hc, hf⟩ := h
          rcases hown2.2 with ⟨rfl, h0⟩ | ⟨g, cap, cur, rfl, _⟩
          · exact ⟨none, 0, by rw [h0], hk2, by rw [Hid, h0]; rw [h0] at hown2; exact hown2, h64, hbd, hc, hf⟩
          · exact ⟨_, _, rfl, hk2, hown2, h64, hbd, hc, hf⟩)
        clear HOj
        go_upto_region 40 with fail
        go_cut [131, 132, 133] (fun s131 s132 s133 wx => ∃ (p2 : Option Addr) (cap2 : Nat), s131 = .slice p2 l2.length cap2 ∧ s132 = .int .i64 l2.length ∧ s133 = .int .i64 0 ∧ Keep (· = wb) wo wx ∧ Hid (wx.ownsRow wo.heap.size 24 11 (.slice p2 l2.length cap2) l2.length (flatH l2)) ∧ l2.length ≤ 64 ∧ (0 ≤ c2 ∧ c2 ≤ 65536) ∧ Hid (wx.cell? ⟨wb, 0, none⟩ = some (.int .i64 c2)) ∧ Hid (wx.frozen? ⟨wb, 0, none⟩ = false))
        case first =>
          go_region_held3 (fun W => W.cell? ⟨b, o + 3, none⟩ = some (.slice (some ⟨b', o', none⟩) len cap) ∧ W.rangeAt w.heap.size 0 x.cs.toList) (first | exact ⟨f3, hxr.out⟩ | exact ⟨hk2.cell (w := wo.drew) f3 (by show ¬ b = wb; omega), hk2.range (w := wo.drew) hxr.out (by show ¬ w.heap.size = wb; omega)⟩) (first | (go_at_call 36; refine HOs.out.mono ?_; rintro e w2 ⟨p2, cap2, rfl, hk2, hown2, h64, hbd2, hc2, hf2⟩))
          all_goals (go_wp2_with fail; go_meet; exact ⟨p2, cap2, rfl, rfl, rfl, (hxd.keep _).trans hk2, hown2, h64, hbd2, hc2, hf2⟩)
        case rest =>
          obtain ⟨p2, cap2, rfl, rfl, rfl, hk2, hown2, hx64, hbd2, hc2, hf2⟩ := hcut
          have hpr2 := hpr.out.later hk2 hbd2 hc2.out hf2.out
          have HP2 := Lib.hid hpr2
          have HK2 := Lib.hid (hk.out.trans hk2)
          have hwbr : wb < wo.heap.size := by omega
          have HS2 := Lib.hid (hS.out.keep hk2 (by show ¬ w.heap.size + 1 = wb; omega))
          have HXR2 := Lib.hid (hk2.range hxr.out (by show ¬ w.heap.size = wb; omega))
          have HR2 := Lib.hid (show ((putAll S (l2.drop 0)).bind fun S'' => Tm.unionT (ks.drop (j + 1)) x S'' c2).map (fun r : List Hdr × Int => (sortH r.1, r.2)) = (Tm.mk 8 f n ks).ofT x c from HR'.out)
          have hxl := (HSl.of_owns hown2.out)
          have HXL := Lib.hid (show l2 = [] ∨ ∃ b o, p2 = some ⟨b, o, none⟩ ∧ wo.heap.size ≤ b ∧ wc.rangeAt b o (flatH l2) from by
            obtain ⟨p3, len3, cap3, he, -, h3⟩ := hxl
            injection he with e1 e2 e3
            rw [e1]; exact h3)
          have hsb : w.heap.size + 1 < wo.heap.size := hS.out.lt
          clear hpr2 hk2 hown2 hxl HR' hS hxr hpr hk hc2 hf2 f3
          go_wp2_with fail
          go_loopw [133] (fun i wr => ∃ (k : Nat) (S' : List Hdr), k ≤ l2.length ∧ i = .int .i64 k ∧ Hid (SetIs wr (w.heap.size + 1) S') ∧ S'.length ≤ 64 ∧ Hid (((putAll S' (l2.drop k)).bind fun S'' => Tm.unionT (ks.drop (j + 1)) x S'' c2).map (fun r : List Hdr × Int => (sortH r.1, r.2)) = (Tm.mk 8 f n ks).ofT x c) ∧ Hid (OfPre (.mk 8 f n ks) wb c2 b o w0 wr) ∧ Hid (Keep (· = wb) w wr) ∧
              Hid (l2 = [] ∨ ∃ b o, p2 = some ⟨b, o, none⟩ ∧ wo.heap.size ≤ b ∧ wr.rangeAt b o (flatH l2)) ∧ Hid (wr.rangeAt w.heap.size 0 x.cs.toList)) (fun i _ => l2.length - (intOf i).toNat)
          case atStart => exact ⟨0, S, Nat.zero_le _, rfl, HS2.out, hS64, HR2.out, HP2.out, HK2.out, HXL.out, HXR2.out⟩
          case round =>
            obtain ⟨k, S', hkl, rfl, hS2, hS264, hR3, hp3, hk3, hxl3, hxr3⟩ := hrel
            by_cases hlt2 : k < l2.length
            · rcases hxl3.out with hxl3 | ⟨bx, ox, rfl, hbx, hrx⟩
              · exfalso; subst hxl3; simp at hlt2
              have hrk := Lib.hid (rangeAt_get Hdr.len_cs hrx k hlt2)
              have hxb : Ext wr (wr.alloc (.cells (l2[k]).cs 24)) := Ext.alloc _ _
              have HSb := Lib.hid (hS2.out.ext hxb)
              have HPb := Lib.hid (show OfPre (.mk 8 f n ks) wb c2 b o w0 (wr.alloc (.cells (l2[k]).cs 24)) from hp3.out.later (hxb.keep _) hp3.out.bd (hxb.later _ _ hp3.out.cell) (by rw [Below.frozen hxb (World.block_lt_of_cell? wr _ hp3.out.cell)]; exact hp3.out.fr))
              have HKb := Lib.hid (hk3.out.trans (hxb.keep _))
              have HXk := Lib.hid (rangeAt_new wr (l2[k]).cs 24)
              have HRb := Lib.hid (show (((putM S' (l2[k])).bind fun S' => putAll S' (l2.drop (k + 1))).bind fun S'' => Tm.unionT (ks.drop (j + 1)) x S'' c2).map (fun r : List Hdr × Int => (sortH r.1, r.2)) = (Tm.mk 8 f n ks).ofT x c from by
                have := hR3.out
                rw [drop_get hlt2] at this
                exact this)
              have HXb := Lib.hid (World.rangeAt.later hxb.later hrx)
              have HXRb := Lib.hid (World.rangeAt.later hxb.later hxr3.out)
              have hszr2 : w.heap.size + 1 < wr.heap.size := hS2.out.lt
              generalize hyk : l2[k] = y at *
              clear hyk hS2 hR3 hp3 hk3 hxl3 hrx hxb hxr3
              go_wp2_with (first
                | (refine wpList_store_new rfl 24 _ _ rfl _ y.cs rfl rfl (by rw [y.size_cs]; kernel_rfl) (by rw [y.size_cs]; rfl) (all_oneCell_toArray y.one) ?_)
                | (refine wpList_load_H rfl _ rfl bx (ox + k * 11) rfl y hrk.out ?_)
                | (refine wpList_load_H rfl _ rfl _ _ rfl y HXk.out ?_))
              by_cases hin : y ∈ S'
              · refine (add_there S' y (w.heap.size + 1) _ HSb.out hin).mono ?_
                rintro e w3 ⟨rfl, hx3⟩
                have HRc := Lib.hid (show ((putAll S' (l2.drop (k + 1))).bind fun S'' => Tm.unionT (ks.drop (j + 1)) x S'' c2).map (fun r : List Hdr × Int => (sortH r.1, r.2)) = (Tm.mk 8 f n ks).ofT x c from by
                  have := HRb.out
                  rw [putM, if_pos hin] at this
                  exact this)
                have HP3 := Lib.hid (HPb.out.later (hx3.keep _) HPb.out.bd (hx3.later _ _ HPb.out.cell) (by rw [Below.frozen hx3 (World.block_lt_of_cell? _ _ HPb.out.cell)]; exact HPb.out.fr))
                clear hin
                go_wp2_with fail
                go_roundw
                case rel => exact ⟨k + 1, S', by omega, by go_num, HSb.out.ext hx3, hS264, HRc.out, HP3.out, HKb.out.trans (hx3.keep _), .inr ⟨bx, ox, rfl, hbx, World.rangeAt.later hx3.later HXb.out⟩, World.rangeAt.later hx3.later HXRb.out⟩
                case measure => simp [intOf]; omega
              · refine (add_new S' y (w.heap.size + 1) _ HSb.out hin).mono ?_
                rintro e w3 ⟨hk3, ⟨hl3, rfl, hs3⟩ | ⟨hl3, rfl⟩⟩
                · have HRc := Lib.hid (show ((putAll (S' ++ [y]) (l2.drop (k + 1))).bind fun S'' => Tm.unionT (ks.drop (j + 1)) x S'' c2).map (fun r : List Hdr × Int => (sortH r.1, r.2)) = (Tm.mk 8 f n ks).ofT x c from by
                    have := HRb.out
                    rw [putM, if_neg hin, if_pos hl3] at this
                    exact this)
                  have hK3 : Keep (· = wb) w w3 := HKb.out.trans' hk3 (fun i hi => by rw [hi]; omega)
                  have HP3 := Lib.hid (show OfPre (.mk 8 f n ks) wb c2 b o w0 w3 from ⟨HPb.out.right, HPb.out.size, HPb.out.at_, HPb.out.ext.andKeep hk3 (fun i hi => by rw [hi]; have := HP.out.above; omega), HPb.out.above, HPb.out.bd, hk3.cell HPb.out.cell (by show ¬ wb = w.heap.size + 1; omega), by rw [World.frozen?_of_block (hk3.block wb (World.block_lt_of_cell? _ _ HPb.out.cell) (by show ¬ wb = w.heap.size + 1; omega))]; exact HPb.out.fr⟩)
                  have HX3 := Lib.hid (hk3.range HXb.out (by show ¬ bx = w.heap.size + 1; omega))
                  have HXR3 := Lib.hid (hk3.range HXRb.out (by show ¬ w.heap.size = w.heap.size + 1; omega))
                  clear hin
                  go_wp2_with fail
                  go_roundw
                  case rel => exact ⟨k + 1, S' ++ [y], by omega, by go_num, hs3, by simp only [List.length_append, List.length_cons, List.length_nil]; omega, HRc.out, HP3.out, hK3, .inr ⟨bx, ox, rfl, hbx, HX3.out⟩, HXR3.out⟩
                  case measure => simp [intOf]; omega
                · have HRc := Lib.hid (show none = (Tm.mk 8 f n ks).ofT x c from by
                    have := HRb.out
                    rw [putM, if_neg hin, if_neg (by omega)] at this
                    exact this)
                  have hK3 : Keep (· = wb) w w3 := HKb.out.trans' hk3 (fun i hi => by rw [hi]; omega)
                  clear hin
                  go_wp2_with fail
                  exact ⟨rfl, hK3, by rw [← HRc.out]⟩
            · have HRc := Lib.hid (show (Tm.unionT (ks.drop (j + 1)) x S' c2).map (fun r : List Hdr × Int => (sortH r.1, r.2)) = (Tm.mk 8 f n ks).ofT x c from by
                have := hR3.out
                rw [List.drop_of_length_le (by omega)] at this
                exact this)
              clear hR3 hxl3
              go_wp2_with fail
              go_roundw
              case rel => exact ⟨j + 1, S', c2, by omega, by go_num, hS2.out, hS264, HRc.out, hp3.out, hk3.out, hxr3.out⟩
              case measure => simp [intOf]; omega
    · have HRc := Lib.hid (show some (sortH S, c1) = (Tm.mk 8 f n ks).ofT x c from by
        have := hR.out
        rw [List.drop_of_length_le (by have := HL.out; omega)] at this
        exact this)
      have HLi := Lib.hid (list_any S (w.heap.size + 1) wo hS.out (by omega))
      clear hR
      go_wp2_with fail
      refine HLi.out.mono ?_
      rintro e w2 ⟨hx2, v2, rfl, hown2⟩
      have HO2 := Lib.hid hown2
      clear hown2
      go_wp2_with fail
      go_ret
      refine ⟨hk.out.trans (hx2.keep _), ?_⟩
      rw [← HRc.out]
      refine ⟨⟨v2, rfl, ?_⟩, by rw [length_sortH]; exact hS64, hpr.out.bd, hx2.later _ _ hpr.out.cell, by rw [Below.frozen hx2 (World.block_lt_of_cell? _ _ hpr.out.cell)]; exact hpr.out.fr⟩
      rw [length_sortH]
      exact ownsRow_base HO2.out hk.out.size
end Go.Proofs.Ytddeelepaiklgaa
