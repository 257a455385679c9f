/- judge.Reach, walked. -/
import Derived.Test.YtddeelepaiklgaaJReach0
import Derived.Deep.RegionWith
namespace Go.Proofs.Ytddeelepaiklgaa
open Go.RowKit Go.Maps Go.Sort Go.Lib
set_option linter.unusedSimpArgs false

theorem SeenIs.mono {w : World} {b : Nat} {ks : List Hdr} {N M : Int} (h : SeenIs w b ks N) (hN : N ≤ M) : SeenIs w b ks M := by
  obtain ⟨L, h1, h2, h3, h4⟩ := h
  exact ⟨L, h1, h2, fun y hy => by obtain ⟨c, a, b, d⟩ := h3 y hy; exact ⟨c, a, b, by omega⟩, h4⟩
theorem RSt.mono {wB wr : World} {mb : Nat} {tv ov : Value} {thr ks out : List Hdr} {N M : Int} (h : RSt wB wr mb tv ov thr ks out N) (hN : N ≤ M) : RSt wB wr mb tv ov thr ks out M :=
  ⟨h.t, h.o, h.m.mono hN, h.tm, h.om, h.ap, h.lo, h.ext⟩
/-- the list that a hop made, apart from the rows that grow -/
structure LSt (wr : World) (lv : Value) (l : List Hdr) (tv ov : Value) (mb : Nat) : Prop where
  o : wr.ownsRow 0 24 11 lv l.length (flatH l)
  ap : ∀ i, lv.ownBlock = some i → tv.ownBlock ≠ some i ∧ ov.ownBlock ≠ some i ∧ mb ≠ i
theorem LSt.more {wr W : World} {lv tv ov : Value} {l : List Hdr} {mb : Nat} (h : LSt wr lv l tv ov mb) (hx : Ext wr W) : LSt W lv l tv ov mb := ⟨ownsRow_ext h.o hx, h.ap⟩
theorem LSt.putOut {wr w' : World} {lv tv ov ov' : Value} {l : List Hdr} {mb : Nat} (h : LSt wr lv l tv ov mb) (hg : wr.grownBy w' ov.ownBlock) (hat : ov'.ownBlock = ov.ownBlock ∨ ov'.ownBlock = some wr.heap.size) : LSt w' lv l tv ov' mb :=
  ⟨h.o.kept hg (none_or fun i hi => (h.ap i hi).2.1), fun i hi => ⟨(h.ap i hi).1, by
    rcases hat with e | e
    · rw [e]; exact (h.ap i hi).2.1
    · rw [e]; intro e2; have := (h.o.lt i hi).2; injection e2 with e2; omega, (h.ap i hi).2.2⟩⟩
theorem LSt.putThr {wr w' : World} {lv tv tv' ov : Value} {l : List Hdr} {mb : Nat} (h : LSt wr lv l tv ov mb) (hg : wr.grownBy w' tv.ownBlock) (hat : tv'.ownBlock = tv.ownBlock ∨ tv'.ownBlock = some wr.heap.size) : LSt w' lv l tv' ov mb :=
  ⟨h.o.kept hg (none_or fun i hi => (h.ap i hi).1), fun i hi => ⟨by
    rcases hat with e | e
    · rw [e]; exact (h.ap i hi).1
    · rw [e]; intro e2; have := (h.o.lt i hi).2; injection e2 with e2; omega, (h.ap i hi).2⟩⟩
theorem LSt.seen {wr w' : World} {lv tv ov : Value} {l : List Hdr} {mb : Nat} (h : LSt wr lv l tv ov mb) (hg : wr.grownBy w' (some mb)) : LSt w' lv l tv ov mb :=
  ⟨h.o.kept hg (none_or fun i hi e => (h.ap i hi).2.2 (by injection e)), h.ap⟩
theorem moveTo_cs (x : Hdr) (a b : Int) (ha : 0 ≤ a ∧ a ≤ 65535) (hb : 0 ≤ b ∧ b ≤ 65535) : (moveTo x a b).cs = (x.cs.setIfInBounds 10 (.int .u64 a)).setIfInBounds 9 (.int .u64 b) := by
  unfold moveTo
  rw [Hdr.cs_put _ _ _ ⟨hb.1, by omega⟩, Hdr.cs_put _ _ _ ⟨ha.1, by omega⟩]
theorem overP_bd (s p : Int) : ∀ (l : List WireD), (∀ x ∈ l, (0 ≤ x.a ∧ x.a ≤ 65535) ∧ (0 ≤ x.ap ∧ x.ap ≤ 65535) ∧ (0 ≤ x.b ∧ x.b ≤ 65535) ∧ (0 ≤ x.bp ∧ x.bp ≤ 65535)) → ∀ r, overP s p l = some r → (0 ≤ r.1 ∧ r.1 ≤ 65535) ∧ (0 ≤ r.2 ∧ r.2 ≤ 65535)
  | [], _, r, h => by cases h
  | x :: xs, hb, r, h => by
    have hx := hb x List.mem_cons_self
    rw [overP] at h
    split at h
    · cases h; exact ⟨hx.2.2.1, hx.2.2.2⟩
    · split at h
      · cases h; exact ⟨hx.1, hx.2.1⟩
      · exact overP_bd s p xs (fun y hy => hb y (List.mem_cons_of_mem _ hy)) r h

set_option maxHeartbeats 8000000 in
set_option maxRecDepth 100000 in
theorem reach_any (t : Tm) (qs : List Qr) (wires : List WireD) (x : Hdr) (pv wv : Value) (w : World) (hp : PVal w t qs pv) (hw : SlOf WAt 4 w wires wv) :
    Calls Try.prog 15 #[pv, wv, .agg x.cs] w fun e w' => (∃ v, e = .returned (.tuple #[v, .int .i64 (reachP t qs wires x).1]) ∧ HSl w' w.heap.size (reachP t qs wires x).2 v) ∧ Ext w w' := by
  have HPV := Lib.hid hp
  obtain ⟨p, len, cap, qv, rfl, hvt, -⟩ := hp
  have HBD := Lib.hid (show ∀ y ∈ wires, (0 ≤ y.a ∧ y.a ≤ 65535) ∧ (0 ≤ y.ap ∧ y.ap ≤ 65535) ∧ (0 ≤ y.b ∧ y.b ≤ 65535) ∧ (0 ≤ y.bp ∧ y.bp ≤ 65535) from by
    obtain ⟨_, _, _, _, _, _, _, h⟩ := hw
    intro y hy
    rcases h with rfl | ⟨b, o, _, h⟩
    · cases hy
    · obtain ⟨i, hi, rfl⟩ := List.getElem_of_mem hy
      exact (h i hi).2)
  have HOV := Lib.hid (fun s p W (hW : Ext w W) => over_any wires wv s p W (by
    obtain ⟨a, b, c, h1, h2, h3, h4, h5⟩ := hw
    exact ⟨a, b, c, h1, h2, h3, h4, h5.imp id fun ⟨b, o, hp, h⟩ => ⟨b, o, hp, fun i hi => ⟨World.rangeAt.later hW.later (h i hi).1, (h i hi).2⟩⟩⟩))
  obtain ⟨wA, hA⟩ : ∃ W : World, w.alloc (.cells #[.int .i8 t.op, .int .i8 t.fld, .int .u64 t.n, .slice p len cap, qv] 34) = W := ⟨_, rfl⟩
  have xA : Ext w wA := hA ▸ Ext.alloc _ _
  have sA : wA.heap.size = w.heap.size + 1 := by rw [← hA, World.size_alloc]
  have rA : wA.rangeAt w.heap.size 0 [.int .i8 t.op, .int .i8 t.fld, .int .u64 t.n, .slice p len cap, qv] := by
    have := rangeAt_new w #[.int .i8 t.op, .int .i8 t.fld, .int .u64 t.n, .slice p len cap, qv] 34
    rw [hA] at this
    exact this
  obtain ⟨wB, hB⟩ : ∃ W : World, wA.alloc (.cells x.cs 24) = W := ⟨_, rfl⟩
  have xB : Ext wA wB := hB ▸ Ext.alloc _ _
  have rB : wB.rangeAt (w.heap.size + 1) 0 x.cs.toList := by
    have := rangeAt_new wA x.cs 24
    rw [hB, sA] at this
    exact this
  have sB : wB.heap.size = w.heap.size + 2 := by rw [← hB, World.size_alloc, sA]
  have HX := Lib.hid (xA.trans xB)
  have HPC := Lib.hid (fun W (hW : Ext wB W) => show W.cell? ⟨w.heap.size, 0, none⟩ = some (.int .i8 t.op) ∧ W.cell? ⟨w.heap.size, 1, none⟩ = some (.int .i8 t.fld) ∧ W.cell? ⟨w.heap.size, 2, none⟩ = some (.int .u64 t.n) ∧ W.cell? ⟨w.heap.size, 3, none⟩ = some (.slice p len cap) ∧ W.cell? ⟨w.heap.size, 4, none⟩ = some qv from by
    have hr := World.rangeAt.later (xB.trans hW).later rA
    exact ⟨by simpa using hr 0 _ rfl, by simpa using hr 1 _ rfl, by simpa using hr 2 _ rfl, by simpa using hr 3 _ rfl, by simpa using hr 4 _ rfl⟩)
  have HRB := Lib.hid (fun W (hW : Ext wB W) => World.rangeAt.later hW.later rB)
  have HVT := Lib.hid (fun W (hW : Ext wB W) => hvt.later (HX.out.trans hW).later)
  have HEQ := Lib.hid (show w.alloc (.cells #[.int .i8 t.op, .int .i8 t.fld, .int .u64 t.n, .slice p len cap, qv] 34) = wA ∧ wA.alloc (.cells x.cs 24) = wB from ⟨hA, hB⟩)
  have HCK := Lib.hid (checkQ_any t qs _ wB (HPV.out.later HX.out.later))
  have hwB : w.heap.size ≤ wB.heap.size := by omega
  obtain ⟨wp, wl, wq, rfl⟩ : ∃ a b c, wv = .slice a b c := by obtain ⟨a, b, c, h, -⟩ := hw; exact ⟨a, b, c, h⟩
  obtain ⟨b0, b1, b2, b3, b4⟩ := HPC.out _ (Ext.refl _)
  clear xA sA rA hA xB rB hB hvt hw
  go_enter Try.func15, Try.ntmps15
  go_upto_region 1 with fail
  rw [HEQ.out.1, HEQ.out.2]
  clear HEQ
  go_wp2_with fail
  refine HCK.out.mono ?_
  rintro e w1 ⟨rfl, hx1⟩
  have HX1 := Lib.hid hx1
  clear b0 b1 b2 b3 b4
  by_cases h0 : checkP t qs = 0
  case neg =>
    have HF := Lib.hid (show reachP t qs wires x = (checkP t qs, []) from by unfold reachP; rw [if_neg h0])
    generalize checkP t qs = y at *
    go_wp2_with fail
    go_ret2
    exact ⟨⟨.slice none 0 0, by rw [HF.out]; rfl, by rw [HF.out]; exact ⟨none, 0, 0, rfl, rfl, .inl rfl⟩⟩, HX.out.trans HX1.out⟩
  have HP1 := Lib.hid (show reachP t qs wires x = if headE x = 0 ∧ x.f 3 = 0 then (if (reachN t wires 1025 0 [x] []).1 = 0 then (0, dd (sortH (reachN t wires 1025 0 [x] []).2)) else ((reachN t wires 1025 0 [x] []).1, [])) else (10, []) from by unfold reachP; rw [if_pos h0])
  have HR1 := Lib.hid (HRB.out _ HX1.out)
  have HHD := Lib.hid (head_any x w1)
  rw [h0]
  clear h0
  go_upto_region 4 with fail
  go_wp2_with (first | (refine wpList_load_H rfl _ rfl _ _ rfl x HR1.out ?_))
  refine HHD.out.mono ?_
  rintro e w2 ⟨rfl, hx2⟩
  have HX2 := Lib.hid (HX1.out.trans hx2)
  have c3 := cellAt (HRB.out _ HX2.out) 3 (by omega)
  simp only [Nat.zero_add] at c3
  by_cases hh : headE x = 0
  case neg =>
    have HF := Lib.hid (show reachP t qs wires x = (10, []) from by rw [HP1.out, if_neg (fun h => hh h.1)])
    generalize headE x = y at *
    go_wp2_with fail
    go_ret2
    exact ⟨⟨.slice none 0 0, by rw [HF.out]; rfl, by rw [HF.out]; exact ⟨none, 0, 0, rfl, rfl, .inl rfl⟩⟩, HX.out.trans HX2.out⟩
  by_cases h3 : x.f 3 = 0
  case neg =>
    have HF := Lib.hid (show reachP t qs wires x = (10, []) from by rw [HP1.out, if_neg (fun h => h3 h.2)])
    rw [hh]
    generalize x.f 3 = y at *
    go_wp2_with fail
    go_ret2
    exact ⟨⟨.slice none 0 0, by rw [HF.out]; rfl, by rw [HF.out]; exact ⟨none, 0, 0, rfl, rfl, .inl rfl⟩⟩, HX.out.trans HX2.out⟩
  have HP2 := Lib.hid (show reachP t qs wires x = if (reachN t wires 1025 0 [x] []).1 = 0 then (0, dd (sortH (reachN t wires 1025 0 [x] []).2)) else ((reachN t wires 1025 0 [x] []).1, []) from by rw [HP1.out, if_pos ⟨hh, h3⟩])
  rw [hh]
  rw [h3] at c3
  clear hh h3 HP1
  have hmm := @run_makeMap Try.prog
  obtain ⟨wC, hC⟩ : ∃ W : World, w2.alloc (.cells x.cs 24) = W := ⟨_, rfl⟩
  have xC : Ext w2 wC := hC ▸ Ext.alloc _ _
  have sC : wC.heap.size = w2.heap.size + 1 := by rw [← hC, World.size_alloc]
  obtain ⟨wI, hup, hseen, hgI⟩ := SeenIs.first wC x
  rw [sC] at hup hseen hgI
  have HSt := Lib.hid (show RSt wB wI (w2.heap.size + 1) (.slice (some ⟨w2.heap.size, 0, none⟩) 1 1) (.slice none 0 0) [x] [x] [] 1 from by
    have ho := owns_one (w := w2) (w' := wB) (x := x) HX2.out.size
    rw [hC] at ho
    exact ⟨(ho.alloc _).kept hgI (.inr (by show some w2.heap.size ≠ some (w2.heap.size + 1); simp)), World.ownsRow_nil _ _ _ _, hseen, by show some w2.heap.size ≠ some (w2.heap.size + 1); simp, by simp [Value.ownBlock], fun i _ => by simp [Value.ownBlock],
      by have := HX2.out.size; omega, (HX2.out.trans (xC.andAlloc (.map #[] 0))).trans' ⟨hgI.os, hgI.tape, hgI.output, hgI.size, fun i hi => hgI.block i (by simp; have := HX2.out.size; have := sC; omega) (fun e => by have := HX2.out.size; injection e with e; omega)⟩⟩)
  have HRC := Lib.hid (HRB.out _ HX2.out)
  have HRM := Lib.hid (HRB.out _ (HX2.out.trans (xC.andAlloc (.map #[] 0))))
  have HUP := Lib.hid hup
  have HEQ := Lib.hid hC
  have HEQs := Lib.hid sC
  clear hC xC hup hseen hgI
  go_upto_region 8 with (first | (refine wpList_load_H rfl _ rfl _ _ rfl x HRC.out ?_) | (refine wpList_one_H rfl _ rfl x rfl ?_))
  rw [HEQ.out]
  try simp only [Act.put]
  go_wp2_with (first
    | (refine wpList_load_H rfl _ rfl _ _ rfl x HRM.out ?_)
    | (refine wpList_update_run rfl 61 _ _ _ (.inr rfl) _ _ _ _ rfl rfl rfl HUP.out ?_))
  go_loopw [9, 10, 12] (fun ov tv i wr => ∃ (k : Nat) (thr out : List Hdr), k ≤ thr.length ∧ thr.length ≤ 1024 ∧ i = .int .i64 k ∧ Hid (RSt wB wr (w2.heap.size + 1) tv ov thr thr out (1 + 64 * k)) ∧ out.length ≤ 64 * k ∧ Hid (reachN t wires (1025 - k) k thr out = reachN t wires 1025 0 [x] [])) (fun _ _ i _ => 1024 - (intOf i).toNat)
  case atStart => exact ⟨0, [x], [], by simp, by simp, rfl, HSt.out, by simp, rfl⟩
  case round =>
    obtain ⟨wo, rfl⟩ : ∃ wo : World, wo = wr := ⟨_, rfl⟩
    obtain ⟨k, thr, out, hk, hthr, rfl, hst, hout, hN⟩ := hrel
    obtain ⟨pt, nt, ct, rfl, hnt, hrt⟩ := HSl.of_owns hst.out.t
    have HNT := Lib.hid hnt
    clear hnt
    have hN2 : (match thr[k]? with
      | none => (0, out)
      | some y => if (ofC t y).1 = 0 then (match foldX wires (ofC t y).2 thr out with | none => (200, []) | some r => reachN t wires (1024 - k) (k + 1) r.1 r.2) else ((ofC t y).1, [])) = reachN t wires 1025 0 [x] [] := by
      have := hN.out
      rw [show 1025 - k = (1024 - k) + 1 by omega, reachN] at this
      exact this
    by_cases hlt : k < nt
    · have hkl : k < thr.length := by have := HNT.out; omega
      rw [List.getElem?_eq_getElem hkl] at hN2
      rcases hrt with hrt | ⟨bt, ot, rfl, hbt, hrt⟩
      · exfalso; subst hrt; simp at hkl
      have hry := fun W (hW : Ext wo W) => rangeAt_get Hdr.len_cs (World.rangeAt.later hW.later hrt) k hkl
      generalize thr[k] = y at *
      have hN3 : (if (ofC t y).1 = 0 then (match foldX wires (ofC t y).2 thr out with | none => (200, []) | some r => reachN t wires (1024 - k) (k + 1) r.1 r.2) else ((ofC t y).1, [])) = reachN t wires 1025 0 [x] [] := hN2
      have HOF := Lib.hid (fun W (hW : Ext wo W) => meaningOf_any t _ y W (HVT.out _ (hst.out.ext.trans hW)))
      generalize ofC t y = R at *
      obtain ⟨c, l⟩ := R
      have HSS := Lib.hid (fun W (hW : Ext wo W) => (show (fun W => W.cell? ⟨w.heap.size, 0, none⟩ = some (.int .i8 t.op) ∧ W.cell? ⟨w.heap.size, 1, none⟩ = some (.int .i8 t.fld) ∧ W.cell? ⟨w.heap.size, 2, none⟩ = some (.int .u64 t.n) ∧ W.cell? ⟨w.heap.size, 3, none⟩ = some (.slice p len cap) ∧ W.rangeAt bt (ot + k * 11) y.cs.toList) W from by
        obtain ⟨a0, a1, a2, a3, -⟩ := HPC.out _ (hst.out.ext.trans hW)
        exact ⟨a0, a1, a2, a3, hry W hW⟩))
      obtain ⟨a0, a1, a2, a3, hrx⟩ := HSS.out _ (Ext.refl _)
      have hxd := Ext.drew wo
      have HN3 := Lib.hid hN3
      have hu28 : Try.prog.underlying 24 = some (.array 11 22) := Try.underlying24
      have hi28 : (Try.prog.info? 24).map (·.size) = some y.cs.toList.length := by rw [y.len_cs]; kernel_rfl
      clear hN2 hN3 hN hry hrt
      go_upto_region 12 with fail
      go_region_held3 (fun W => W.cell? ⟨w.heap.size, 0, none⟩ = some (.int .i8 t.op) ∧ W.cell? ⟨w.heap.size, 1, none⟩ = some (.int .i8 t.fld) ∧ W.cell? ⟨w.heap.size, 2, none⟩ = some (.int .u64 t.n) ∧ W.cell? ⟨w.heap.size, 3, none⟩ = some (.slice p len cap) ∧ W.rangeAt bt (ot + k * 11) y.cs.toList) (first | exact HSS.out _ hxd | exact HSS.out _ (hxd.trans hx5)) (first
        | (go_at_call 18; refine (HOF.out _ hxd).mono ?_; rintro e w5 ⟨hx5, h64, v5, rfl, hown5⟩))
      clear a0 a1 a2 a3 hrx hu28 hi28
      have hxo5 : Ext wo w5 := hxd.trans hx5
      have HS5 := Lib.hid (hst.out.more hxo5)
      by_cases hc : c = 0
      case neg =>
        have HF := Lib.hid (show reachP t qs wires x = (c, []) from by
          have : reachN t wires 1025 0 [x] [] = (c, []) := by rw [← HN3.out, if_neg hc]
          rw [HP2.out, this, if_neg hc])
        go_wp2_with fail
        go_ret2
        exact ⟨⟨.slice none 0 0, by rw [HF.out]; rfl, by rw [HF.out]; exact ⟨none, 0, 0, rfl, rfl, .inl rfl⟩⟩, HX.out.trans HS5.out.ext⟩
      have HN4 := Lib.hid (show (match foldX wires l thr out with | none => (200, []) | some r => reachN t wires (1024 - k) (k + 1) r.1 r.2) = reachN t wires 1025 0 [x] [] from by
        have := HN3.out
        rw [if_pos hc] at this
        exact this)
      subst hc
      have HLS := Lib.hid (show LSt w5 v5 l (.slice (some ⟨bt, ot, none⟩) nt ct) u9 (w2.heap.size + 1) from
        ⟨ownsRow_base hown5 (Nat.zero_le _), fun i hi => by
          have hi1 := (hown5.lt i hi).1
          have ht := hst.out.t.lt
          have ho := hst.out.o.lt
          have hm := hst.out.m.lt
          rw [World.size_drew] at hi1
          exact ⟨fun e => by have := (ht i e).2; omega, fun e => by have := (ho i e).2; omega, by omega⟩⟩)
      obtain ⟨p5, n5, c5, rfl, hn5, -⟩ := HSl.of_owns hown5
      have HN5 := Lib.hid hn5
      have hn64 : n5 ≤ 64 := by omega
      clear hown5 hn5 HN3 hst h64
      go_wp2_with fail
      go_loopw [9, 10, 58] (fun ov tv j wr => ∃ (j' : Nat) (thr' out' : List Hdr), j' ≤ n5 ∧ j = .int .i64 j' ∧ Hid (RSt wB wr (w2.heap.size + 1) tv ov thr' thr' out' (1 + 64 * k + j')) ∧ out'.length ≤ 64 * k + j' ∧ k + 1 ≤ thr'.length ∧ thr'.length ≤ 1024 ∧ Hid (foldX wires (l.drop j') thr' out' = foldX wires l thr out) ∧ Hid (LSt wr (.slice p5 n5 c5) l tv ov (w2.heap.size + 1))) (fun _ _ j _ => n5 - (intOf j).toNat)
      case atStart => exact ⟨0, thr, out, Nat.zero_le _, rfl, HS5.out.mono (by omega), by omega, hkl, hthr, rfl, HLS.out⟩
      case round =>
        obtain ⟨wn, rfl⟩ : ∃ wn : World, wn = wr := ⟨_, rfl⟩
        obtain ⟨j', thr', out', hj, rfl, hst, hout', hk1, hthr', hF, hls⟩ := hrel
        obtain ⟨pt', nt', ct', rfl, hnt', -⟩ := HSl.of_owns hst.out.t
        have HNT' := Lib.hid hnt'
        clear hnt'
        by_cases hlt2 : j' < n5
        · have hjl : j' < l.length := by rw [← HN5.out]; exact hlt2
          obtain ⟨p6, n6, c6, he6, -, hrl⟩ := HSl.of_owns hls.out.o
          cases he6
          rcases hrl with hrl | ⟨b6, o6, rfl, -, hrl⟩
          · exfalso; subst hrl; simp at hjl
          have HRZ := Lib.hid (rangeAt_get Hdr.len_cs hrl j' hjl)
          have hF2 := hF.out
          rw [drop_get hjl, foldX] at hF2
          generalize l[j'] = z at *
          obtain ⟨wS, hS⟩ : ∃ W : World, wn.alloc (.cells z.cs 24) = W := ⟨_, rfl⟩
          have xS : Ext wn wS := hS ▸ Ext.alloc _ _
          have sS : wS.heap.size = wn.heap.size + 1 := by rw [← hS, World.size_alloc]
          have rS : wS.rangeAt wn.heap.size 0 z.cs.toList := by rw [← hS]; exact rangeAt_new wn z.cs 24
          have fS : ∀ i, wS.frozen? ⟨wn.heap.size, i, none⟩ = false := fun i => by
            have := World.frozen?_alloc_mark wn z.cs 24 0 0 i
            rw [← hS, this]; simp
          have HRS := Lib.hid rS
          have HFS := Lib.hid fS
          have HXS := Lib.hid xS
          have HEQ := Lib.hid hS
          have HH := Lib.hid (head_any z wS)
          have HF2 := Lib.hid hF2
          clear hrl hF2 hF hS xS rS fS
          go_upto_region 18 with (first
            | (refine wpList_store_new rfl 24 _ _ rfl _ z.cs rfl rfl (by rw [z.size_cs]; kernel_rfl) (by rw [z.size_cs]; rfl) (all_oneCell_toArray z.one) ?_)
            | (refine wpList_load_H rfl _ rfl _ _ rfl z HRZ.out ?_))
          rw [HEQ.out]
          try simp only [Act.put]
          go_wp2_with (first | (refine wpList_load_H rfl _ rfl _ _ rfl z HRS.out ?_))
          refine HH.out.mono ?_
          rintro e w7 ⟨rfl, hx7⟩
          have HX7 := Lib.hid (HXS.out.trans hx7)
          have HRZ7 := Lib.hid (World.rangeAt.later hx7.later HRS.out)
          have c9 := cellAt HRZ7.out 9 (by omega)
          have c10 := cellAt HRZ7.out 10 (by omega)
          simp only [Nat.zero_add] at c9 c10
          by_cases hz : headE z = 0
          case neg =>
            have HG := Lib.hid (show foldX wires (l.drop (j' + 1)) thr' out' = foldX wires l thr out from by
              rw [← HF2.out, stepX, if_neg hz]; rfl)
            generalize headE z = hE at *
            clear c9 c10
            go_wp2_with fail
            go_roundw
            case rel => exact ⟨j' + 1, thr', out', by omega, by go_num, (hst.out.more HX7.out).mono (by omega), by omega, hk1, hthr', HG.out, hls.out.more HX7.out⟩
            case measure => simp [intOf]; omega
          have HG2 := Lib.hid (show ((match overP (IntKind.u16.wrap (z.f 10)) (IntKind.u16.wrap (z.f 9)) wires with
              | none => some (thr', out' ++ [z])
              | some r => if moveTo z r.1 r.2 ∈ thr' then some (thr', out') else if thr'.length = 1024 then none else some (thr' ++ [moveTo z r.1 r.2], out')).bind fun r => foldX wires (l.drop (j' + 1)) r.1 r.2) = foldX wires l thr out from by
            rw [← HF2.out, stepX, if_pos hz]
            cases overP (IntKind.u16.wrap (z.f 10)) (IntKind.u16.wrap (z.f 9)) wires <;> rfl)
          have HOZ := Lib.hid (HOV.out (IntKind.u16.wrap (z.f 10)) (IntKind.u16.wrap (z.f 9)) w7 (HX.out.trans (hst.out.ext.trans HX7.out)))
          have HOB := Lib.hid (overP_bd (IntKind.u16.wrap (z.f 10)) (IntKind.u16.wrap (z.f 9)) wires HBD.out)
          rw [hz]
          clear hz HF2
          generalize overP (IntKind.u16.wrap (z.f 10)) (IntKind.u16.wrap (z.f 9)) wires = O at *
          go_upto_region 19 with fail
          cases O with
          | none =>
            have HG := Lib.hid (show foldX wires (l.drop (j' + 1)) thr' (out' ++ [z]) = foldX wires l thr out from HG2.out)
            have HOZ' := Lib.hid (show Calls Try.prog 27 #[.slice wp wl wq, .agg #[.int .u16 (IntKind.u16.wrap (z.f 10)), .int .u16 (IntKind.u16.wrap (z.f 9))]] w7 fun e w' => e = .returned (.tuple #[.agg #[.int .u16 0, .int .u16 0], .bool false]) ∧ Ext w7 w' from HOZ.out)
            clear HG2 HOZ
            go_wp2_with fail
            refine HOZ'.out.mono ?_
            rintro e w8 ⟨rfl, hx8⟩
            obtain ⟨w9, h9⟩ : ∃ W : World, w8.alloc (.cells #[.int .u16 0, .int .u16 0] 58) = W := ⟨_, rfl⟩
            have HX9 := Lib.hid (show Ext wn w9 from (HX7.out.trans hx8).trans (h9 ▸ Ext.alloc _ _))
            have HRZ9 := Lib.hid (show w9.rangeAt wn.heap.size 0 z.cs.toList from World.rangeAt.later (hx8.trans (h9 ▸ Ext.alloc _ _)).later HRZ7.out)
            have HEQ9 := Lib.hid h9
            have HST9 := Lib.hid (hst.out.more (HX9.out.andAlloc (.cells z.cs 24)))
            have HLS9 := Lib.hid (hls.out.more (HX9.out.andAlloc (.cells z.cs 24)))
            have hb9 : wB.heap.size ≤ (w9.alloc (.cells z.cs 24)).heap.size := HST9.out.ext.size
            clear c9 c10 hx8 h9
            go_upto_region 20 with (first | (refine wpList_store_new rfl 58 _ _ rfl _ #[.int .u16 0, .int .u16 0] rfl rfl (by kernel_rfl) rfl (by rfl) ?_))
            rw [HEQ9.out]
            try simp only [Act.put]
            go_wp2_with (first
              | (refine wpList_load_H rfl _ rfl _ _ rfl z HRZ9.out ?_)
              | (refine wpList_one_H rfl _ rfl z rfl ?_)
              | (at_builtin; refine wpList_append_H_at rfl _ _ rfl wB.heap.size u9 out' rfl HST9.out.o _ z rfl (rangeAt_new _ _ _) (by omega) hb9 ?_; intro v' w' hown' hg' hat'))
            go_roundw
            case rel => exact ⟨j' + 1, thr', out' ++ [z], by omega, by go_num, (HST9.out.putOut hown' hg' hat').mono (by omega), by simp only [List.length_append, List.length_cons, List.length_nil]; omega, hk1, hthr', HG.out, HLS9.out.putOut hg' hat'⟩
            case measure => simp [intOf]; omega
          | some r =>
            obtain ⟨a, b⟩ := r
            have hab := HOB.out (a, b) rfl
            have HG := Lib.hid (show ((if moveTo z a b ∈ thr' then some (thr', out') else if thr'.length = 1024 then none else some (thr' ++ [moveTo z a b], out')).bind fun r => foldX wires (l.drop (j' + 1)) r.1 r.2) = foldX wires l thr out from HG2.out)
            have HOZ' := Lib.hid (show Calls Try.prog 27 #[.slice wp wl wq, .agg #[.int .u16 (IntKind.u16.wrap (z.f 10)), .int .u16 (IntKind.u16.wrap (z.f 9))]] w7 fun e w' => e = .returned (.tuple #[.agg #[.int .u16 a, .int .u16 b], .bool true]) ∧ Ext w7 w' from HOZ.out)
            clear HG2 HOZ
            go_wp2_with fail
            refine HOZ'.out.mono ?_
            rintro e w8 ⟨rfl, hx8⟩
            obtain ⟨w9, h9⟩ : ∃ W : World, w8.alloc (.cells #[.int .u16 a, .int .u16 b] 58) = W := ⟨_, rfl⟩
            have x89 : Ext w8 w9 := h9 ▸ Ext.alloc _ _
            have HX9 := Lib.hid ((HX7.out.trans hx8).trans x89)
            have d0 : w9.cell? ⟨w8.heap.size, 0, none⟩ = some (.int .u16 a) := by rw [← h9]; simp [go_sem]
            have d1 : w9.cell? ⟨w8.heap.size, 1, none⟩ = some (.int .u16 b) := by rw [← h9]; simp [go_sem]
            have hrz9 : w9.rangeAt wn.heap.size 0 z.cs.toList := World.rangeAt.later (hx8.trans x89).later HRZ7.out
            have g9 := (hx8.trans x89).later _ _ c9
            have g10 := (hx8.trans x89).later _ _ c10
            have hSx : Ext wS w9 := (hx7.trans hx8).trans x89
            have f9 : w9.frozen? ⟨wn.heap.size, 9, none⟩ = false := by rw [Below.frozen hSx (show wn.heap.size < wS.heap.size by omega)]; exact HFS.out 9
            have f10 : w9.frozen? ⟨wn.heap.size, 10, none⟩ = false := by rw [Below.frozen hSx (show wn.heap.size < wS.heap.size by omega)]; exact HFS.out 10
            have ha64 : IntKind.u64.wrap a = a := by rw [IntKind.wrap_u64]; omega
            have hb64 : IntKind.u64.wrap b = b := by rw [IntKind.wrap_u64]; omega
            have HEQ9 := Lib.hid h9
            have HRZ9 := Lib.hid hrz9
            have HMV := Lib.hid (moveTo_cs z a b hab.1 hab.2)
            have HSZ := Lib.hid z.size_cs
            clear c9 c10 hx8 h9 hSx hx7 x89 hrz9
            go_upto_region 20 with (first | (refine wpList_store_new rfl 58 _ _ rfl _ #[.int .u16 a, .int .u16 b] rfl rfl (by kernel_rfl) rfl (by rfl) ?_))
            rw [HEQ9.out]
            try simp only [Act.put]
            go_upto_region 22 with fail
            go_cut [] (fun wx => Hid (wx.rangeAt wn.heap.size 0 (moveTo z a b).cs.toList ∧ Ext wn wx))
            case first =>
              go_region
              all_goals (go_wp2_with fail; go_meet)
              all_goals refine ⟨World.rangeAt.later (Ext.drew _).later ?_, ((HX9.out.andSet (Nat.le_refl wn.heap.size) _).andSet (Nat.le_refl wn.heap.size) _).andDrew⟩
              all_goals rw [HMV.out]
              all_goals first
                | exact rangeAt_set (rangeAt_set HRZ9.out (by rw [HSZ.out]; omega) _) (by rw [Array.size_setIfInBounds, HSZ.out]; omega) _
                | (rw [Array.setIfInBounds_comm _ _ (by omega)]; exact rangeAt_set (rangeAt_set HRZ9.out (by rw [HSZ.out]; omega) _) (by rw [Array.size_setIfInBounds, HSZ.out]; omega) _)
            case rest =>
              obtain ⟨hrm, hxm⟩ := hcut.out
              clear hcut d0 d1 g9 g10 f9 f10 ha64 hb64 HRZ9 HMV HSZ HEQ9
              generalize moveTo z a b = m at *
              have HSTc := Lib.hid ((hst.out.more hxm).more (Ext.drew wc))
              have hmlt := hst.out.m.lt
              obtain ⟨n, st, w11a, w11, hn1, hn0, hn2, hn3, q1, q2, q3, q4, g4, hsn, hq⟩ := HSTc.out.m.bump (by omega) m
              have HST11 := Lib.hid (HSTc.out.seen hsn g4)
              have HLS11 := Lib.hid (((hls.out.more hxm).more (Ext.drew _)).seen g4)
              have hne : ¬ wn.heap.size = w2.heap.size + 1 := by omega
              have HRM11 := Lib.hid ((Keep.grown g4).range (World.rangeAt.later (Ext.drew _).later hrm) hne)
              have HQ4 := Lib.hid (hq w11 (Ext.refl _))
              have ps : ∀ i, i < 11 → wc.drew.cell? ⟨wn.heap.size, i, none⟩ = some (.int .u64 (m.f i)) := fun i hi => by
                have := cellAt (World.rangeAt.later (Ext.drew wc).later hrm) i hi
                rwa [Nat.zero_add] at this
              have p0 := ps 0 (by omega)
              have p1 := ps 1 (by omega)
              have p2 := ps 2 (by omega)
              have p3 := ps 3 (by omega)
              have p4 := ps 4 (by omega)
              have p5' := ps 5 (by omega)
              have p6' := ps 6 (by omega)
              have p7 := ps 7 (by omega)
              have p8 := ps 8 (by omega)
              have p9 := ps 9 (by omega)
              have p10 := ps 10 (by omega)
              have hnw : IntKind.i64.wrap (n + 1) = n + 1 := by rw [IntKind.wrap_i64]; omega
              have HN1 := Lib.hid hn1
              have HN0 := Lib.hid hn0
              simp only [Hdr.cs_eq] at q1 q2 q3 q4
              clear hq hrm g4 ps hsn hn1 hn0
              go_upto_region 23 with fail
              go_cut [] (fun wx => Hid (wx = w11))
              case first =>
                go_region
                all_goals (go_wp2_with fail; go_meet; rfl)
              case rest =>
                have hcw := hcut.out
                subst hcw
                clear hcut p0 p1 p2 p3 p4 p5' p6' p7 p8 p9 p10 q1 q2 q3 q4
                have hl4 := HQ4.out
                by_cases hin : m ∈ thr'
                · have hn1 := HN1.out hin
                  have HG3 := Lib.hid (show foldX wires (l.drop (j' + 1)) thr' out' = foldX wires l thr out from by
                    have := HG.out
                    rw [if_pos hin] at this
                    exact this)
                  have HS12 := Lib.hid (show RSt wB wc (w2.heap.size + 1) (.slice pt' nt' ct') u9 thr' thr' out' (1 + 64 * k + j' + 1) from by
                    have := HST11.out
                    rwa [if_pos hin] at this)
                  clear hin HG hl4
                  go_wp2_with (first
                    | (refine wpList_load_H rfl _ rfl _ _ rfl m HRM11.out ?_)
                    | (refine wpList_lookup_run rfl 61 _ _ false rfl _ _ _ rfl rfl HQ4.out ?_))
                  go_roundw
                  case rel => exact ⟨j' + 1, thr', out', by omega, by go_num, HS12.out.mono (by omega), by omega, hk1, hthr', HG3.out, HLS11.out⟩
                  case measure => simp [intOf]; omega
                · have hn0 := HN0.out hin
                  subst hn0
                  have HS12 := Lib.hid (show RSt wB wc (w2.heap.size + 1) (.slice pt' nt' ct') u9 thr' (thr' ++ [m]) out' (1 + 64 * k + j' + 1) from by
                    have := HST11.out
                    rwa [if_neg hin] at this)
                  have HG3 := Lib.hid (show ((if thr'.length = 1024 then none else some (thr' ++ [m], out')).bind fun r => foldX wires (l.drop (j' + 1)) r.1 r.2) = foldX wires l thr out from by
                    have := HG.out
                    rw [if_neg hin] at this
                    exact this)
                  by_cases hfull : nt' = 1024
                  · have HE := Lib.hid (show foldX wires l thr out = none from by
                      rw [← HG3.out, if_pos (by rw [← HNT'.out]; exact hfull)]; rfl)
                    have HF := Lib.hid (show reachP t qs wires x = (200, []) from by
                      have h1 : reachN t wires 1025 0 [x] [] = (200, []) := by rw [← HN4.out, HE.out]
                      rw [HP2.out, h1, if_neg (by show ¬ (200 : Int) = 0; omega)])
                    clear hin HG hl4
                    go_wp2_with (first
                      | (refine wpList_load_H rfl _ rfl _ _ rfl m HRM11.out ?_)
                      | (refine wpList_lookup_run rfl 61 _ _ false rfl _ _ _ rfl rfl HQ4.out ?_))
                    go_ret2
                    exact ⟨⟨.slice none 0 0, by rw [HF.out]; rfl, by rw [HF.out]; exact ⟨none, 0, 0, rfl, rfl, .inl rfl⟩⟩, HX.out.trans HS12.out.ext⟩
                  · have HG4 := Lib.hid (show foldX wires (l.drop (j' + 1)) (thr' ++ [m]) out' = foldX wires l thr out from by
                      have := HG3.out
                      rw [if_neg (by rw [← HNT'.out]; exact hfull)] at this
                      exact this)
                    have HST9 := Lib.hid (HS12.out.more (Ext.alloc _ (.cells m.cs 24)))
                    have HLS9 := Lib.hid (HLS11.out.more (Ext.alloc _ (.cells m.cs 24)))
                    have hb9 : wB.heap.size ≤ (wc.alloc (.cells m.cs 24)).heap.size := HST9.out.ext.size
                    have hthr2 : thr'.length < 1024 := by have := HNT'.out; omega
                    clear hin HG HG3 hl4
                    go_wp2_with (first
                      | (refine wpList_load_H rfl _ rfl _ _ rfl m HRM11.out ?_)
                      | (refine wpList_lookup_run rfl 61 _ _ false rfl _ _ _ rfl rfl HQ4.out ?_)
                      | (refine wpList_one_H rfl _ rfl m rfl ?_)
                      | (at_builtin; refine wpList_append_H_at rfl _ _ rfl wB.heap.size (.slice pt' nt' ct') thr' rfl HST9.out.t _ m rfl (rangeAt_new _ _ _) (by omega) hb9 ?_; intro v' w' hown' hg' hat'))
                    go_roundw
                    case rel => exact ⟨j' + 1, thr' ++ [m], out', by omega, by go_num, (HST9.out.putThr hown' hg' hat').mono (by omega), by omega, by simp only [List.length_append, List.length_cons, List.length_nil]; omega, by simp only [List.length_append, List.length_cons, List.length_nil]; omega, HG4.out, HLS9.out.putThr hg' hat'⟩
                    case measure => simp [intOf]; omega
        · have HE := Lib.hid (show foldX wires l thr out = some (thr', out') from by
            rw [← hF.out, List.drop_of_length_le (by have := HN5.out; omega), foldX])
          have HN6 := Lib.hid (show reachN t wires (1025 - (k + 1)) (k + 1) thr' out' = reachN t wires 1025 0 [x] [] from by
            have := HN4.out
            rw [HE.out] at this
            rw [show 1025 - (k + 1) = 1024 - k by omega]
            exact this)
          clear hF
          go_wp2_with fail
          go_roundw
          case rel => exact ⟨k + 1, thr', out', hk1, hthr', by go_num, hst.out.mono (by omega), by omega, HN6.out⟩
          case measure => simp [intOf]; omega
    · have hnone : thr[k]? = none := List.getElem?_eq_none (by have := HNT.out; omega)
      have HR := Lib.hid (show reachN t wires 1025 0 [x] [] = (0, out) from by rw [← hN2, hnone])
      have HF := Lib.hid (show reachP t qs wires x = (0, dd (sortH out)) from by rw [HP2.out, HR.out, if_pos rfl])
      have HRI := Lib.hid (rising_any out u9 wB.heap.size wo hst.out.o (by omega))
      have HOB := Lib.hid (fun i (hi : u9.ownBlock = some i) => (hst.out.o.lt i hi).1)
      clear hN hN2 hnone
      go_wp2_with fail
      refine HRI.out.mono ?_
      rintro e w6 ⟨⟨v6, rfl, hs6⟩, hk6⟩
      have HS6 := Lib.hid hs6
      have HX6 := Lib.hid (hst.out.ext.andKeep hk6 (fun i hi => HOB.out i hi))
      clear hs6 hk6
      go_wp2_with fail
      go_ret2
      exact ⟨⟨v6, by rw [HF.out]; rfl, by rw [HF.out]; exact HS6.out.mono hwB⟩, HX.out.trans HX6.out⟩
end Go.Proofs.Ytddeelepaiklgaa
