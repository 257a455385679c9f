/- judge.Reach, walked. -/
import Derived.Test.YtddeelepaiklgaaMJ2
import Derived.Deep.RegionWith
import Derived.Laws.Rows
import Derived.Test.YtddeelepaiklgaaMJ1
import Derived.Test.YtddeelepaiklgaaRow
namespace Go.Proofs.Ytddeelepaiklgaa
open Go.RowKit Go.Maps Go.Sort Go.Lib
set_option linter.unusedSimpArgs false

theorem SeenIs.mono {w : World} {b : Nat} {ks : List Hdr} {N M : Int} (h : SeenIs w b ks N) (hN : N ≤ M) : SeenIs w b ks M := by
  obtain ⟨L, h1, h2, h3, h4⟩ := h
  exact ⟨L, h1, h2, fun y hy => by obtain ⟨c, a, b, d⟩ := h3 y hy; exact ⟨c, a, b, by omega⟩, h4⟩
theorem RSt.mono {wB wr : World} {mb : Nat} {tv ov : Value} {thr ks out : List Hdr} {N M : Int} (h : RSt wB wr mb tv ov thr ks out N) (hN : N ≤ M) : RSt wB wr mb tv ov thr ks out M :=
  ⟨h.t, h.o, h.m.mono hN, h.tm, h.om, h.ap, h.lo, h.ext⟩
/-- the list that a hop made, apart from the rows that grow -/
structure LSt (wr : World) (lv : Value) (l : List Hdr) (tv ov : Value) (mb : Nat) : Prop where
  o : wr.ownsRow 0 24 11 lv l.length (flatH l)
  ap : ∀ i, lv.ownBlock = some i → tv.ownBlock ≠ some i ∧ ov.ownBlock ≠ some i ∧ mb ≠ i
theorem LSt.more {wr W : World} {lv tv ov : Value} {l : List Hdr} {mb : Nat} (h : LSt wr lv l tv ov mb) (hx : Ext wr W) : LSt W lv l tv ov mb := ⟨ownsRow_ext h.o hx, h.ap⟩
theorem LSt.putOut {wr w' : World} {lv tv ov ov' : Value} {l : List Hdr} {mb : Nat} (h : LSt wr lv l tv ov mb) (hg : wr.grownBy w' ov.ownBlock) (hat : ov'.ownBlock = ov.ownBlock ∨ ov'.ownBlock = some wr.heap.size) : LSt w' lv l tv ov' mb :=
  ⟨h.o.kept hg (none_or fun i hi => (h.ap i hi).2.1), fun i hi => ⟨(h.ap i hi).1, by
    rcases hat with e | e
    · rw [e]; exact (h.ap i hi).2.1
    · rw [e]; intro e2; have := (h.o.lt i hi).2; injection e2 with e2; omega, (h.ap i hi).2.2⟩⟩
theorem LSt.putThr {wr w' : World} {lv tv tv' ov : Value} {l : List Hdr} {mb : Nat} (h : LSt wr lv l tv ov mb) (hg : wr.grownBy w' tv.ownBlock) (hat : tv'.ownBlock = tv.ownBlock ∨ tv'.ownBlock = some wr.heap.size) : LSt w' lv l tv' ov mb :=
  ⟨h.o.kept hg (none_or fun i hi => (h.ap i hi).1), fun i hi => ⟨by
    rcases hat with e | e
    · rw [e]; exact (h.ap i hi).1
    · rw [e]; intro e2; have := (h.o.lt i hi).2; injection e2 with e2; omega, (h.ap i hi).2⟩⟩
theorem LSt.seen {wr w' : World} {lv tv ov : Value} {l : List Hdr} {mb : Nat} (h : LSt wr lv l tv ov mb) (hg : wr.grownBy w' (some mb)) : LSt w' lv l tv ov mb :=
  ⟨h.o.kept hg (none_or fun i hi e => (h.ap i hi).2.2 (by injection e)), h.ap⟩
theorem moveTo_cs (x : Hdr) (a b : Int) (ha : 0 ≤ a ∧ a ≤ 65535) (hb : 0 ≤ b ∧ b ≤ 65535) : (moveTo x a b).cs = (x.cs.setIfInBounds 10 (.int .u64 a)).setIfInBounds 9 (.int .u64 b) := by
  unfold moveTo
  rw [Hdr.cs_put _ _ _ ⟨hb.1, by omega⟩, Hdr.cs_put _ _ _ ⟨ha.1, by omega⟩]
theorem overP_bd (s p : Int) : ∀ (l : List WireD), (∀ x ∈ l, (0 ≤ x.a ∧ x.a ≤ 65535) ∧ (0 ≤ x.ap ∧ x.ap ≤ 65535) ∧ (0 ≤ x.b ∧ x.b ≤ 65535) ∧ (0 ≤ x.bp ∧ x.bp ≤ 65535)) → ∀ r, overP s p l = some r → (0 ≤ r.1 ∧ r.1 ≤ 65535) ∧ (0 ≤ r.2 ∧ r.2 ≤ 65535)
  | [], _, r, h => by cases h
  | x :: xs, hb, r, h => by
    have hx := hb x List.mem_cons_self
    rw [overP] at h
    split at h
    · cases h; exact ⟨hx.2.2.1, hx.2.2.2⟩
    · split at h
      · cases h; exact ⟨hx.1, hx.2.1⟩
      · exact overP_bd s p xs (fun y hy => hb y (List.mem_cons_of_mem _ hy)) r h

set_option maxHeartbeats 8000000 in
set_option maxRecDepth 100000 in
theorem reach_any (t : Tm) (qs : List Qr) (wires : List WireD) (x : Hdr) (pv wv : Value) (w : World) (hp : PVal w t qs pv) (hw : SlOf WAt 4 w wires wv) :
    Calls Try.prog 15 #[pv, wv, .agg x.cs] w fun e w' => (∃ v, e = .returned (.tuple #[v, .int .i64 (reachP t qs wires x).1]) ∧ HSl w' w.heap.size (reachP t qs wires x).2 v) ∧ Ext w w' := by
  have HPV := Lib.hid hp
  obtain ⟨p, len, cap, qv, rfl, hvt, -⟩ := hp
  have HBD := Lib.hid (show ∀ y ∈ wires, (0 ≤ y.a ∧ y.a ≤ 65535) ∧ (0 ≤ y.ap ∧ y.ap ≤ 65535) ∧ (0 ≤ y.b ∧ y.b ≤ 65535) ∧ (0 ≤ y.bp ∧ y.bp ≤ 65535) from by
    obtain ⟨_, _, _, _, _, _, _, h⟩ := hw
    intro y hy
    rcases h with rfl | ⟨b, o, _, h⟩
    · cases hy
    · obtain ⟨i, hi, rfl⟩ := List.getElem_of_mem hy
      exact (h i hi).2)
  have HOV := Lib.hid (fun s p W (hW : Ext w W) => over_any wires wv s p W (by
    obtain ⟨a, b, c, h1, h2, h3, h4, h5⟩ := hw
    exact ⟨a, b, c, h1, h2, h3, h4, h5.imp id fun ⟨b, o, hp, h⟩ => ⟨b, o, hp, fun i hi => ⟨World.rangeAt.later hW.later (h i hi).1, (h i hi).2⟩⟩⟩))
  obtain ⟨wA, hA⟩ : ∃ W : World, w.alloc (.cells #[.int .i8 t.op, .int .i8 t.fld, .int .u64 t.n, .slice p len cap, qv] 34) = W := ⟨_, rfl⟩
  have xA : Ext w wA := hA ▸ Ext.alloc _ _
  have sA : wA.heap.size = w.heap.size + 1 := by rw [← hA, World.size_alloc]
  have rA : wA.rangeAt w.heap.size 0 [.int .i8 t.op, .int .i8 t.fld, .int .u64 t.n, .slice p len cap, qv] := by
    have := rangeAt_new w #[.int .i8 t.op, .int .i8 t.fld, .int .u64 t.n, .slice p len cap, qv] 34
    rw [hA] at this
    exact this
  obtain ⟨wB, hB⟩ : ∃ W : World, wA.alloc (.cells x.cs 24) = W := ⟨_, rfl⟩
  have xB : Ext wA wB := hB ▸ Ext.alloc _ _
  have rB : wB.rangeAt (w.heap.size + 1) 0 x.cs.toList := by
    have := rangeAt_new wA x.cs 24
    rw [hB, sA] at this
    exact this
  have sB : wB.heap.size = w.heap.size + 2 := by rw [← hB, World.size_alloc, sA]
  have HX := Lib.hid (xA.trans xB)
  have HPC := Lib.hid (fun W (hW : Ext wB W) => show W.cell? ⟨w.heap.size, 0, none⟩ = some (.int .i8 t.op) ∧ W.cell? ⟨w.heap.size, 1, none⟩ = some (.int .i8 t.fld) ∧ W.cell? ⟨w.heap.size, 2, none⟩ = some (.int .u64 t.n) ∧ W.cell? ⟨w.heap.size, 3, none⟩ = some (.slice p len cap) ∧ W.cell? ⟨w.heap.size, 4, none⟩ = some qv from by
    have hr := World.rangeAt.later (xB.trans hW).later rA
    exact ⟨by simpa using hr 0 _ rfl, by simpa using hr 1 _ rfl, by simpa using hr 2 _ rfl, by simpa using hr 3 _ rfl, by simpa using hr 4 _ rfl⟩)
  have HRB := Lib.hid (fun W (hW : Ext wB W) => World.rangeAt.later hW.later rB)
  have HVT := Lib.hid (fun W (hW : Ext wB W) => hvt.later (HX.out.trans hW).later)
  have HEQ := Lib.hid (show w.alloc (.cells #[.int .i8 t.op, .int .i8 t.fld, .int .u64 t.n, .slice p len cap, qv] 34) = wA ∧ wA.alloc (.cells x.cs 24) = wB from ⟨hA, hB⟩)
  have HCK := Lib.hid (checkQ_any t qs _ wB (HPV.out.later HX.out.later))
  have hwB : w.heap.size ≤ wB.heap.size := by omega
  obtain ⟨wp, wl, wq, rfl⟩ : ∃ a b c, wv = .slice a b c := by obtain ⟨a, b, c, h, -⟩ := hw; exact ⟨a, b, c, h⟩
  obtain ⟨b0, b1, b2, b3, b4⟩ := HPC.out _ (Ext.refl _)
  clear xA sA rA hA xB rB hB hvt hw
  go_enter Try.func15, Try.ntmps15
  go_upto_region 1 with fail
  rw [HEQ.out.1, HEQ.out.2]
  clear HEQ
  go_wp2_with fail
  refine HCK.out.mono ?_
  rintro e w1 ⟨rfl, hx1⟩
  have HX1 := Lib.hid hx1
  clear b0 b1 b2 b3 b4
  by_cases h0 : checkP t qs = 0
  case neg =>
    have HF := Lib.hid (show reachP t qs wires x = (checkP t qs, []) from by unfold reachP; rw [if_neg h0])
    generalize checkP t qs = y at *
    go_wp2_with fail
    go_ret2
    exact ⟨⟨.slice none 0 0, by rw [HF.out]; rfl, by rw [HF.out]; exact ⟨none, 0, 0, rfl, rfl, .inl rfl⟩⟩, HX.out.trans HX1.out⟩
  have HP1 := Lib.hid (show reachP t qs wires x = if headE x = 0 ∧ x.f 3 = 0 then (if (reachN t wires 1025 0 [x] []).1 = 0 then (0, dd (sortH (reachN t wires 1025 0 [x] []).2)) else ((reachN t wires 1025 0 [x] []).1, [])) else (10, []) from by unfold reachP; rw [if_pos h0])
  have HR1 := Lib.hid (HRB.out _ HX1.out)
  have HHD := Lib.hid (head_any x w1)
  rw [h0]
  clear h0
  go_upto_region 4 with fail
  go_wp2_with (first | (refine wpList_load_H rfl _ rfl _ _ rfl x HR1.out ?_))
  refine HHD.out.mono ?_
  rintro e w2 ⟨rfl, hx2⟩
  have HX2 := Lib.hid (HX1.out.trans hx2)
  have c3 := cellAt (HRB.out _ HX2.out) 3 (by omega)
  simp only [Nat.zero_add] at c3
  by_cases hh : headE x = 0
  case neg =>
    have HF := Lib.hid (show reachP t qs wires x = (10, []) from by rw [HP1.out, if_neg (fun h => hh h.1)])
    generalize headE x = y at *
    go_wp2_with fail
    go_ret2
    exact ⟨⟨.slice none 0 0, by rw [HF.out]; rfl, by rw [HF.out]; exact ⟨none, 0, 0, rfl, rfl, .inl rfl⟩⟩, HX.out.trans HX2.out⟩
  by_cases h3 : x.f 3 = 0
  case neg =>
    have HF := Lib.hid (show reachP t qs wires x = (10, []) from by rw [HP1.out, if_neg (fun h => h3 h.2)])
    rw [hh]
    generalize x.f 3 = y at *
    go_wp2_with fail
    go_ret2
    exact ⟨⟨.slice none 0 0, by rw [HF.out]; rfl, by rw [HF.out]; exact ⟨none, 0, 0, rfl, rfl, .inl rfl⟩⟩, HX.out.trans HX2.out⟩
  have HP2 := Lib.hid (show reachP t qs wires x = if (reachN t wires 1025 0 [x] []).1 = 0 then (0, dd (sortH (reachN t wires 1025 0 [x] []).2)) else ((reachN t wires 1025 0 [x] []).1, []) from by rw [HP1.out, if_pos ⟨hh, h3⟩])
  rw [hh]
  rw [h3] at c3
  clear hh h3 HP1
  have hmm := @run_makeMap Try.prog
  obtain ⟨wC, hC⟩ : ∃ W : World, w2.alloc (.cells x.cs 24) = W := ⟨_, rfl⟩
  have xC : Ext w2 wC := hC ▸ Ext.alloc _ _
  have sC : wC.heap.size = w2.heap.size + 1 := by rw [← hC, World.size_alloc]
  obtain ⟨wI, hup, hseen, hgI⟩ := SeenIs.first wC x
  rw [sC] at hup hseen hgI
  have HSt := Lib.hid (show RSt wB wI (w2.heap.size + 1) (.slice (some ⟨w2.heap.size, 0, none⟩) 1 1) (.slice none 0 0) [x] [x] [] 1 from by
    have ho := owns_one (w := w2) (w' := wB) (x := x) HX2.out.size
    rw [hC] at ho
    exact ⟨(ho.alloc _).kept hgI (.inr (by show some w2.heap.size ≠ some (w2.heap.size + 1); simp)), World.ownsRow_nil _ _ _ _, hseen, by show some w2.heap.size ≠ some (w2.heap.size + 1); simp, by simp [Value.ownBlock], fun i _ => by simp [Value.ownBlock],
      by have := HX2.out.size; omega, (HX2.out.trans (xC.andAlloc (.map #[] 0))).trans' ⟨hgI.os, hgI.tape, hgI.output, hgI.size, fun i hi => hgI.block i (by simp; have := HX2.out.size; have := sC; omega) (fun e => by have := HX2.out.size; injection e with e; omega)⟩⟩)
  have HRC := Lib.hid (HRB.out _ HX2.out)
  have HRM := Lib.hid (HRB.out _ (HX2.out.trans (xC.andAlloc (.map #[] 0))))
  have HUP := Lib.hid hup
  have HEQ := Lib.hid hC
  have HEQs := Lib.hid sC
  clear hC xC hup hseen hgI
  go_upto_region 8 with (first | (refine wpList_load_H rfl _ rfl _ _ rfl x HRC.out ?_) | (refine wpList_one_H rfl _ rfl x rfl ?_))
  rw [HEQ.out]
  try simp only [Act.put]
  go_wp2_with (first
    | (refine wpList_load_H rfl _ rfl _ _ rfl x HRM.out ?_)
    | (refine wpList_update_run rfl 61 _ _ _ (.inr rfl) _ _ _ _ rfl rfl rfl HUP.out ?_))
  go_loopw [9, 10, 12] (fun ov tv i wr => ∃ (k : Nat) (thr out : List Hdr), k ≤ thr.length ∧ thr.length ≤ 1024 ∧ i = .int .i64 k ∧ Hid (RSt wB wr (w2.heap.size + 1) tv ov thr thr out (1 + 64 * k)) ∧ out.length ≤ 64 * k ∧ Hid (reachN t wires (1025 - k) k thr out = reachN t wires 1025 0 [x] [])) (fun _ _ i _ => 1024 - (intOf i).toNat)
  case atStart => exact ⟨0, [x], [], by simp, by simp, rfl, HSt.out, by simp, rfl⟩
  case round =>
    obtain ⟨wo, rfl⟩ : ∃ wo : World, wo = wr := ⟨_, rfl⟩
    obtain ⟨k, thr, out, hk, hthr, rfl, hst, hout, hN⟩ := hrel
    obtain ⟨pt, nt, ct, rfl, hnt, hrt⟩ := HSl.of_owns hst.out.t
    have HNT := Lib.hid hnt
    clear hnt
    have hN2 : (match thr[k]? with
      | none => (0, out)
      | some y => if (ofC t y).1 = 0 then (match foldX wires (ofC t y).2 thr out with | none => (200, []) | some r => reachN t wires (1024 - k) (k + 1) r.1 r.2) else ((ofC t y).1, [])) = reachN t wires 1025 0 [x] [] := by
      have := hN.out
      rw [show 1025 - k = (1024 - k) + 1 by omega, reachN] at this
      exact this
    by_cases hlt : k < nt
    · have hkl : k < thr.length := by have := HNT.out; omega
      rw [List.getElem?_eq_getElem hkl] at hN2
      rcases hrt with hrt | ⟨bt, ot, rfl, hbt, hrt⟩
      · exfalso; subst hrt; simp at hkl
      have hry := fun W (hW : Ext wo W) => rangeAt_get Hdr.len_cs (World.rangeAt.later hW.later hrt) k hkl
      generalize thr[k] = y at *
      have hN3 : (if (ofC t y).1 = 0 then (match foldX wires (ofC t y).2 thr out with | none => (200, []) | some r => reachN t wires (1024 - k) (k + 1) r.1 r.2) else ((ofC t y).1, [])) = reachN t wires 1025 0 [x] [] := hN2
      have HOF := Lib.hid (fun W (hW : Ext wo W) => meaningOf_any t _ y W (HVT.out _ (hst.out.ext.trans hW)))
      generalize ofC t y = R at *
      obtain ⟨c, l⟩ := R
      have HSS := Lib.hid (fun W (hW : Ext wo W) => (show (fun W => W.cell? ⟨w.heap.size, 0, none⟩ = some (.int .i8 t.op) ∧ W.cell? ⟨w.heap.size, 1, none⟩ = some (.int .i8 t.fld) ∧ W.cell? ⟨w.heap.size, 2, none⟩ = some (.int .u64 t.n) ∧ W.cell? ⟨w.heap.size, 3, none⟩ = some (.slice p len cap) ∧ W.rangeAt bt (ot + k * 11) y.cs.toList) W from by
        obtain ⟨a0, a1, a2, a3, -⟩ := HPC.out _ (hst.out.ext.trans hW)
        exact ⟨a0, a1, a2, a3, hry W hW⟩))
      obtain ⟨a0, a1, a2, a3, hrx⟩ := HSS.out _ (Ext.refl _)
      have hxd := Ext.drew wo
      have HN3 := Lib.hid hN3
      have hu28 : Try.prog.underlying 24 = some (.array 11 22) := Try.underlying24
      have hi28 : (Try.prog.info? 24).map (·.size) = some y.cs.toList.length := by rw [y.len_cs]; kernel_rfl
      clear hN2 hN3 hN hry hrt
      go_upto_region 12 with fail
      go_region_held3 (fun W => W.cell? ⟨w.heap.size, 0, none⟩ = some (.int .i8 t.op) ∧ W.cell? ⟨w.heap.size, 1, none⟩ = some (.int .i8 t.fld) ∧ W.cell? ⟨w.heap.size, 2, none⟩ = some (.int .u64 t.n) ∧ W.cell? ⟨w.heap.size, 3, none⟩ = some (.slice p len cap) ∧ W.rangeAt bt (ot + k * 11) y.cs.toList) (first | exact HSS.out _ hxd | exact HSS.out _ (hxd.trans hx5)) (first
        | (go_at_call 18; refine (HOF.out _ hxd).mono ?_; rintro e w5 ⟨hx5, h64, v5, rfl, hown5⟩))
      clear a0 a1 a2 a3 hrx hu28 hi28
      have hxo5 : Ext wo w5 := hxd.trans hx5
      have HS5 := Lib.hid (hst.out.more hxo5)
      by_cases hc : c = 0
      case neg =>
        have HF := Lib.hid (show reachP t qs wires x = (c, []) from by
          have : reachN t wires 1025 0 [x] [] = (c, []) := by rw [← HN3.out, if_neg hc]
          rw [HP2.out, this, if_neg hc])
        go_wp2_with fail
        go_ret2
        exact ⟨⟨.slice none 0 0, by rw [HF.out]; rfl, by rw [HF.out]; exact ⟨none, 0, 0, rfl, rfl, .inl rfl⟩⟩, HX.out.trans HS5.out.ext⟩
      have HN4 := Lib.hid (show (match foldX wires l thr out with | none => (200, []) | some r => reachN t wires (1024 - k) (k + 1) r.1 r.2) = reachN t wires 1025 0 [x] [] from by
        have := HN3.out
        rw [if_pos hc] at this
        exact this)
      subst hc
      have HLS := Lib.hid (show LSt w5 v5 l (.slice (some ⟨bt, ot, none⟩) nt ct) u9 (w2.heap.size + 1) from
        ⟨ownsRow_base hown5 (Nat.zero_le _), fun i hi => by
          have hi1 := (hown5.lt i hi).1
          have ht := hst.out.t.lt
          have ho := hst.out.o.lt
          have hm := hst.out.m.lt
          rw [World.size_drew] at hi1
          exact ⟨fun e => by have := (ht i e).2; omega, fun e => by have := (ho i e).2; omega, by omega⟩⟩)
      obtain ⟨p5, n5, c5, rfl, hn5, -⟩ := HSl.of_owns hown5
      have HN5 := Lib.hid hn5
      have hn64 : n5 ≤ 64 := by omega
      clear hown5 hn5 HN3 hst h64
      go_wp2_with fail
      go_loopw [9, 10, 58] (fun ov tv j wr => ∃ (j' : Nat) (thr' out' : List Hdr), j' ≤ n5 ∧ j = .int .i64 j' ∧ Hid (RSt wB wr (w2.heap.size + 1) tv ov thr' thr' out' (1 + 64 * k + j')) ∧ out'.length ≤ 64 * k + j' ∧ k + 1 ≤ thr'.length ∧ thr'.length ≤ 1024 ∧ Hid (foldX wires (l.drop j') thr' out' = foldX wires l thr out) ∧ Hid (LSt wr (.slice p5 n5 c5) l tv ov (w2.heap.size + 1))) (fun _ _ j _ => n5 - (intOf j).toNat)
      case atStart => exact ⟨0, thr, out, Nat.zero_le _, rfl, HS5.out.mono (by omega), by omega, hkl, hthr, rfl, HLS.out⟩
      case round =>
        obtain ⟨wn, rfl⟩ : ∃ wn : World, wn = wr := ⟨_, rfl⟩
        obtain ⟨j', thr', out', hj, rfl, hst, hout', hk1, hthr', hF, hls⟩ := hrel
        obtain ⟨pt', nt', ct', rfl, hnt', -⟩ := HSl.of_owns hst.out.t
        have HNT' := Lib.hid hnt'
        clear hnt'
        by_cases hlt2 : j' < n5
        · have hjl : j' < l.length := by rw [← HN5.out]; exact hlt2
          obtain ⟨p6, n6, c6, he6, -, hrl⟩ := HSl.of_owns hls.out.o
          cases he6
          rcases hrl with hrl | ⟨b6, o6, rfl, -, hrl⟩
          · exfalso; subst hrl; simp at hjl
          have HRZ := Lib.hid (rangeAt_get Hdr.len_cs hrl j' hjl)
          have hF2 := hF.out
          rw [drop_get hjl, foldX] at hF2
          generalize l[j'] = z at *
          obtain ⟨wS, hS⟩ : ∃ W : World, wn.alloc (.cells z.cs 24) = W := ⟨_, rfl⟩
          have xS : Ext wn wS := hS ▸ Ext.alloc _ _
          have sS : wS.heap.size = wn.heap.size + 1 := by rw [← hS, World.size_alloc]
          have rS : wS.rangeAt wn.heap.size 0 z.cs.toList := by rw [← hS]; exact rangeAt_new wn z.cs 24
          have fS : ∀ i, wS.frozen? ⟨wn.heap.size, i, none⟩ = false := fun i => by
            have := World.frozen?_alloc_mark wn z.cs 24 0 0 i
            rw [← hS, this]; simp
          have HRS := Lib.hid rS
          have HFS := Lib.hid fS
          have HXS := Lib.hid xS
          have HEQ := Lib.hid hS
          have HH := Lib.hid (head_any z wS)
          have HF2 := Lib.hid hF2
          clear hrl hF2 hF hS xS rS fS
          go_upto_region 18 with (first
            | (refine wpList_store_new rfl 24 _ _ rfl _ z.cs rfl rfl (by rw [z.size_cs]; kernel_rfl) (by rw [z.size_cs]; rfl) (all_oneCell_toArray z.one) ?_)
            | (refine wpList_load_H rfl _ rfl _ _ rfl z HRZ.out ?_))
          rw [HEQ.out]
          try simp only [Act.put]
          go_wp2_with (first | (refine wpList_load_H rfl _ rfl _ _ rfl z HRS.out ?_))
          refine HH.out.mono ?_
          rintro e w7 ⟨rfl, hx7⟩
          have HX7 := Lib.hid (HXS.out.trans hx7)
          have HRZ7 := Lib.hid (World.rangeAt.later hx7.later HRS.out)
          have c9 := cellAt HRZ7.out 9 (by omega)
          have c10 := cellAt HRZ7.out 10 (by omega)
          simp only [Nat.zero_add] at c9 c10
          by_cases hz : headE z = 0
          case neg =>
            have HG := Lib.hid (show foldX wires (l.drop (j' + 1)) thr' out' = foldX wires l thr out from by
              rw [← HF2.out, stepX, if_neg hz]; rfl)
            generalize headE z = hE at *
            clear c9 c10
            go_wp2_with fail
            go_roundw
            case rel => exact ⟨j' + 1, thr', out', by omega, by go_num, (hst.out.more HX7.out).mono (by omega), by omega, hk1, hthr', HG.out, hls.out.more HX7.out⟩
            case measure => simp [intOf]; omega
          have HG2 := Lib.hid (show ((match overP (IntKind.u16.wrap (z.f 10)) (IntKind.u16.wrap (z.f 9)) wires with
              | none => some (thr', out' ++ [z])
              | some r => if moveTo z r.1 r.2 ∈ thr' then some (thr', out') else if thr'.length = 1024 then none else some (thr' ++ [moveTo z r.1 r.2], out')).bind fun r => foldX wires (l.drop (j' + 1)) r.1 r.2) = foldX wires l thr out from by
            rw [← HF2.out, stepX, if_pos hz]
            cases overP (IntKind.u16.wrap (z.f 10)) (IntKind.u16.wrap (z.f 9)) wires <;> rfl)
          have HOZ := Lib.hid (HOV.out (IntKind.u16.wrap (z.f 10)) (IntKind.u16.wrap (z.f 9)) w7 (HX.out.trans (hst.out.ext.trans HX7.out)))
          have HOB := Lib.hid (overP_bd (IntKind.u16.wrap (z.f 10)) (IntKind.u16.wrap (z.f 9)) wires HBD.out)
          rw [hz]
          clear hz HF2
          generalize overP (IntKind.u16.wrap (z.f 10)) (IntKind.u16.wrap (z.f 9)) wires = O at *
          go_upto_region 19 with fail
          cases O with
          | none =>
            have HG := Lib.hid (show foldX wires (l.drop (j' + 1)) thr' (out' ++ [z]) = foldX wires l thr out from HG2.out)
            have HOZ' := Lib.hid (show Calls Try.prog 27 #[.slice wp wl wq, .agg #[.int .u16 (IntKind.u16.wrap (z.f 10)), .int .u16 (IntKind.u16.wrap (z.f 9))]] w7 fun e w' => e = .returned (.tuple #[.agg #[.int .u16 0, .int .u16 0], .bool false]) ∧ Ext w7 w' from HOZ.out)
            clear HG2 HOZ
            go_wp2_with fail
            refine HOZ'.out.mono ?_
            rintro e w8 ⟨rfl, hx8⟩
            obtain ⟨w9, h9⟩ : ∃ W : World, w8.alloc (.cells #[.int .u16 0, .int .u16 0] 58) = W := ⟨_, rfl⟩
            have HX9 := Lib.hid (show Ext wn w9 from (HX7.out.trans hx8).trans (h9 ▸ Ext.alloc _ _))
            have HRZ9 := Lib.hid (show w9.rangeAt wn.heap.size 0 z.cs.toList from World.rangeAt.later (hx8.trans (h9 ▸ Ext.alloc _ _)).later HRZ7.out)
            have HEQ9 := Lib.hid h9
            have HST9 := Lib.hid (hst.out.more (HX9.out.andAlloc (.cells z.cs 24)))
            have HLS9 := Lib.hid (hls.out.more (HX9.out.andAlloc (.cells z.cs 24)))
            have hb9 : wB.heap.size ≤ (w9.alloc (.cells z.cs 24)).heap.size := HST9.out.ext.size
            clear c9 c10 hx8 h9
            go_upto_region 20 with (first | (refine wpList_store_new rfl 58 _ _ rfl _ #[.int .u16 0, .int .u16 0] rfl rfl (by kernel_rfl) rfl (by rfl) ?_))
            rw [HEQ9.out]
            try simp only [Act.put]
            go_wp2_with (first
              | (refine wpList_load_H rfl _ rfl _ _ rfl z HRZ9.out ?_)
              | (refine wpList_one_H rfl _ rfl z rfl ?_)
              | (at_builtin; refine wpList_append_H_at rfl _ _ rfl wB.heap.size u9 out' rfl HST9.out.o _ z rfl (rangeAt_new _ _ _) (by omega) hb9 ?_; intro v' w' hown' hg' hat'))
            go_roundw
            case rel => exact ⟨j' + 1, thr', out' ++ [z], by omega, by go_num, (HST9.out.putOut hown' hg' hat').mono (by omega), by simp only [List.length_append, List.length_cons, List.length_nil]; omega, hk1, hthr', HG.out, HLS9.out.putOut hg' hat'⟩
            case measure => simp [intOf]; omega
          | some r =>
            obtain ⟨a, b⟩ := r
            have hab := HOB.out (a, b) rfl
            have HG := Lib.hid (show ((if moveTo z a b ∈ thr' then some (thr', out') else if thr'.length = 1024 then none else some (thr' ++ [moveTo z a b], out')).bind fun r => foldX wires (l.drop (j' + 1)) r.1 r.2) = foldX wires l thr out from HG2.out)
            have HOZ' := Lib.hid (show Calls Try.prog 27 #[.slice wp wl wq, .agg #[.int .u16 (IntKind.u16.wrap (z.f 10)), .int .u16 (IntKind.u16.wrap (z.f 9))]] w7 fun e w' => e = .returned (.tuple #[.agg #[.int .u16 a, .int .u16 b], .bool true]) ∧ Ext w7 w' from HOZ.out)
            clear HG2 HOZ
            go_wp2_with fail
            refine HOZ'.out.mono ?_
            rintro e w8 ⟨rfl, hx8⟩
            obtain ⟨w9, h9⟩ : ∃ W : World, w8.alloc (.cells #[.int .u16 a, .int .u16 b] 58) = W := ⟨_, rfl⟩
            have x89 : Ext w8 w9 := h9 ▸ Ext.alloc _ _
            have HX9 := Lib.hid ((HX7.out.trans hx8).trans x89)
            have d0 : w9.cell? ⟨w8.heap.size, 0, none⟩ = some (.int .u16 a) := by rw [← h9]; simp [go_sem]
            have d1 : w9.cell? ⟨w8.heap.size, 1, none⟩ = some (.int .u16 b) := by rw [← h9]; simp [go_sem]
            have hrz9 : w9.rangeAt wn.heap.size 0 z.cs.toList := World.rangeAt.later (hx8.trans x89).later HRZ7.out
            have g9 := (hx8.trans x89).later _ _ c9
            have g10 := (hx8.trans x89).later _ _ c10
            have hSx : Ext wS w9 := (hx7.trans hx8).trans x89
            have f9 : w9.frozen? ⟨wn.heap.size, 9, none⟩ = false := by rw [Below.frozen hSx (show wn.heap.size < wS.heap.size by omega)]; exact HFS.out 9
            have f10 : w9.frozen? ⟨wn.heap.size, 10, none⟩ = false := by rw [Below.frozen hSx (show wn.heap.size < wS.heap.size by omega)]; exact HFS.out 10
            have ha64 : IntKind.u64.wrap a = a := by rw [IntKind.wrap_u64]; omega
            have hb64 : IntKind.u64.wrap b = b := by rw [IntKind.wrap_u64]; omega
            have HEQ9 := Lib.hid h9
            have HRZ9 := Lib.hid hrz9
            have HMV := Lib.hid (moveTo_cs z a b hab.1 hab.2)
            have HSZ := Lib.hid z.size_cs
            clear c9 c10 hx8 h9 hSx hx7 x89 hrz9
            go_upto_region 20 with (first | (refine wpList_store_new rfl 58 _ _ rfl _ #[.int .u16 a, .int .u16 b] rfl rfl (by kernel_rfl) rfl (by rfl) ?_))
            rw [HEQ9.out]
            try simp only [Act.put]
            go_upto_region 22 with fail
            go_cut [] (fun wx => Hid (wx.rangeAt wn.heap.size 0 (moveTo z a b).cs.toList ∧ Ext wn wx))
            case first =>
              go_region
              all_goals (go_wp2_with fail; go_meet)
              all_goals refine ⟨World.rangeAt.later (Ext.drew _).later ?_, ((HX9.out.andSet (Nat.le_refl wn.heap.size) _).andSet (Nat.le_refl wn.heap.size) _).andDrew⟩
              all_goals rw [HMV.out]
              all_goals first
                | exact rangeAt_set (rangeAt_set HRZ9.out (by rw [HSZ.out]; omega) _) (by rw [Array.size_setIfInBounds, HSZ.out]; omega) _
                | (rw [Array.setIfInBounds_comm _ _ (by omega)]; exact rangeAt_set (rangeAt_set HRZ9.out (by rw [HSZ.out]; omega) _) (by rw [Array.size_setIfInBounds, HSZ.out]; omega) _)
            case rest =>
              obtain ⟨hrm, hxm⟩ := hcut.out
              clear hcut d0 d1 g9 g10 f9 f10 ha64 hb64 HRZ9 HMV HSZ HEQ9
              generalize moveTo z a b = m at *
              have HSTc := Lib.hid ((hst.out.more hxm).more (Ext.drew wc))
              have hmlt := hst.out.m.lt
              obtain ⟨n, st, w11a, w11, hn1, hn0, hn2, hn3, q1, q2, q3, q4, g4, hsn, hq⟩ := HSTc.out.m.bump (by omega) m
              have HST11 := Lib.hid (HSTc.out.seen hsn g4)
              have HLS11 := Lib.hid (((hls.out.more hxm).more (Ext.drew _)).seen g4)
              have hne : ¬ wn.heap.size = w2.heap.size + 1 := by omega
              have HRM11 := Lib.hid ((Keep.grown g4).range (World.rangeAt.later (Ext.drew _).later hrm) hne)
              have HQ4 := Lib.hid (hq w11 (Ext.refl _))
              have ps : ∀ i, i < 11 → wc.drew.cell? ⟨wn.heap.size, i, none⟩ = some (.int .u64 (m.f i)) := fun i hi => by
                have := cellAt (World.rangeAt.later (Ext.drew wc).later hrm) i hi
                rwa [Nat.zero_add] at this
              have p0 := ps 0 (by omega)
              have p1 := ps 1 (by omega)
              have p2 := ps 2 (by omega)
              have p3 := ps 3 (by omega)
              have p4 := ps 4 (by omega)
              have p5' := ps 5 (by omega)
              have p6' := ps 6 (by omega)
              have p7 := ps 7 (by omega)
              have p8 := ps 8 (by omega)
              have p9 := ps 9 (by omega)
              have p10 := ps 10 (by omega)
              have hnw : IntKind.i64.wrap (n + 1) = n + 1 := by rw [IntKind.wrap_i64]; omega
              have HN1 := Lib.hid hn1
              have HN0 := Lib.hid hn0
              simp only [Hdr.cs_eq] at q1 q2 q3 q4
              clear hq hrm g4 ps hsn hn1 hn0
              go_upto_region 23 with fail
              go_cut [] (fun wx => Hid (wx = w11))
              case first =>
                go_region
                all_goals (go_wp2_with fail; go_meet; rfl)
              case rest =>
                have hcw := hcut.out
                subst hcw
                clear hcut p0 p1 p2 p3 p4 p5' p6' p7 p8 p9 p10 q1 q2 q3 q4
                have hl4 := HQ4.out
                by_cases hin : m ∈ thr'
                · have hn1 := HN1.out hin
                  have HG3 := Lib.hid (show foldX wires (l.drop (j' + 1)) thr' out' = foldX wires l thr out from by
                    have := HG.out
                    rw [if_pos hin] at this
                    exact this)
                  have HS12 := Lib.hid (show RSt wB wc (w2.heap.size + 1) (.slice pt' nt' ct') u9 thr' thr' out' (1 + 64 * k + j' + 1) from by
                    have := HST11.out
                    rwa [if_pos hin] at this)
                  clear hin HG hl4
                  go_wp2_with (first
                    | (refine wpList_load_H rfl _ rfl _ _ rfl m HRM11.out ?_)
                    | (refine wpList_lookup_run rfl 61 _ _ false rfl _ _ _ rfl rfl HQ4.out ?_))
                  go_roundw
                  case rel => exact ⟨j' + 1, thr', out', by omega, by go_num, HS12.out.mono (by omega), by omega, hk1, hthr', HG3.out, HLS11.out⟩
                  case measure => simp [intOf]; omega
                · have hn0 := HN0.out hin
                  subst hn0
                  have HS12 := Lib.hid (show RSt wB wc (w2.heap.size + 1) (.slice pt' nt' ct') u9 thr' (thr' ++ [m]) out' (1 + 64 * k + j' + 1) from by
                    have := HST11.out
                    rwa [if_neg hin] at this)
                  have HG3 := Lib.hid (show ((if thr'.length = 1024 then none else some (thr' ++ [m], out')).bind fun r => foldX wires (l.drop (j' + 1)) r.1 r.2) = foldX wires l thr out from by
                    have := HG.out
                    rw [if_neg hin] at this
                    exact this)
                  by_cases hfull : nt' = 1024
                  · have HE := Lib.hid (show foldX wires l thr out = none from by
                      rw [← HG3.out, if_pos (by rw [← HNT'.out]; exact hfull)]; rfl)
                    have HF := Lib.hid (show reachP t qs wires x = (200, []) from by
                      have h1 : reachN t wires 1025 0 [x] [] = (200, []) := by rw [← HN4.out, HE.out]
                      rw [HP2.out, h1, if_neg (by show ¬ (200 : Int) = 0; omega)])
                    clear hin HG hl4
                    go_wp2_with (first
                      | (refine wpList_load_H rfl _ rfl _ _ rfl m HRM11.out ?_)
                      | (refine wpList_lookup_run rfl 61 _ _ false rfl _ _ _ rfl rfl HQ4.out ?_))
                    go_ret2
                    exact ⟨⟨.slice none 0 0, by rw [HF.out]; rfl, by rw [HF.out]; exact ⟨none, 0, 0, rfl, rfl, .inl rfl⟩⟩, HX.out.trans HS12.out.ext⟩
                  · have HG4 := Lib.hid (show foldX wires (l.drop (j' + 1)) (thr' ++ [m]) out' = foldX wires l thr out from by
                      have := HG3.out
                      rw [if_neg (by rw [← HNT'.out]; exact hfull)] at this
                      exact this)
                    have HST9 := Lib.hid (HS12.out.more (Ext.alloc _ (.cells m.cs 24)))
                    have HLS9 := Lib.hid (HLS11.out.more (Ext.alloc _ (.cells m.cs 24)))
                    have hb9 : wB.heap.size ≤ (wc.alloc (.cells m.cs 24)).heap.size := HST9.out.ext.size
                    have hthr2 : thr'.length < 1024 := by have := HNT'.out; omega
                    clear hin HG HG3 hl4
                    go_wp2_with (first
                      | (refine wpList_load_H rfl _ rfl _ _ rfl m HRM11.out ?_)
                      | (refine wpList_lookup_run rfl 61 _ _ false rfl _ _ _ rfl rfl HQ4.out ?_)
                      | (refine wpList_one_H rfl _ rfl m rfl ?_)
                      | (at_builtin; refine wpList_append_H_at rfl _ _ rfl wB.heap.size (.slice pt' nt' ct') thr' rfl HST9.out.t _ m rfl (rangeAt_new _ _ _) (by omega) hb9 ?_; intro v' w' hown' hg' hat'))
                    go_roundw
                    case rel => exact ⟨j' + 1, thr' ++ [m], out', by omega, by go_num, (HST9.out.putThr hown' hg' hat').mono (by omega), by omega, by simp only [List.length_append, List.length_cons, List.length_nil]; omega, by simp only [List.length_append, List.length_cons, List.length_nil]; omega, HG4.out, HLS9.out.putThr hg' hat'⟩
                    case measure => simp [intOf]; omega
        · have HE := Lib.hid (show foldX wires l thr out = some (thr', out') from by
            rw [← hF.out, List.drop_of_length_le (by have := HN5.out; omega), foldX])
          have HN6 := Lib.hid (show reachN t wires (1025 - (k + 1)) (k + 1) thr' out' = reachN t wires 1025 0 [x] [] from by
            have := HN4.out
            rw [HE.out] at this
            rw [show 1025 - (k + 1) = 1024 - k by omega]
            exact this)
          clear hF
          go_wp2_with fail
          go_roundw
          case rel => exact ⟨k + 1, thr', out', hk1, hthr', by go_num, hst.out.mono (by omega), by omega, HN6.out⟩
          case measure => simp [intOf]; omega
    · have hnone : thr[k]? = none := List.getElem?_eq_none (by have := HNT.out; omega)
      have HR := Lib.hid (show reachN t wires 1025 0 [x] [] = (0, out) from by rw [← hN2, hnone])
      have HF := Lib.hid (show reachP t qs wires x = (0, dd (sortH out)) from by rw [HP2.out, HR.out, if_pos rfl])
      have HRI := Lib.hid (rising_any out u9 wB.heap.size wo hst.out.o (by omega))
      have HOB := Lib.hid (fun i (hi : u9.ownBlock = some i) => (hst.out.o.lt i hi).1)
      clear hN hN2 hnone
      go_wp2_with fail
      refine HRI.out.mono ?_
      rintro e w6 ⟨⟨v6, rfl, hs6⟩, hk6⟩
      have HS6 := Lib.hid hs6
      have HX6 := Lib.hid (hst.out.ext.andKeep hk6 (fun i hi => HOB.out i hi))
      clear hs6 hk6
      go_wp2_with fail
      go_ret2
      exact ⟨⟨v6, by rw [HF.out]; rfl, by rw [HF.out]; exact HS6.out.mono hwB⟩, HX.out.trans HX6.out⟩
end Go.Proofs.Ytddeelepaiklgaa
/- law 30's at, set. -/
namespace Go.Proofs.Ytddeelepaiklgaa
open Go.RowKit Go.Maps Go.Sort Go.Lib
set_option linter.unusedSimpArgs false

def hz30 : Hdr := Vector.replicate 11 0
def atH (a b : Int) : Hdr := ((hz30.put 2 2048).put 10 a).put 9 b
theorem atH_cs (a b : Int) (ha : 0 ≤ a ∧ a ≤ 100) (hb : 0 ≤ b ∧ b ≤ 100) : (atH a b).cs = #[.int .u64 0, .int .u64 0, .int .u64 2048, .int .u64 0, .int .u64 0, .int .u64 0, .int .u64 0, .int .u64 0, .int .u64 0, .int .u64 b, .int .u64 a] := by
  unfold atH
  rw [Hdr.cs_put _ _ _ ⟨hb.1, by omega⟩, Hdr.cs_put _ _ _ ⟨ha.1, by omega⟩, Hdr.cs_put _ _ _ ⟨by omega, by omega⟩]
  rfl
def setT (n : Int) : Tm := .mk 7 9 n []

set_option maxHeartbeats 1000000 in
set_option maxRecDepth 100000 in
theorem set_any (n : Int) (w : World) : Calls Try.prog 24 #[.int .u64 n] w fun e w' => e = .returned (.agg #[.int .i8 7, .int .i8 9, .int .u64 n, .slice none 0 0, .slice none 0 0]) ∧ Ext w w' := by
  go_enter Try.func24, Try.ntmps24
  go_wp2_with fail
  refine bodyPost_ret_by (v := .agg #[.int .i8 7, .int .i8 9, .int .u64 n, .slice none 0 0, .slice none 0 0]) ?_ rfl ⟨rfl, Ext.alloc _ _⟩
  exact results_cell_row rfl _ _ w.heap.size 34 _ _ _ rfl (heap_alloc_new w _) Try.underlying34 rfl (by kernel_rfl)
set_option maxHeartbeats 1000000 in
set_option maxRecDepth 100000 in
theorem at_any (a b : Int) (w : World) (ha : 0 ≤ a ∧ a ≤ 100) (hb : 0 ≤ b ∧ b ≤ 100) : Calls Try.prog 23 #[.int .u64 a, .int .u64 b] w fun e w' => e = .returned (.agg (atH a b).cs) ∧ Ext w w' := by
  rw [atH_cs a b ha hb]
  go_enter Try.func23, Try.ntmps23
  go_wp2_with fail
  refine bodyPost_ret_by (v := .agg #[.int .u64 0, .int .u64 0, .int .u64 2048, .int .u64 0, .int .u64 0, .int .u64 0, .int .u64 0, .int .u64 0, .int .u64 0, .int .u64 b, .int .u64 a]) ?_ rfl ⟨rfl, (Ext.alloc _ _).andAlloc _⟩
  exact results_cell_row rfl _ _ w.heap.size 24 _ (0, 0) _ rfl ((heap_alloc_old _ _ (by simp)).trans (heap_alloc_new w _)) Try.underlying24 rfl (by kernel_rfl)

theorem wk_hop1 : hopP (setT 2) [] (atH 1 1) [atH 1 2] = true := by kernel_rfl
theorem wk_hop2 : hopP (setT 3) [] (atH 1 1) [atH 1 2] = false := by kernel_rfl
theorem wk_hop3 : hopP (setT 2) [] (atH 1 1) [atH 1 2, atH 1 2] = false := by kernel_rfl
theorem wk_reach0 : reachN (setT 2) [⟨1, 2, 2, 1⟩] 1025 0 [atH 1 1] [] = (0, [atH 2 2]) := by kernel_rfl
theorem wk_check : checkP (setT 2) [] = 0 ∧ headE (atH 1 1) = 0 ∧ (atH 1 1).f 3 = 0 := by decide +kernel
theorem wk_trace : traceP [⟨0, 1, atH 1 1, [atH 1 2]⟩] [(setT 2, [])] = true := by kernel_rfl
theorem wk_reach : reachP (setT 2) [] [⟨1, 2, 2, 1⟩] (atH 1 1) = (0, [atH 2 2]) := by
  unfold reachP
  rw [if_pos wk_check.1, if_pos wk_check.2, wk_reach0, if_pos rfl, show sortH (0, [atH 2 2]).2 = [atH 2 2] from List.perm_singleton.1 (sortH_perm [atH 2 2])]
  rfl
theorem setT_val (n : Int) (hn : 0 ≤ n ∧ n ≤ 100) (W : World) : PVal W (setT n) [] (.agg #[.int .i8 7, .int .i8 9, .int .u64 n, .slice none 0 0, .slice none 0 0]) :=
  ⟨none, 0, 0, _, rfl, val_leaf (by omega) (by omega) (by omega), ⟨none, 0, 0, rfl, rfl, by omega, by omega, .inl rfl⟩⟩
end Go.Proofs.Ytddeelepaiklgaa
/- law 30's wakes. -/
namespace Go.Proofs.Ytddeelepaiklgaa
open Go.RowKit Go.Maps Go.Sort Go.Lib
set_option linter.unusedSimpArgs false

theorem at_lit (a b : Int) (w : World) (ha : 0 ≤ a ∧ a ≤ 100) (hb : 0 ≤ b ∧ b ≤ 100) : Calls Try.prog 23 #[.int .u64 a, .int .u64 b] w fun e w' => e = .returned (.agg #[.int .u64 0, .int .u64 0, .int .u64 2048, .int .u64 0, .int .u64 0, .int .u64 0, .int .u64 0, .int .u64 0, .int .u64 0, .int .u64 b, .int .u64 a]) ∧ Ext w w' := by
  have := at_any a b w ha hb
  rwa [atH_cs a b ha hb] at this
theorem hopCs_lit (s : Value) : hopCs 0 1 (atH 1 1) s = [.int .i64 0, .int .i64 1, .int .u64 0, .int .u64 0, .int .u64 2048, .int .u64 0, .int .u64 0, .int .u64 0, .int .u64 0, .int .u64 0, .int .u64 0, .int .u64 1, .int .u64 1, s] := by
  unfold hopCs
  rw [atH_cs 1 1 (by omega) (by omega)]
  rfl

set_option maxHeartbeats 8000000 in
set_option maxRecDepth 100000 in
theorem wakes30_any (w : World) : Calls Try.prog 9 #[] w fun e w' => e = .returned (.bool true) ∧ Ext w w' := by
  go_enter Try.func9, Try.ntmps9
  go_wp2_with fail
  refine (at_lit 1 1 w (by omega) (by omega)).mono ?_
  rintro e w1 ⟨rfl, hx1⟩
  go_wp2_with fail
  refine (at_lit 1 2 w1 (by omega) (by omega)).mono ?_
  rintro e w2 ⟨rfl, hx2⟩
  have HX2 := Lib.hid (hx1.trans hx2)
  clear hx1 hx2
  obtain ⟨w3, h3⟩ : ∃ W : World, w2.alloc (.cells #[.int .u64 0, .int .u64 0, .int .u64 2048, .int .u64 0, .int .u64 0, .int .u64 0, .int .u64 0, .int .u64 0, .int .u64 0, .int .u64 2, .int .u64 1] 24) = W := ⟨_, rfl⟩
  obtain ⟨w4, h4⟩ : ∃ W : World, w3.alloc (.cells #[.int .i64 0, .int .i64 1, .int .u64 0, .int .u64 0, .int .u64 2048, .int .u64 0, .int .u64 0, .int .u64 0, .int .u64 0, .int .u64 0, .int .u64 0, .int .u64 1, .int .u64 1, .slice (some ⟨w2.heap.size, 0, none⟩) 1 1] 27) = W := ⟨_, rfl⟩
  have s3 : w3.heap.size = w2.heap.size + 1 := by rw [← h3, World.size_alloc]
  have x3 : Ext w2 w3 := h3 ▸ Ext.alloc _ _
  have x4 : Ext w3 w4 := h4 ▸ Ext.alloc _ _
  have r3 : w3.rangeAt w2.heap.size 0 [.int .u64 0, .int .u64 0, .int .u64 2048, .int .u64 0, .int .u64 0, .int .u64 0, .int .u64 0, .int .u64 0, .int .u64 0, .int .u64 2, .int .u64 1] := by rw [← h3]; exact rangeAt_new w2 _ _
  have r4 : w4.rangeAt w3.heap.size 0 [.int .i64 0, .int .i64 1, .int .u64 0, .int .u64 0, .int .u64 2048, .int .u64 0, .int .u64 0, .int .u64 0, .int .u64 0, .int .u64 0, .int .u64 0, .int .u64 1, .int .u64 1, .slice (some ⟨w2.heap.size, 0, none⟩) 1 1] := by rw [← h4]; exact rangeAt_new w3 _ _
  have HR3 := Lib.hid (fun W (hW : Ext w4 W) => World.rangeAt.later (x4.trans hW).later r3)
  have HR4 := Lib.hid (fun W (hW : Ext w4 W) => World.rangeAt.later hW.later r4)
  have HX4 := Lib.hid (HX2.out.trans (x3.trans x4))
  have HE34 := Lib.hid (And.intro h3 h4)
  have HS3 := Lib.hid s3
  clear x3 x4 r3 r4 h3 h4 s3
  go_upto_region 2 with fail
  rw [HE34.out.1, HE34.out.2]
  clear HE34
  go_wp2_with fail
  refine (at_lit 1 1 w4 (by omega) (by omega)).mono ?_
  rintro e w5 ⟨rfl, hx5⟩
  go_wp2_with fail
  refine (at_lit 1 2 w5 (by omega) (by omega)).mono ?_
  rintro e w6 ⟨rfl, hx6⟩
  go_wp2_with fail
  refine (at_lit 1 2 w6 (by omega) (by omega)).mono ?_
  rintro e w7 ⟨rfl, hx7⟩
  have HX7 := Lib.hid (hx5.trans (hx6.trans hx7))
  clear hx5 hx6 hx7
  obtain ⟨w8, h8⟩ : ∃ W : World, w7.alloc (.cells #[.int .u64 0, .int .u64 0, .int .u64 2048, .int .u64 0, .int .u64 0, .int .u64 0, .int .u64 0, .int .u64 0, .int .u64 0, .int .u64 2, .int .u64 1, .int .u64 0, .int .u64 0, .int .u64 2048, .int .u64 0, .int .u64 0, .int .u64 0, .int .u64 0, .int .u64 0, .int .u64 0, .int .u64 2, .int .u64 1] 24) = W := ⟨_, rfl⟩
  obtain ⟨w9, h9⟩ : ∃ W : World, w8.alloc (.cells #[.int .i64 0, .int .i64 1, .int .u64 0, .int .u64 0, .int .u64 2048, .int .u64 0, .int .u64 0, .int .u64 0, .int .u64 0, .int .u64 0, .int .u64 0, .int .u64 1, .int .u64 1, .slice (some ⟨w7.heap.size, 0, none⟩) 2 2] 27) = W := ⟨_, rfl⟩
  have s8 : w8.heap.size = w7.heap.size + 1 := by rw [← h8, World.size_alloc]
  have x8 : Ext w7 w8 := h8 ▸ Ext.alloc _ _
  have x9 : Ext w8 w9 := h9 ▸ Ext.alloc _ _
  have r8 : w8.rangeAt w7.heap.size 0 [.int .u64 0, .int .u64 0, .int .u64 2048, .int .u64 0, .int .u64 0, .int .u64 0, .int .u64 0, .int .u64 0, .int .u64 0, .int .u64 2, .int .u64 1, .int .u64 0, .int .u64 0, .int .u64 2048, .int .u64 0, .int .u64 0, .int .u64 0, .int .u64 0, .int .u64 0, .int .u64 0, .int .u64 2, .int .u64 1] := by rw [← h8]; exact rangeAt_new w7 _ _
  have r9 : w9.rangeAt w8.heap.size 0 [.int .i64 0, .int .i64 1, .int .u64 0, .int .u64 0, .int .u64 2048, .int .u64 0, .int .u64 0, .int .u64 0, .int .u64 0, .int .u64 0, .int .u64 0, .int .u64 1, .int .u64 1, .slice (some ⟨w7.heap.size, 0, none⟩) 2 2] := by rw [← h9]; exact rangeAt_new w8 _ _
  have HR8 := Lib.hid (fun W (hW : Ext w9 W) => World.rangeAt.later (x9.trans hW).later r8)
  have HR9 := Lib.hid (fun W (hW : Ext w9 W) => World.rangeAt.later hW.later r9)
  have HX9 := Lib.hid (HX7.out.trans (x8.trans x9))
  have HE89 := Lib.hid (And.intro h8 h9)
  have HS8 := Lib.hid s8
  clear x8 x9 r8 r9 h8 h9 s8 HX7
  go_upto_region 3 with fail
  rw [HE89.out.1, HE89.out.2]
  clear HE89
  go_wp2_with fail
  refine (set_any 2 w9).mono ?_
  rintro e w10 ⟨rfl, hx10⟩
  obtain ⟨w11, h11⟩ : ∃ W : World, w10.alloc (.cells #[.int .u16 1, .int .u16 2, .int .u16 2, .int .u16 1] 60) = W := ⟨_, rfl⟩
  have x11 : Ext w10 w11 := h11 ▸ Ext.alloc _ _
  have r11 : w11.rangeAt w10.heap.size 0 [.int .u16 1, .int .u16 2, .int .u16 2, .int .u16 1] := by rw [← h11]; exact rangeAt_new w10 _ _
  have HR11 := Lib.hid r11
  have HX11 := Lib.hid (hx10.trans x11)
  have HE11 := Lib.hid h11
  clear hx10 x11 r11
  go_wp2_with fail
  try rw [HE11.out]
  refine (at_lit 1 1 w11 (by omega) (by omega)).mono ?_
  rintro e w12 ⟨rfl, hx12⟩
  have HX12 := Lib.hid (HX4.out.trans (HX9.out.trans (HX11.out.trans hx12)))
  have HRC := Lib.hid (show Calls Try.prog 15 #[.agg #[.int .i8 7, .int .i8 9, .int .u64 2, .slice none 0 0, .slice none 0 0], .slice (some ⟨w10.heap.size, 0, none⟩) 1 1, .agg #[.int .u64 0, .int .u64 0, .int .u64 2048, .int .u64 0, .int .u64 0, .int .u64 0, .int .u64 0, .int .u64 0, .int .u64 0, .int .u64 1, .int .u64 1]] w12 fun e w' => (∃ v, e = .returned (.tuple #[v, .int .i64 0]) ∧ HSl w' w12.heap.size [atH 2 2] v) ∧ Ext w12 w' from by
    have := reach_any (setT 2) [] [⟨1, 2, 2, 1⟩] (atH 1 1) _ (.slice (some ⟨w10.heap.size, 0, none⟩) 1 1) w12 (setT_val 2 (by omega) w12) ⟨some ⟨w10.heap.size, 0, none⟩, 1, 1, rfl, rfl, by omega, by omega, .inr ⟨w10.heap.size, 0, rfl, fun i hi => by
      obtain rfl : i = 0 := by simpa using hi
      exact ⟨World.rangeAt.later hx12.later HR11.out, by show (0:Int) ≤ 1 ∧ (1:Int) ≤ 65535; omega, by show (0:Int) ≤ 2 ∧ (2:Int) ≤ 65535; omega, by show (0:Int) ≤ 2 ∧ (2:Int) ≤ 65535; omega, by show (0:Int) ≤ 1 ∧ (1:Int) ≤ 65535; omega⟩⟩⟩
    rw [atH_cs 1 1 (by omega) (by omega), wk_reach] at this
    exact this)
  have hx12T := Lib.hid hx12
  clear h11 hx12
  go_wp2_with fail
  refine HRC.out.mono ?_
  rintro e w13 ⟨⟨v13, rfl, hv13⟩, hx13⟩
  have HX13 := Lib.hid (HX12.out.trans hx13)
  obtain ⟨pR, nR, cR, rfl, hnR, hR⟩ := hv13
  obtain rfl : nR = 1 := hnR
  rcases hR with hR | ⟨bR, oR, rfl, -, hR⟩
  · cases hR
  have HRR := Lib.hid (fun W (hW : Ext w13 W) => show W.rangeAt bR oR (atH 2 2).cs.toList from by
    have := World.rangeAt.later hW.later hR
    simpa [flatH] using this)
  have HX4T := Lib.hid (HX9.out.trans (HX11.out.trans (hx12T.out.trans hx13)))
  have HX9T := Lib.hid (HX11.out.trans (hx12T.out.trans hx13))
  clear hR hx13 HRC
  go_upto_region 4 with fail
  have hz0 : Ext w13 w13.drew := Ext.drew _
  have HB1 := Lib.hid (fun W (hW : Ext w13 W) => HR4.out W (HX4T.out.trans hW))
  have HB2 := Lib.hid (fun W (hW : Ext w13 W) => HR9.out W (HX9T.out.trans hW))
  have HSS := Lib.hid (fun W (hW : Ext w13 W) => (show (fun W => W.rangeAt (w2.heap.size + 1) 0 [.int .i64 0, .int .i64 1, .int .u64 0, .int .u64 0, .int .u64 2048, .int .u64 0, .int .u64 0, .int .u64 0, .int .u64 0, .int .u64 0, .int .u64 0, .int .u64 1, .int .u64 1, .slice (some ⟨w2.heap.size, 0, none⟩) 1 1] ∧ W.rangeAt (w7.heap.size + 1) 0 [.int .i64 0, .int .i64 1, .int .u64 0, .int .u64 0, .int .u64 2048, .int .u64 0, .int .u64 0, .int .u64 0, .int .u64 0, .int .u64 0, .int .u64 0, .int .u64 1, .int .u64 1, .slice (some ⟨w7.heap.size, 0, none⟩) 2 2] ∧ W.rangeAt bR oR (atH 2 2).cs.toList) W from ⟨by have := HB1.out W hW; rwa [HS3.out] at this, by have := HB2.out W hW; rwa [HS8.out] at this, HRR.out W hW⟩))
  have hu27 := Try.underlying27
  have hi27 : ∀ s : Value, (Try.prog.info? 27).map (·.size) = some [.int .i64 0, .int .i64 1, .int .u64 0, .int .u64 0, .int .u64 2048, .int .u64 0, .int .u64 0, .int .u64 0, .int .u64 0, .int .u64 0, .int .u64 0, .int .u64 1, .int .u64 1, s].length := fun s => by kernel_rfl
  have hu24 := Try.underlying24
  have hi24 : (Try.prog.info? 24).map (·.size) = some (atH 2 2).cs.toList.length := by rw [Hdr.len_cs]; kernel_rfl
  have HV1 := Lib.hid (fun W (hW : Ext w13 W) => show HopVal W 0 1 (atH 1 1) [atH 1 2] (.agg #[.int .i64 0, .int .i64 1, .int .u64 0, .int .u64 0, .int .u64 2048, .int .u64 0, .int .u64 0, .int .u64 0, .int .u64 0, .int .u64 0, .int .u64 0, .int .u64 1, .int .u64 1, .slice (some ⟨w2.heap.size, 0, none⟩) 1 1]) from
    ⟨.slice (some ⟨w2.heap.size, 0, none⟩) 1 1, by rw [hopCs_lit], ⟨_, _, _, rfl, rfl, .inr ⟨w2.heap.size, 0, rfl, Nat.zero_le _, by
      have := HR3.out W (HX4T.out.trans hW)
      simpa [flatH, atH_cs] using this⟩⟩, by simp⟩)
  have HV2 := Lib.hid (fun W (hW : Ext w13 W) => show HopVal W 0 1 (atH 1 1) [atH 1 2, atH 1 2] (.agg #[.int .i64 0, .int .i64 1, .int .u64 0, .int .u64 0, .int .u64 2048, .int .u64 0, .int .u64 0, .int .u64 0, .int .u64 0, .int .u64 0, .int .u64 0, .int .u64 1, .int .u64 1, .slice (some ⟨w7.heap.size, 0, none⟩) 2 2]) from
    ⟨.slice (some ⟨w7.heap.size, 0, none⟩) 2 2, by rw [hopCs_lit], ⟨_, _, _, rfl, rfl, .inr ⟨w7.heap.size, 0, rfl, Nat.zero_le _, by
      have := HR8.out W (HX9T.out.trans hW)
      simpa [flatH, atH_cs] using this⟩⟩, by simp⟩)
  have HH1 := Lib.hid (fun W (hW : Ext w13 W) => show Calls Try.prog 10 #[.agg #[.int .i64 0, .int .i64 1, .int .u64 0, .int .u64 0, .int .u64 2048, .int .u64 0, .int .u64 0, .int .u64 0, .int .u64 0, .int .u64 0, .int .u64 0, .int .u64 1, .int .u64 1, .slice (some ⟨w2.heap.size, 0, none⟩) 1 1], .agg #[.int .i8 7, .int .i8 9, .int .u64 2, .slice none 0 0, .slice none 0 0]] W fun e w' => e = .returned (.bool true) ∧ Ext W w' from by
    have := hop_any (setT 2) [] 0 1 (atH 1 1) [atH 1 2] _ _ W (HV1.out W hW) (setT_val 2 (by omega) W)
    rwa [wk_hop1] at this)
  have HH2 := Lib.hid (fun W (hW : Ext w13 W) => show Calls Try.prog 10 #[.agg #[.int .i64 0, .int .i64 1, .int .u64 0, .int .u64 0, .int .u64 2048, .int .u64 0, .int .u64 0, .int .u64 0, .int .u64 0, .int .u64 0, .int .u64 0, .int .u64 1, .int .u64 1, .slice (some ⟨w2.heap.size, 0, none⟩) 1 1], .agg #[.int .i8 7, .int .i8 9, .int .u64 3, .slice none 0 0, .slice none 0 0]] W fun e w' => e = .returned (.bool false) ∧ Ext W w' from by
    have := hop_any (setT 3) [] 0 1 (atH 1 1) [atH 1 2] _ _ W (HV1.out W hW) (setT_val 3 (by omega) W)
    rwa [wk_hop2] at this)
  have HH3 := Lib.hid (fun W (hW : Ext w13 W) => show Calls Try.prog 10 #[.agg #[.int .i64 0, .int .i64 1, .int .u64 0, .int .u64 0, .int .u64 2048, .int .u64 0, .int .u64 0, .int .u64 0, .int .u64 0, .int .u64 0, .int .u64 0, .int .u64 1, .int .u64 1, .slice (some ⟨w7.heap.size, 0, none⟩) 2 2], .agg #[.int .i8 7, .int .i8 9, .int .u64 2, .slice none 0 0, .slice none 0 0]] W fun e w' => e = .returned (.bool false) ∧ Ext W w' from by
    have := hop_any (setT 2) [] 0 1 (atH 1 1) [atH 1 2, atH 1 2] _ _ W (HV2.out W hW) (setT_val 2 (by omega) W)
    rwa [wk_hop3] at this)
  have HTR := Lib.hid (fun (bh bp : Nat) W (hW : Ext w13 W) (rh : W.rangeAt bh 0 [.int .i64 0, .int .i64 1, .int .u64 0, .int .u64 0, .int .u64 2048, .int .u64 0, .int .u64 0, .int .u64 0, .int .u64 0, .int .u64 0, .int .u64 0, .int .u64 1, .int .u64 1, .slice (some ⟨w2.heap.size, 0, none⟩) 1 1]) (rp : W.rangeAt bp 0 [.int .i8 7, .int .i8 9, .int .u64 2, .slice none 0 0, .slice none 0 0]) => show Calls Try.prog 13 #[.slice (some ⟨bh, 0, none⟩) 1 1, .slice (some ⟨bp, 0, none⟩) 1 1] W fun e w' => e = .returned (.bool true) ∧ Ext W w' from by
    have := trace_any [⟨0, 1, atH 1 1, [atH 1 2]⟩] [(setT 2, [])] (.slice (some ⟨bh, 0, none⟩) 1 1) (.slice (some ⟨bp, 0, none⟩) 1 1) W
      ⟨_, 1, 1, rfl, rfl, by omega, by omega, .inr ⟨bh, 0, rfl, fun i hi => by
        obtain rfl : i = 0 := by simpa using hi
        exact ⟨.slice (some ⟨w2.heap.size, 0, none⟩) 1 1, by show W.rangeAt bh (0 + 0 * 14) (hopCs 0 1 (atH 1 1) _); rw [hopCs_lit]; exact rh, (by
          obtain ⟨ov, he, hs, -⟩ := HV1.out W hW
          exact ⟨_, _, _, rfl, rfl, .inr ⟨w2.heap.size, 0, rfl, Nat.zero_le _, by
            have := HR3.out W (HX4T.out.trans hW)
            simpa [flatH, atH_cs] using this⟩⟩), by simp, by show (-9223372036854775808 : Int) ≤ 1; omega, by show (1 : Int) ≤ 9223372036854775807; omega⟩⟩⟩
      ⟨_, 1, 1, rfl, rfl, by omega, by omega, .inr ⟨bp, 0, rfl, fun i hi => by
        obtain rfl : i = 0 := by simpa using hi
        exact ⟨none, 0, 0, .slice none 0 0, rp, val_leaf (by omega) (by omega) (by omega), ⟨none, 0, 0, rfl, rfl, by omega, by omega, .inl rfl⟩⟩⟩⟩
    rwa [wk_trace] at this)
  have he : ∀ W, (Op.equalIn 10000 24 (.agg (atH 2 2).cs) (.agg (atH 2 2).cs)).run Try.prog W = .ok true W := fun W => by
    have := eqH (atH 2 2) (atH 2 2) W
    rwa [show decide (atH 2 2 = atH 2 2) = true from by simp] at this
  have hg := guardH
  have HAT := Lib.hid (fun W => at_any 2 2 W (by omega) (by omega))
  refine wp_region_noPanic ?_
  refine wp_region_held_drew (S := (fun W => W.rangeAt (w2.heap.size + 1) 0 [.int .i64 0, .int .i64 1, .int .u64 0, .int .u64 0, .int .u64 2048, .int .u64 0, .int .u64 0, .int .u64 0, .int .u64 0, .int .u64 0, .int .u64 0, .int .u64 1, .int .u64 1, .slice (some ⟨w2.heap.size, 0, none⟩) 1 1] ∧ W.rangeAt (w7.heap.size + 1) 0 [.int .i64 0, .int .i64 1, .int .u64 0, .int .u64 0, .int .u64 2048, .int .u64 0, .int .u64 0, .int .u64 0, .int .u64 0, .int .u64 0, .int .u64 0, .int .u64 1, .int .u64 1, .slice (some ⟨w7.heap.size, 0, none⟩) 2 2] ∧ W.rangeAt bR oR (atH 2 2).cs.toList)) (by kernel_rfl) (HSS.out _ hz0) (fun hHeld0 => ?_)
  refine wpAnyH_take (i := 0) (v := .agg #[.int .i64 0, .int .i64 1, .int .u64 0, .int .u64 0, .int .u64 2048, .int .u64 0, .int .u64 0, .int .u64 0, .int .u64 0, .int .u64 0, .int .u64 0, .int .u64 1, .int .u64 1, .slice (some ⟨w2.heap.size, 0, none⟩) 1 1]) rfl (by kernel_rfl) (by kernel_rfl) (by kernel_rfl) (fun _ _ _ h => h) ?_ (by assumption) ?_
  · try simp only [List.getElem_toArray, List.getElem_cons_zero, List.getElem_cons_succ]
    exact yieldsIf_load_mid (by rfl) _ _ rfl (w2.heap.size + 1) (0) rfl [.int .i64 0, .int .i64 1, .int .u64 0, .int .u64 0, .int .u64 2048, .int .u64 0, .int .u64 0, .int .u64 0, .int .u64 0, .int .u64 0, .int .u64 0, .int .u64 1, .int .u64 1, .slice (some ⟨w2.heap.size, 0, none⟩) 1 1] _ (fun w hSw => hSw.1) hu27 rfl (hi27 _)
  try simp only [List.getElem_toArray, List.getElem_cons_zero, List.getElem_cons_succ, Act.put, List.setIfInBounds_toArray, List.set_cons_zero, List.set_cons_succ, Array.toArray_toList]
  refine wpAnyH_ready (rs := [1]) (by kernel_rfl) (by simp) ?_
  refine AllReadyH.cons (i := 1) rfl (fun K hK => ?_) AllReadyH.nil
  go_simp
  go_at_call 24
  refine (set_any 2 _).mono ?_
  rintro e y1 ⟨rfl, hy1⟩
  have hz1 := hz0.trans hy1
  refine hK.out _ _ (HSS.out _ hz1) (fun hHeld1 => ?_)
  clear hK K hHeld0
  try simp only [List.getElem_toArray, List.getElem_cons_zero, List.getElem_cons_succ, Act.put, List.setIfInBounds_toArray, List.set_cons_zero, List.set_cons_succ, Array.toArray_toList]
  refine wpAnyH_ready (rs := [2]) (by kernel_rfl) (by simp) ?_
  refine AllReadyH.cons (i := 2) rfl (fun K hK => ?_) AllReadyH.nil
  go_simp
  go_at_call 10
  refine (HH1.out _ hz1).mono ?_
  rintro e y2 ⟨rfl, hy2⟩
  have hz2 := hz1.trans hy2
  refine hK.out _ _ (HSS.out _ hz2) (fun hHeld2 => ?_)
  clear hK K hHeld1
  try simp only [List.getElem_toArray, List.getElem_cons_zero, List.getElem_cons_succ, Act.put, List.setIfInBounds_toArray, List.set_cons_zero, List.set_cons_succ, Array.toArray_toList]
  refine wpAnyH_take (i := 3) (v := .bool true) rfl (by kernel_rfl) (by kernel_rfl) (by kernel_rfl) (fun _ _ _ h => h) (Or.inl ⟨by rfl, by (intro w hSw; (try dsimp only at hSw); go_simp)⟩) (by assumption) ?_
  try simp only [List.getElem_toArray, List.getElem_cons_zero, List.getElem_cons_succ, Act.put, List.setIfInBounds_toArray, List.set_cons_zero, List.set_cons_succ, Array.toArray_toList]
  refine wpAnyH_take (i := 4) (v := .agg #[.int .i64 0, .int .i64 1, .int .u64 0, .int .u64 0, .int .u64 2048, .int .u64 0, .int .u64 0, .int .u64 0, .int .u64 0, .int .u64 0, .int .u64 0, .int .u64 1, .int .u64 1, .slice (some ⟨w2.heap.size, 0, none⟩) 1 1]) rfl (by kernel_rfl) (by kernel_rfl) (by kernel_rfl) (fun _ _ _ h => h) ?_ (by assumption) ?_
  · try simp only [List.getElem_toArray, List.getElem_cons_zero, List.getElem_cons_succ]
    exact yieldsIf_load_mid (by rfl) _ _ rfl (w2.heap.size + 1) (0) rfl [.int .i64 0, .int .i64 1, .int .u64 0, .int .u64 0, .int .u64 2048, .int .u64 0, .int .u64 0, .int .u64 0, .int .u64 0, .int .u64 0, .int .u64 0, .int .u64 1, .int .u64 1, .slice (some ⟨w2.heap.size, 0, none⟩) 1 1] _ (fun w hSw => hSw.1) hu27 rfl (hi27 _)
  try simp only [List.getElem_toArray, List.getElem_cons_zero, List.getElem_cons_succ, Act.put, List.setIfInBounds_toArray, List.set_cons_zero, List.set_cons_succ, Array.toArray_toList]
  refine wpAnyH_ready (rs := [5]) (by kernel_rfl) (by simp) ?_
  refine AllReadyH.cons (i := 5) rfl (fun K hK => ?_) AllReadyH.nil
  go_simp
  go_at_call 24
  refine (set_any 3 _).mono ?_
  rintro e y3 ⟨rfl, hy3⟩
  have hz3 := hz2.trans hy3
  refine hK.out _ _ (HSS.out _ hz3) (fun hHeld3 => ?_)
  clear hK K hHeld2
  try simp only [List.getElem_toArray, List.getElem_cons_zero, List.getElem_cons_succ, Act.put, List.setIfInBounds_toArray, List.set_cons_zero, List.set_cons_succ, Array.toArray_toList]
  refine wpAnyH_ready (rs := [6]) (by kernel_rfl) (by simp) ?_
  refine AllReadyH.cons (i := 6) rfl (fun K hK => ?_) AllReadyH.nil
  go_simp
  go_at_call 10
  refine (HH2.out _ hz3).mono ?_
  rintro e y4 ⟨rfl, hy4⟩
  have hz4 := hz3.trans hy4
  refine hK.out _ _ (HSS.out _ hz4) (fun hHeld4 => ?_)
  clear hK K hHeld3
  try simp only [List.getElem_toArray, List.getElem_cons_zero, List.getElem_cons_succ, Act.put, List.setIfInBounds_toArray, List.set_cons_zero, List.set_cons_succ, Array.toArray_toList]
  refine wpAnyH_take (i := 7) (v := .bool true) rfl (by kernel_rfl) (by kernel_rfl) (by kernel_rfl) (fun _ _ _ h => h) (Or.inl ⟨by rfl, by (intro w hSw; (try dsimp only at hSw); go_simp)⟩) (by assumption) ?_
  try simp only [List.getElem_toArray, List.getElem_cons_zero, List.getElem_cons_succ, Act.put, List.setIfInBounds_toArray, List.set_cons_zero, List.set_cons_succ, Array.toArray_toList]
  refine wpAnyH_take (i := 8) (v := .bool true) rfl (by kernel_rfl) (by kernel_rfl) (by kernel_rfl) (fun _ _ _ h => h) (Or.inl ⟨by rfl, by (intro w hSw; (try dsimp only at hSw); go_simp)⟩) (by assumption) ?_
  try simp only [List.getElem_toArray, List.getElem_cons_zero, List.getElem_cons_succ, Act.put, List.setIfInBounds_toArray, List.set_cons_zero, List.set_cons_succ, Array.toArray_toList]
  refine wpAnyH_take (i := 9) (v := .bool true) rfl (by kernel_rfl) (by kernel_rfl) (by kernel_rfl) (fun _ _ _ h => h) (Or.inl ⟨by rfl, by (intro w hSw; (try dsimp only at hSw); go_simp)⟩) (by assumption) ?_
  try simp only [List.getElem_toArray, List.getElem_cons_zero, List.getElem_cons_succ, Act.put, List.setIfInBounds_toArray, List.set_cons_zero, List.set_cons_succ, Array.toArray_toList]
  refine wpAnyH_take (i := 10) (v := .agg #[.int .i64 0, .int .i64 1, .int .u64 0, .int .u64 0, .int .u64 2048, .int .u64 0, .int .u64 0, .int .u64 0, .int .u64 0, .int .u64 0, .int .u64 0, .int .u64 1, .int .u64 1, .slice (some ⟨w7.heap.size, 0, none⟩) 2 2]) rfl (by kernel_rfl) (by kernel_rfl) (by kernel_rfl) (fun _ _ _ h => h) ?_ (by assumption) ?_
  · try simp only [List.getElem_toArray, List.getElem_cons_zero, List.getElem_cons_succ]
    exact yieldsIf_load_mid (by rfl) _ _ rfl (w7.heap.size + 1) (0) rfl [.int .i64 0, .int .i64 1, .int .u64 0, .int .u64 0, .int .u64 2048, .int .u64 0, .int .u64 0, .int .u64 0, .int .u64 0, .int .u64 0, .int .u64 0, .int .u64 1, .int .u64 1, .slice (some ⟨w7.heap.size, 0, none⟩) 2 2] _ (fun w hSw => hSw.2.1) hu27 rfl (hi27 _)
  try simp only [List.getElem_toArray, List.getElem_cons_zero, List.getElem_cons_succ, Act.put, List.setIfInBounds_toArray, List.set_cons_zero, List.set_cons_succ, Array.toArray_toList]
  refine wpAnyH_ready (rs := [11]) (by kernel_rfl) (by simp) ?_
  refine AllReadyH.cons (i := 11) rfl (fun K hK => ?_) AllReadyH.nil
  go_simp
  go_at_call 24
  refine (set_any 2 _).mono ?_
  rintro e y5 ⟨rfl, hy5⟩
  have hz5 := hz4.trans hy5
  refine hK.out _ _ (HSS.out _ hz5) (fun hHeld5 => ?_)
  clear hK K hHeld4
  try simp only [List.getElem_toArray, List.getElem_cons_zero, List.getElem_cons_succ, Act.put, List.setIfInBounds_toArray, List.set_cons_zero, List.set_cons_succ, Array.toArray_toList]
  refine wpAnyH_ready (rs := [12]) (by kernel_rfl) (by simp) ?_
  refine AllReadyH.cons (i := 12) rfl (fun K hK => ?_) AllReadyH.nil
  go_simp
  go_at_call 10
  refine (HH3.out _ hz5).mono ?_
  rintro e y6 ⟨rfl, hy6⟩
  have hz6 := hz5.trans hy6
  refine hK.out _ _ (HSS.out _ hz6) (fun hHeld6 => ?_)
  clear hK K hHeld5
  try simp only [List.getElem_toArray, List.getElem_cons_zero, List.getElem_cons_succ, Act.put, List.setIfInBounds_toArray, List.set_cons_zero, List.set_cons_succ, Array.toArray_toList]
  refine wpAnyH_take (i := 13) (v := .bool true) rfl (by kernel_rfl) (by kernel_rfl) (by kernel_rfl) (fun _ _ _ h => h) (Or.inl ⟨by rfl, by (intro w hSw; (try dsimp only at hSw); go_simp)⟩) (by assumption) ?_
  try simp only [List.getElem_toArray, List.getElem_cons_zero, List.getElem_cons_succ, Act.put, List.setIfInBounds_toArray, List.set_cons_zero, List.set_cons_succ, Array.toArray_toList]
  refine wpAnyH_take (i := 14) (v := .bool true) rfl (by kernel_rfl) (by kernel_rfl) (by kernel_rfl) (fun _ _ _ h => h) (Or.inl ⟨by rfl, by (intro w hSw; (try dsimp only at hSw); go_simp)⟩) (by assumption) ?_
  try simp only [List.getElem_toArray, List.getElem_cons_zero, List.getElem_cons_succ, Act.put, List.setIfInBounds_toArray, List.set_cons_zero, List.set_cons_succ, Array.toArray_toList]
  refine wpAnyH_take (i := 15) (v := .bool true) rfl (by kernel_rfl) (by kernel_rfl) (by kernel_rfl) (fun _ _ _ h => h) (Or.inl ⟨by rfl, by (intro w hSw; (try dsimp only at hSw); go_simp)⟩) (by assumption) ?_
  try simp only [List.getElem_toArray, List.getElem_cons_zero, List.getElem_cons_succ, Act.put, List.setIfInBounds_toArray, List.set_cons_zero, List.set_cons_succ, Array.toArray_toList]
  refine wpAnyH_take (i := 16) (v := .agg #[.int .i64 0, .int .i64 1, .int .u64 0, .int .u64 0, .int .u64 2048, .int .u64 0, .int .u64 0, .int .u64 0, .int .u64 0, .int .u64 0, .int .u64 0, .int .u64 1, .int .u64 1, .slice (some ⟨w2.heap.size, 0, none⟩) 1 1]) rfl (by kernel_rfl) (by kernel_rfl) (by kernel_rfl) (fun _ _ _ h => h) ?_ (by assumption) ?_
  · try simp only [List.getElem_toArray, List.getElem_cons_zero, List.getElem_cons_succ]
    exact yieldsIf_load_mid (by rfl) _ _ rfl (w2.heap.size + 1) (0) rfl [.int .i64 0, .int .i64 1, .int .u64 0, .int .u64 0, .int .u64 2048, .int .u64 0, .int .u64 0, .int .u64 0, .int .u64 0, .int .u64 0, .int .u64 0, .int .u64 1, .int .u64 1, .slice (some ⟨w2.heap.size, 0, none⟩) 1 1] _ (fun w hSw => hSw.1) hu27 rfl (hi27 _)
  try simp only [List.getElem_toArray, List.getElem_cons_zero, List.getElem_cons_succ, Act.put, List.setIfInBounds_toArray, List.set_cons_zero, List.set_cons_succ, Array.toArray_toList]
  refine wpAnyH_ready (rs := [17, 18]) (by kernel_rfl) (by simp) ?_
  refine AllReadyH.cons (i := 17) rfl (fun K hK => ?_) (AllReadyH.cons (i := 18) rfl (fun K hK => ?_) AllReadyH.nil)
  · skip
    go_simp
    have hz7 := hz6.andAlloc (.cells #[.int .i64 0, .int .i64 1, .int .u64 0, .int .u64 0, .int .u64 2048, .int .u64 0, .int .u64 0, .int .u64 0, .int .u64 0, .int .u64 0, .int .u64 0, .int .u64 1, .int .u64 1, .slice (some ⟨w2.heap.size, 0, none⟩) 1 1] 27)
    refine hK.out _ _ (HSS.out _ hz7) (fun hHeld7 => ?_)
    clear hK K hHeld6
    try simp only [List.getElem_toArray, List.getElem_cons_zero, List.getElem_cons_succ, Act.put, List.setIfInBounds_toArray, List.set_cons_zero, List.set_cons_succ, Array.toArray_toList]
    refine wpAnyH_ready (rs := [18]) (by kernel_rfl) (by simp) ?_
    refine AllReadyH.cons (i := 18) rfl (fun K hK => ?_) AllReadyH.nil
    go_simp
    go_at_call 24
    refine (set_any 2 _).mono ?_
    rintro e y8 ⟨rfl, hy8⟩
    have hz8 := hz7.trans hy8
    refine hK.out _ _ (HSS.out _ hz8) (fun hHeld8 => ?_)
    clear hK K hHeld7
    try simp only [List.getElem_toArray, List.getElem_cons_zero, List.getElem_cons_succ, Act.put, List.setIfInBounds_toArray, List.set_cons_zero, List.set_cons_succ, Array.toArray_toList]
    refine wpAnyH_ready (rs := [19]) (by kernel_rfl) (by simp) ?_
    refine AllReadyH.cons (i := 19) rfl (fun K hK => ?_) AllReadyH.nil
    go_simp
    have hz9 := hz8.andAlloc (.cells #[.int .i8 7, .int .i8 9, .int .u64 2, .slice none 0 0, .slice none 0 0] 34)
    refine hK.out _ _ (HSS.out _ hz9) (fun hHeld9 => ?_)
    clear hK K hHeld8
    try simp only [List.getElem_toArray, List.getElem_cons_zero, List.getElem_cons_succ, Act.put, List.setIfInBounds_toArray, List.set_cons_zero, List.set_cons_succ, Array.toArray_toList]
    refine wpAnyH_ready (rs := [20]) (by kernel_rfl) (by simp) ?_
    refine AllReadyH.cons (i := 20) rfl (fun K hK => ?_) AllReadyH.nil
    go_simp
    go_at_call 13
    refine (HTR.out (y6.heap.size) (y8.heap.size) _ hz9 (World.rangeAt.later (hy8.andAlloc _).later (rangeAt_new _ _ _)) (rangeAt_new _ _ _)).mono ?_
    rintro e y10 ⟨rfl, hy10⟩
    have hz10 := hz9.trans hy10
    refine hK.out _ _ (HSS.out _ hz10) (fun hHeld10 => ?_)
    clear hK K hHeld9
    try simp only [List.getElem_toArray, List.getElem_cons_zero, List.getElem_cons_succ, Act.put, List.setIfInBounds_toArray, List.set_cons_zero, List.set_cons_succ, Array.toArray_toList]
    refine wpAnyH_take (i := 21) (v := .bool true) rfl (by kernel_rfl) (by kernel_rfl) (by kernel_rfl) (fun _ _ _ h => h) (Or.inl ⟨by rfl, by (intro w hSw; (try dsimp only at hSw); go_simp)⟩) (by assumption) ?_
    try simp only [List.getElem_toArray, List.getElem_cons_zero, List.getElem_cons_succ, Act.put, List.setIfInBounds_toArray, List.set_cons_zero, List.set_cons_succ, Array.toArray_toList]
    refine wpAnyH_take (i := 22) (v := .bool true) rfl (by kernel_rfl) (by kernel_rfl) (by kernel_rfl) (fun _ _ _ h => h) (Or.inl ⟨by rfl, by (intro w hSw; (try dsimp only at hSw); go_simp)⟩) (by assumption) ?_
    try simp only [List.getElem_toArray, List.getElem_cons_zero, List.getElem_cons_succ, Act.put, List.setIfInBounds_toArray, List.set_cons_zero, List.set_cons_succ, Array.toArray_toList]
    refine wpAnyH_take (i := 23) (v := .int .i64 0) rfl (by kernel_rfl) (by kernel_rfl) (by kernel_rfl) (fun _ _ _ h => h) (Or.inl ⟨by rfl, by (intro w hSw; (try dsimp only at hSw); go_simp)⟩) (by assumption) ?_
    try simp only [List.getElem_toArray, List.getElem_cons_zero, List.getElem_cons_succ, Act.put, List.setIfInBounds_toArray, List.set_cons_zero, List.set_cons_succ, Array.toArray_toList]
    refine wpAnyH_take (i := 24) (v := .bool true) rfl (by kernel_rfl) (by kernel_rfl) (by kernel_rfl) (fun _ _ _ h => h) (Or.inl ⟨by rfl, by (intro w hSw; (try dsimp only at hSw); go_simp)⟩) (by assumption) ?_
    try simp only [List.getElem_toArray, List.getElem_cons_zero, List.getElem_cons_succ, Act.put, List.setIfInBounds_toArray, List.set_cons_zero, List.set_cons_succ, Array.toArray_toList]
    refine wpAnyH_take (i := 25) (v := .bool true) rfl (by kernel_rfl) (by kernel_rfl) (by kernel_rfl) (fun _ _ _ h => h) (Or.inl ⟨by rfl, by (intro w hSw; (try dsimp only at hSw); go_simp)⟩) (by assumption) ?_
    try simp only [List.getElem_toArray, List.getElem_cons_zero, List.getElem_cons_succ, Act.put, List.setIfInBounds_toArray, List.set_cons_zero, List.set_cons_succ, Array.toArray_toList]
    refine wpAnyH_take (i := 26) (v := .bool true) rfl (by kernel_rfl) (by kernel_rfl) (by kernel_rfl) (fun _ _ _ h => h) (Or.inl ⟨by rfl, by (intro w hSw; (try dsimp only at hSw); go_simp)⟩) (by assumption) ?_
    try simp only [List.getElem_toArray, List.getElem_cons_zero, List.getElem_cons_succ, Act.put, List.setIfInBounds_toArray, List.set_cons_zero, List.set_cons_succ, Array.toArray_toList]
    refine wpAnyH_take (i := 27) (v := .slice (some ⟨bR, oR, none⟩) 1 cR) rfl (by kernel_rfl) (by kernel_rfl) (by kernel_rfl) (fun _ _ _ h => h) (Or.inl ⟨by rfl, by (intro w hSw; (try dsimp only at hSw); go_simp)⟩) (by assumption) ?_
    try simp only [List.getElem_toArray, List.getElem_cons_zero, List.getElem_cons_succ, Act.put, List.setIfInBounds_toArray, List.set_cons_zero, List.set_cons_succ, Array.toArray_toList]
    refine wpAnyH_take (i := 28) (v := .int .i64 1) rfl (by kernel_rfl) (by kernel_rfl) (by kernel_rfl) (fun _ _ _ h => h) (Or.inl ⟨by rfl, by (intro w hSw; (try dsimp only at hSw); go_simp)⟩) (by assumption) ?_
    try simp only [List.getElem_toArray, List.getElem_cons_zero, List.getElem_cons_succ, Act.put, List.setIfInBounds_toArray, List.set_cons_zero, List.set_cons_succ, Array.toArray_toList]
    refine wpAnyH_take (i := 29) (v := .bool true) rfl (by kernel_rfl) (by kernel_rfl) (by kernel_rfl) (fun _ _ _ h => h) (Or.inl ⟨by rfl, by (intro w hSw; (try dsimp only at hSw); go_simp)⟩) (by assumption) ?_
    try simp only [List.getElem_toArray, List.getElem_cons_zero, List.getElem_cons_succ, Act.put, List.setIfInBounds_toArray, List.set_cons_zero, List.set_cons_succ, Array.toArray_toList]
    refine wpAnyH_take (i := 30) (v := .bool true) rfl (by kernel_rfl) (by kernel_rfl) (by kernel_rfl) (fun _ _ _ h => h) (Or.inl ⟨by rfl, by (intro w hSw; (try dsimp only at hSw); go_simp)⟩) (by assumption) ?_
    try simp only [List.getElem_toArray, List.getElem_cons_zero, List.getElem_cons_succ, Act.put, List.setIfInBounds_toArray, List.set_cons_zero, List.set_cons_succ, Array.toArray_toList]
    refine wpAnyH_take (i := 31) (v := .bool true) rfl (by kernel_rfl) (by kernel_rfl) (by kernel_rfl) (fun _ _ _ h => h) (Or.inl ⟨by rfl, by (intro w hSw; (try dsimp only at hSw); go_simp)⟩) (by assumption) ?_
    try simp only [List.getElem_toArray, List.getElem_cons_zero, List.getElem_cons_succ, Act.put, List.setIfInBounds_toArray, List.set_cons_zero, List.set_cons_succ, Array.toArray_toList]
    refine wpAnyH_take (i := 32) (v := .slice (some ⟨bR, oR, none⟩) 1 cR) rfl (by kernel_rfl) (by kernel_rfl) (by kernel_rfl) (fun _ _ _ h => h) (Or.inl ⟨by rfl, by (intro w hSw; (try dsimp only at hSw); go_simp)⟩) (by assumption) ?_
    try simp only [List.getElem_toArray, List.getElem_cons_zero, List.getElem_cons_succ, Act.put, List.setIfInBounds_toArray, List.set_cons_zero, List.set_cons_succ, Array.toArray_toList]
    refine wpAnyH_take (i := 33) (v := .pointer (some ⟨bR, oR, none⟩)) rfl (by kernel_rfl) (by kernel_rfl) (by kernel_rfl) (fun _ _ _ h => h) (Or.inl ⟨by rfl, by (intro w hSw; (try dsimp only at hSw); go_simp)⟩) (by assumption) ?_
    try simp only [List.getElem_toArray, List.getElem_cons_zero, List.getElem_cons_succ, Act.put, List.setIfInBounds_toArray, List.set_cons_zero, List.set_cons_succ, Array.toArray_toList]
    refine wpAnyH_take (i := 34) (v := .agg (atH 2 2).cs.toList.toArray) rfl (by kernel_rfl) (by kernel_rfl) (by kernel_rfl) (fun _ _ _ h => h) ?_ (by assumption) ?_
    · try simp only [List.getElem_toArray, List.getElem_cons_zero, List.getElem_cons_succ]
      exact yieldsIf_load_mid (by rfl) _ _ rfl (bR) (oR) rfl (atH 2 2).cs.toList _ (fun w hSw => hSw.2.2) hu24 rfl hi24
    try simp only [List.getElem_toArray, List.getElem_cons_zero, List.getElem_cons_succ, Act.put, List.setIfInBounds_toArray, List.set_cons_zero, List.set_cons_succ, Array.toArray_toList]
    refine wpAnyH_ready (rs := [35]) (by kernel_rfl) (by simp) ?_
    refine AllReadyH.cons (i := 35) rfl (fun K hK => ?_) AllReadyH.nil
    go_simp
    go_at_call 23
    refine (HAT.out _).mono ?_
    rintro e y11 ⟨rfl, hy11⟩
    have hz11 := hz10.trans hy11
    refine hK.out _ _ (HSS.out _ hz11) (fun hHeld11 => ?_)
    clear hK K hHeld10
    try simp only [List.getElem_toArray, List.getElem_cons_zero, List.getElem_cons_succ, Act.put, List.setIfInBounds_toArray, List.set_cons_zero, List.set_cons_succ, Array.toArray_toList]
    refine wpAnyH_take (i := 36) (v := .bool true) rfl (by kernel_rfl) (by kernel_rfl) (by kernel_rfl) (fun _ _ _ h => h) (Or.inl ⟨by rfl, by (intro w hSw; (try dsimp only at hSw); go_simp)⟩) (by assumption) ?_
    try simp only [List.getElem_toArray, List.getElem_cons_zero, List.getElem_cons_succ, Act.put, List.setIfInBounds_toArray, List.set_cons_zero, List.set_cons_succ, Array.toArray_toList]
    refine wpAnyH_take (i := 37) (v := .bool true) rfl (by kernel_rfl) (by kernel_rfl) (by kernel_rfl) (fun _ _ _ h => h) (Or.inl ⟨by rfl, by (intro w hSw; (try dsimp only at hSw); go_simp)⟩) (by assumption) ?_
    try simp only [List.getElem_toArray, List.getElem_cons_zero, List.getElem_cons_succ, Act.put, List.setIfInBounds_toArray, List.set_cons_zero, List.set_cons_succ, Array.toArray_toList]
    refine wpAnyH_take (i := 38) (v := .bool true) rfl (by kernel_rfl) (by kernel_rfl) (by kernel_rfl) (fun _ _ _ h => h) (Or.inl ⟨by rfl, by (intro w hSw; (try dsimp only at hSw); go_simp)⟩) (by assumption) ?_
    try simp only [List.getElem_toArray, List.getElem_cons_zero, List.getElem_cons_succ, Act.put, List.setIfInBounds_toArray, List.set_cons_zero, List.set_cons_succ, Array.toArray_toList]
    refine wpAnyH_done (by kernel_rfl) ?_ _
    refine NoPanic.normal ?_
    go_wp2_with fail
    go_ret
    exact ⟨rfl, HX13.out.trans hz11⟩
  · skip
    go_simp
    go_at_call 24
    refine (set_any 2 _).mono ?_
    rintro e y7 ⟨rfl, hy7⟩
    have hz7 := hz6.trans hy7
    refine hK.out _ _ (HSS.out _ hz7) (fun hHeld7 => ?_)
    clear hK K hHeld6
    try simp only [List.getElem_toArray, List.getElem_cons_zero, List.getElem_cons_succ, Act.put, List.setIfInBounds_toArray, List.set_cons_zero, List.set_cons_succ, Array.toArray_toList]
    refine wpAnyH_ready (rs := [17, 19]) (by kernel_rfl) (by simp) ?_
    refine AllReadyH.cons (i := 17) rfl (fun K hK => ?_) (AllReadyH.cons (i := 19) rfl (fun K hK => ?_) AllReadyH.nil)
    · skip
      go_simp
      have hz8 := hz7.andAlloc (.cells #[.int .i64 0, .int .i64 1, .int .u64 0, .int .u64 0, .int .u64 2048, .int .u64 0, .int .u64 0, .int .u64 0, .int .u64 0, .int .u64 0, .int .u64 0, .int .u64 1, .int .u64 1, .slice (some ⟨w2.heap.size, 0, none⟩) 1 1] 27)
      refine hK.out _ _ (HSS.out _ hz8) (fun hHeld8 => ?_)
      clear hK K hHeld7
      try simp only [List.getElem_toArray, List.getElem_cons_zero, List.getElem_cons_succ, Act.put, List.setIfInBounds_toArray, List.set_cons_zero, List.set_cons_succ, Array.toArray_toList]
      refine wpAnyH_ready (rs := [19]) (by kernel_rfl) (by simp) ?_
      refine AllReadyH.cons (i := 19) rfl (fun K hK => ?_) AllReadyH.nil
      go_simp
      have hz9 := hz8.andAlloc (.cells #[.int .i8 7, .int .i8 9, .int .u64 2, .slice none 0 0, .slice none 0 0] 34)
      refine hK.out _ _ (HSS.out _ hz9) (fun hHeld9 => ?_)
      clear hK K hHeld8
      try simp only [List.getElem_toArray, List.getElem_cons_zero, List.getElem_cons_succ, Act.put, List.setIfInBounds_toArray, List.set_cons_zero, List.set_cons_succ, Array.toArray_toList]
      refine wpAnyH_ready (rs := [20]) (by kernel_rfl) (by simp) ?_
      refine AllReadyH.cons (i := 20) rfl (fun K hK => ?_) AllReadyH.nil
      go_simp
      go_at_call 13
      refine (HTR.out (y7.heap.size) (y7.heap.size + 1) _ hz9 (World.rangeAt.later (Ext.alloc _ _).later (rangeAt_new _ _ _)) (by have := rangeAt_new (y7.alloc (.cells #[.int .i64 0, .int .i64 1, .int .u64 0, .int .u64 0, .int .u64 2048, .int .u64 0, .int .u64 0, .int .u64 0, .int .u64 0, .int .u64 0, .int .u64 0, .int .u64 1, .int .u64 1, .slice (some ⟨w2.heap.size, 0, none⟩) 1 1] 27)) #[.int .i8 7, .int .i8 9, .int .u64 2, .slice none 0 0, .slice none 0 0] 34; rwa [World.size_alloc] at this)).mono ?_
      rintro e y10 ⟨rfl, hy10⟩
      have hz10 := hz9.trans hy10
      refine hK.out _ _ (HSS.out _ hz10) (fun hHeld10 => ?_)
      clear hK K hHeld9
      try simp only [List.getElem_toArray, List.getElem_cons_zero, List.getElem_cons_succ, Act.put, List.setIfInBounds_toArray, List.set_cons_zero, List.set_cons_succ, Array.toArray_toList]
      refine wpAnyH_take (i := 21) (v := .bool true) rfl (by kernel_rfl) (by kernel_rfl) (by kernel_rfl) (fun _ _ _ h => h) (Or.inl ⟨by rfl, by (intro w hSw; (try dsimp only at hSw); go_simp)⟩) (by assumption) ?_
      try simp only [List.getElem_toArray, List.getElem_cons_zero, List.getElem_cons_succ, Act.put, List.setIfInBounds_toArray, List.set_cons_zero, List.set_cons_succ, Array.toArray_toList]
      refine wpAnyH_take (i := 22) (v := .bool true) rfl (by kernel_rfl) (by kernel_rfl) (by kernel_rfl) (fun _ _ _ h => h) (Or.inl ⟨by rfl, by (intro w hSw; (try dsimp only at hSw); go_simp)⟩) (by assumption) ?_
      try simp only [List.getElem_toArray, List.getElem_cons_zero, List.getElem_cons_succ, Act.put, List.setIfInBounds_toArray, List.set_cons_zero, List.set_cons_succ, Array.toArray_toList]
      refine wpAnyH_take (i := 23) (v := .int .i64 0) rfl (by kernel_rfl) (by kernel_rfl) (by kernel_rfl) (fun _ _ _ h => h) (Or.inl ⟨by rfl, by (intro w hSw; (try dsimp only at hSw); go_simp)⟩) (by assumption) ?_
      try simp only [List.getElem_toArray, List.getElem_cons_zero, List.getElem_cons_succ, Act.put, List.setIfInBounds_toArray, List.set_cons_zero, List.set_cons_succ, Array.toArray_toList]
      refine wpAnyH_take (i := 24) (v := .bool true) rfl (by kernel_rfl) (by kernel_rfl) (by kernel_rfl) (fun _ _ _ h => h) (Or.inl ⟨by rfl, by (intro w hSw; (try dsimp only at hSw); go_simp)⟩) (by assumption) ?_
      try simp only [List.getElem_toArray, List.getElem_cons_zero, List.getElem_cons_succ, Act.put, List.setIfInBounds_toArray, List.set_cons_zero, List.set_cons_succ, Array.toArray_toList]
      refine wpAnyH_take (i := 25) (v := .bool true) rfl (by kernel_rfl) (by kernel_rfl) (by kernel_rfl) (fun _ _ _ h => h) (Or.inl ⟨by rfl, by (intro w hSw; (try dsimp only at hSw); go_simp)⟩) (by assumption) ?_
      try simp only [List.getElem_toArray, List.getElem_cons_zero, List.getElem_cons_succ, Act.put, List.setIfInBounds_toArray, List.set_cons_zero, List.set_cons_succ, Array.toArray_toList]
      refine wpAnyH_take (i := 26) (v := .bool true) rfl (by kernel_rfl) (by kernel_rfl) (by kernel_rfl) (fun _ _ _ h => h) (Or.inl ⟨by rfl, by (intro w hSw; (try dsimp only at hSw); go_simp)⟩) (by assumption) ?_
      try simp only [List.getElem_toArray, List.getElem_cons_zero, List.getElem_cons_succ, Act.put, List.setIfInBounds_toArray, List.set_cons_zero, List.set_cons_succ, Array.toArray_toList]
      refine wpAnyH_take (i := 27) (v := .slice (some ⟨bR, oR, none⟩) 1 cR) rfl (by kernel_rfl) (by kernel_rfl) (by kernel_rfl) (fun _ _ _ h => h) (Or.inl ⟨by rfl, by (intro w hSw; (try dsimp only at hSw); go_simp)⟩) (by assumption) ?_
      try simp only [List.getElem_toArray, List.getElem_cons_zero, List.getElem_cons_succ, Act.put, List.setIfInBounds_toArray, List.set_cons_zero, List.set_cons_succ, Array.toArray_toList]
      refine wpAnyH_take (i := 28) (v := .int .i64 1) rfl (by kernel_rfl) (by kernel_rfl) (by kernel_rfl) (fun _ _ _ h => h) (Or.inl ⟨by rfl, by (intro w hSw; (try dsimp only at hSw); go_simp)⟩) (by assumption) ?_
      try simp only [List.getElem_toArray, List.getElem_cons_zero, List.getElem_cons_succ, Act.put, List.setIfInBounds_toArray, List.set_cons_zero, List.set_cons_succ, Array.toArray_toList]
      refine wpAnyH_take (i := 29) (v := .bool true) rfl (by kernel_rfl) (by kernel_rfl) (by kernel_rfl) (fun _ _ _ h => h) (Or.inl ⟨by rfl, by (intro w hSw; (try dsimp only at hSw); go_simp)⟩) (by assumption) ?_
      try simp only [List.getElem_toArray, List.getElem_cons_zero, List.getElem_cons_succ, Act.put, List.setIfInBounds_toArray, List.set_cons_zero, List.set_cons_succ, Array.toArray_toList]
      refine wpAnyH_take (i := 30) (v := .bool true) rfl (by kernel_rfl) (by kernel_rfl) (by kernel_rfl) (fun _ _ _ h => h) (Or.inl ⟨by rfl, by (intro w hSw; (try dsimp only at hSw); go_simp)⟩) (by assumption) ?_
      try simp only [List.getElem_toArray, List.getElem_cons_zero, List.getElem_cons_succ, Act.put, List.setIfInBounds_toArray, List.set_cons_zero, List.set_cons_succ, Array.toArray_toList]
      refine wpAnyH_take (i := 31) (v := .bool true) rfl (by kernel_rfl) (by kernel_rfl) (by kernel_rfl) (fun _ _ _ h => h) (Or.inl ⟨by rfl, by (intro w hSw; (try dsimp only at hSw); go_simp)⟩) (by assumption) ?_
      try simp only [List.getElem_toArray, List.getElem_cons_zero, List.getElem_cons_succ, Act.put, List.setIfInBounds_toArray, List.set_cons_zero, List.set_cons_succ, Array.toArray_toList]
      refine wpAnyH_take (i := 32) (v := .slice (some ⟨bR, oR, none⟩) 1 cR) rfl (by kernel_rfl) (by kernel_rfl) (by kernel_rfl) (fun _ _ _ h => h) (Or.inl ⟨by rfl, by (intro w hSw; (try dsimp only at hSw); go_simp)⟩) (by assumption) ?_
      try simp only [List.getElem_toArray, List.getElem_cons_zero, List.getElem_cons_succ, Act.put, List.setIfInBounds_toArray, List.set_cons_zero, List.set_cons_succ, Array.toArray_toList]
      refine wpAnyH_take (i := 33) (v := .pointer (some ⟨bR, oR, none⟩)) rfl (by kernel_rfl) (by kernel_rfl) (by kernel_rfl) (fun _ _ _ h => h) (Or.inl ⟨by rfl, by (intro w hSw; (try dsimp only at hSw); go_simp)⟩) (by assumption) ?_
      try simp only [List.getElem_toArray, List.getElem_cons_zero, List.getElem_cons_succ, Act.put, List.setIfInBounds_toArray, List.set_cons_zero, List.set_cons_succ, Array.toArray_toList]
      refine wpAnyH_take (i := 34) (v := .agg (atH 2 2).cs.toList.toArray) rfl (by kernel_rfl) (by kernel_rfl) (by kernel_rfl) (fun _ _ _ h => h) ?_ (by assumption) ?_
      · try simp only [List.getElem_toArray, List.getElem_cons_zero, List.getElem_cons_succ]
        exact yieldsIf_load_mid (by rfl) _ _ rfl (bR) (oR) rfl (atH 2 2).cs.toList _ (fun w hSw => hSw.2.2) hu24 rfl hi24
      try simp only [List.getElem_toArray, List.getElem_cons_zero, List.getElem_cons_succ, Act.put, List.setIfInBounds_toArray, List.set_cons_zero, List.set_cons_succ, Array.toArray_toList]
      refine wpAnyH_ready (rs := [35]) (by kernel_rfl) (by simp) ?_
      refine AllReadyH.cons (i := 35) rfl (fun K hK => ?_) AllReadyH.nil
      go_simp
      go_at_call 23
      refine (HAT.out _).mono ?_
      rintro e y11 ⟨rfl, hy11⟩
      have hz11 := hz10.trans hy11
      refine hK.out _ _ (HSS.out _ hz11) (fun hHeld11 => ?_)
      clear hK K hHeld10
      try simp only [List.getElem_toArray, List.getElem_cons_zero, List.getElem_cons_succ, Act.put, List.setIfInBounds_toArray, List.set_cons_zero, List.set_cons_succ, Array.toArray_toList]
      refine wpAnyH_take (i := 36) (v := .bool true) rfl (by kernel_rfl) (by kernel_rfl) (by kernel_rfl) (fun _ _ _ h => h) (Or.inl ⟨by rfl, by (intro w hSw; (try dsimp only at hSw); go_simp)⟩) (by assumption) ?_
      try simp only [List.getElem_toArray, List.getElem_cons_zero, List.getElem_cons_succ, Act.put, List.setIfInBounds_toArray, List.set_cons_zero, List.set_cons_succ, Array.toArray_toList]
      refine wpAnyH_take (i := 37) (v := .bool true) rfl (by kernel_rfl) (by kernel_rfl) (by kernel_rfl) (fun _ _ _ h => h) (Or.inl ⟨by rfl, by (intro w hSw; (try dsimp only at hSw); go_simp)⟩) (by assumption) ?_
      try simp only [List.getElem_toArray, List.getElem_cons_zero, List.getElem_cons_succ, Act.put, List.setIfInBounds_toArray, List.set_cons_zero, List.set_cons_succ, Array.toArray_toList]
      refine wpAnyH_take (i := 38) (v := .bool true) rfl (by kernel_rfl) (by kernel_rfl) (by kernel_rfl) (fun _ _ _ h => h) (Or.inl ⟨by rfl, by (intro w hSw; (try dsimp only at hSw); go_simp)⟩) (by assumption) ?_
      try simp only [List.getElem_toArray, List.getElem_cons_zero, List.getElem_cons_succ, Act.put, List.setIfInBounds_toArray, List.set_cons_zero, List.set_cons_succ, Array.toArray_toList]
      refine wpAnyH_done (by kernel_rfl) ?_ _
      refine NoPanic.normal ?_
      go_wp2_with fail
      go_ret
      exact ⟨rfl, HX13.out.trans hz11⟩
    · skip
      go_simp
      have hz8 := hz7.andAlloc (.cells #[.int .i8 7, .int .i8 9, .int .u64 2, .slice none 0 0, .slice none 0 0] 34)
      refine hK.out _ _ (HSS.out _ hz8) (fun hHeld8 => ?_)
      clear hK K hHeld7
      try simp only [List.getElem_toArray, List.getElem_cons_zero, List.getElem_cons_succ, Act.put, List.setIfInBounds_toArray, List.set_cons_zero, List.set_cons_succ, Array.toArray_toList]
      refine wpAnyH_ready (rs := [17]) (by kernel_rfl) (by simp) ?_
      refine AllReadyH.cons (i := 17) rfl (fun K hK => ?_) AllReadyH.nil
      go_simp
      have hz9 := hz8.andAlloc (.cells #[.int .i64 0, .int .i64 1, .int .u64 0, .int .u64 0, .int .u64 2048, .int .u64 0, .int .u64 0, .int .u64 0, .int .u64 0, .int .u64 0, .int .u64 0, .int .u64 1, .int .u64 1, .slice (some ⟨w2.heap.size, 0, none⟩) 1 1] 27)
      refine hK.out _ _ (HSS.out _ hz9) (fun hHeld9 => ?_)
      clear hK K hHeld8
      try simp only [List.getElem_toArray, List.getElem_cons_zero, List.getElem_cons_succ, Act.put, List.setIfInBounds_toArray, List.set_cons_zero, List.set_cons_succ, Array.toArray_toList]
      refine wpAnyH_ready (rs := [20]) (by kernel_rfl) (by simp) ?_
      refine AllReadyH.cons (i := 20) rfl (fun K hK => ?_) AllReadyH.nil
      go_simp
      go_at_call 13
      refine (HTR.out (y7.heap.size + 1) (y7.heap.size) _ hz9 (by have := rangeAt_new (y7.alloc (.cells #[.int .i8 7, .int .i8 9, .int .u64 2, .slice none 0 0, .slice none 0 0] 34)) #[.int .i64 0, .int .i64 1, .int .u64 0, .int .u64 0, .int .u64 2048, .int .u64 0, .int .u64 0, .int .u64 0, .int .u64 0, .int .u64 0, .int .u64 0, .int .u64 1, .int .u64 1, .slice (some ⟨w2.heap.size, 0, none⟩) 1 1] 27; rwa [World.size_alloc] at this) (World.rangeAt.later (Ext.alloc _ _).later (rangeAt_new _ _ _))).mono ?_
      rintro e y10 ⟨rfl, hy10⟩
      have hz10 := hz9.trans hy10
      refine hK.out _ _ (HSS.out _ hz10) (fun hHeld10 => ?_)
      clear hK K hHeld9
      try simp only [List.getElem_toArray, List.getElem_cons_zero, List.getElem_cons_succ, Act.put, List.setIfInBounds_toArray, List.set_cons_zero, List.set_cons_succ, Array.toArray_toList]
      refine wpAnyH_take (i := 21) (v := .bool true) rfl (by kernel_rfl) (by kernel_rfl) (by kernel_rfl) (fun _ _ _ h => h) (Or.inl ⟨by rfl, by (intro w hSw; (try dsimp only at hSw); go_simp)⟩) (by assumption) ?_
      try simp only [List.getElem_toArray, List.getElem_cons_zero, List.getElem_cons_succ, Act.put, List.setIfInBounds_toArray, List.set_cons_zero, List.set_cons_succ, Array.toArray_toList]
      refine wpAnyH_take (i := 22) (v := .bool true) rfl (by kernel_rfl) (by kernel_rfl) (by kernel_rfl) (fun _ _ _ h => h) (Or.inl ⟨by rfl, by (intro w hSw; (try dsimp only at hSw); go_simp)⟩) (by assumption) ?_
      try simp only [List.getElem_toArray, List.getElem_cons_zero, List.getElem_cons_succ, Act.put, List.setIfInBounds_toArray, List.set_cons_zero, List.set_cons_succ, Array.toArray_toList]
      refine wpAnyH_take (i := 23) (v := .int .i64 0) rfl (by kernel_rfl) (by kernel_rfl) (by kernel_rfl) (fun _ _ _ h => h) (Or.inl ⟨by rfl, by (intro w hSw; (try dsimp only at hSw); go_simp)⟩) (by assumption) ?_
      try simp only [List.getElem_toArray, List.getElem_cons_zero, List.getElem_cons_succ, Act.put, List.setIfInBounds_toArray, List.set_cons_zero, List.set_cons_succ, Array.toArray_toList]
      refine wpAnyH_take (i := 24) (v := .bool true) rfl (by kernel_rfl) (by kernel_rfl) (by kernel_rfl) (fun _ _ _ h => h) (Or.inl ⟨by rfl, by (intro w hSw; (try dsimp only at hSw); go_simp)⟩) (by assumption) ?_
      try simp only [List.getElem_toArray, List.getElem_cons_zero, List.getElem_cons_succ, Act.put, List.setIfInBounds_toArray, List.set_cons_zero, List.set_cons_succ, Array.toArray_toList]
      refine wpAnyH_take (i := 25) (v := .bool true) rfl (by kernel_rfl) (by kernel_rfl) (by kernel_rfl) (fun _ _ _ h => h) (Or.inl ⟨by rfl, by (intro w hSw; (try dsimp only at hSw); go_simp)⟩) (by assumption) ?_
      try simp only [List.getElem_toArray, List.getElem_cons_zero, List.getElem_cons_succ, Act.put, List.setIfInBounds_toArray, List.set_cons_zero, List.set_cons_succ, Array.toArray_toList]
      refine wpAnyH_take (i := 26) (v := .bool true) rfl (by kernel_rfl) (by kernel_rfl) (by kernel_rfl) (fun _ _ _ h => h) (Or.inl ⟨by rfl, by (intro w hSw; (try dsimp only at hSw); go_simp)⟩) (by assumption) ?_
      try simp only [List.getElem_toArray, List.getElem_cons_zero, List.getElem_cons_succ, Act.put, List.setIfInBounds_toArray, List.set_cons_zero, List.set_cons_succ, Array.toArray_toList]
      refine wpAnyH_take (i := 27) (v := .slice (some ⟨bR, oR, none⟩) 1 cR) rfl (by kernel_rfl) (by kernel_rfl) (by kernel_rfl) (fun _ _ _ h => h) (Or.inl ⟨by rfl, by (intro w hSw; (try dsimp only at hSw); go_simp)⟩) (by assumption) ?_
      try simp only [List.getElem_toArray, List.getElem_cons_zero, List.getElem_cons_succ, Act.put, List.setIfInBounds_toArray, List.set_cons_zero, List.set_cons_succ, Array.toArray_toList]
      refine wpAnyH_take (i := 28) (v := .int .i64 1) rfl (by kernel_rfl) (by kernel_rfl) (by kernel_rfl) (fun _ _ _ h => h) (Or.inl ⟨by rfl, by (intro w hSw; (try dsimp only at hSw); go_simp)⟩) (by assumption) ?_
      try simp only [List.getElem_toArray, List.getElem_cons_zero, List.getElem_cons_succ, Act.put, List.setIfInBounds_toArray, List.set_cons_zero, List.set_cons_succ, Array.toArray_toList]
      refine wpAnyH_take (i := 29) (v := .bool true) rfl (by kernel_rfl) (by kernel_rfl) (by kernel_rfl) (fun _ _ _ h => h) (Or.inl ⟨by rfl, by (intro w hSw; (try dsimp only at hSw); go_simp)⟩) (by assumption) ?_
      try simp only [List.getElem_toArray, List.getElem_cons_zero, List.getElem_cons_succ, Act.put, List.setIfInBounds_toArray, List.set_cons_zero, List.set_cons_succ, Array.toArray_toList]
      refine wpAnyH_take (i := 30) (v := .bool true) rfl (by kernel_rfl) (by kernel_rfl) (by kernel_rfl) (fun _ _ _ h => h) (Or.inl ⟨by rfl, by (intro w hSw; (try dsimp only at hSw); go_simp)⟩) (by assumption) ?_
      try simp only [List.getElem_toArray, List.getElem_cons_zero, List.getElem_cons_succ, Act.put, List.setIfInBounds_toArray, List.set_cons_zero, List.set_cons_succ, Array.toArray_toList]
      refine wpAnyH_take (i := 31) (v := .bool true) rfl (by kernel_rfl) (by kernel_rfl) (by kernel_rfl) (fun _ _ _ h => h) (Or.inl ⟨by rfl, by (intro w hSw; (try dsimp only at hSw); go_simp)⟩) (by assumption) ?_
      try simp only [List.getElem_toArray, List.getElem_cons_zero, List.getElem_cons_succ, Act.put, List.setIfInBounds_toArray, List.set_cons_zero, List.set_cons_succ, Array.toArray_toList]
      refine wpAnyH_take (i := 32) (v := .slice (some ⟨bR, oR, none⟩) 1 cR) rfl (by kernel_rfl) (by kernel_rfl) (by kernel_rfl) (fun _ _ _ h => h) (Or.inl ⟨by rfl, by (intro w hSw; (try dsimp only at hSw); go_simp)⟩) (by assumption) ?_
      try simp only [List.getElem_toArray, List.getElem_cons_zero, List.getElem_cons_succ, Act.put, List.setIfInBounds_toArray, List.set_cons_zero, List.set_cons_succ, Array.toArray_toList]
      refine wpAnyH_take (i := 33) (v := .pointer (some ⟨bR, oR, none⟩)) rfl (by kernel_rfl) (by kernel_rfl) (by kernel_rfl) (fun _ _ _ h => h) (Or.inl ⟨by rfl, by (intro w hSw; (try dsimp only at hSw); go_simp)⟩) (by assumption) ?_
      try simp only [List.getElem_toArray, List.getElem_cons_zero, List.getElem_cons_succ, Act.put, List.setIfInBounds_toArray, List.set_cons_zero, List.set_cons_succ, Array.toArray_toList]
      refine wpAnyH_take (i := 34) (v := .agg (atH 2 2).cs.toList.toArray) rfl (by kernel_rfl) (by kernel_rfl) (by kernel_rfl) (fun _ _ _ h => h) ?_ (by assumption) ?_
      · try simp only [List.getElem_toArray, List.getElem_cons_zero, List.getElem_cons_succ]
        exact yieldsIf_load_mid (by rfl) _ _ rfl (bR) (oR) rfl (atH 2 2).cs.toList _ (fun w hSw => hSw.2.2) hu24 rfl hi24
      try simp only [List.getElem_toArray, List.getElem_cons_zero, List.getElem_cons_succ, Act.put, List.setIfInBounds_toArray, List.set_cons_zero, List.set_cons_succ, Array.toArray_toList]
      refine wpAnyH_ready (rs := [35]) (by kernel_rfl) (by simp) ?_
      refine AllReadyH.cons (i := 35) rfl (fun K hK => ?_) AllReadyH.nil
      go_simp
      go_at_call 23
      refine (HAT.out _).mono ?_
      rintro e y11 ⟨rfl, hy11⟩
      have hz11 := hz10.trans hy11
      refine hK.out _ _ (HSS.out _ hz11) (fun hHeld11 => ?_)
      clear hK K hHeld10
      try simp only [List.getElem_toArray, List.getElem_cons_zero, List.getElem_cons_succ, Act.put, List.setIfInBounds_toArray, List.set_cons_zero, List.set_cons_succ, Array.toArray_toList]
      refine wpAnyH_take (i := 36) (v := .bool true) rfl (by kernel_rfl) (by kernel_rfl) (by kernel_rfl) (fun _ _ _ h => h) (Or.inl ⟨by rfl, by (intro w hSw; (try dsimp only at hSw); go_simp)⟩) (by assumption) ?_
      try simp only [List.getElem_toArray, List.getElem_cons_zero, List.getElem_cons_succ, Act.put, List.setIfInBounds_toArray, List.set_cons_zero, List.set_cons_succ, Array.toArray_toList]
      refine wpAnyH_take (i := 37) (v := .bool true) rfl (by kernel_rfl) (by kernel_rfl) (by kernel_rfl) (fun _ _ _ h => h) (Or.inl ⟨by rfl, by (intro w hSw; (try dsimp only at hSw); go_simp)⟩) (by assumption) ?_
      try simp only [List.getElem_toArray, List.getElem_cons_zero, List.getElem_cons_succ, Act.put, List.setIfInBounds_toArray, List.set_cons_zero, List.set_cons_succ, Array.toArray_toList]
      refine wpAnyH_take (i := 38) (v := .bool true) rfl (by kernel_rfl) (by kernel_rfl) (by kernel_rfl) (fun _ _ _ h => h) (Or.inl ⟨by rfl, by (intro w hSw; (try dsimp only at hSw); go_simp)⟩) (by assumption) ?_
      try simp only [List.getElem_toArray, List.getElem_cons_zero, List.getElem_cons_succ, Act.put, List.setIfInBounds_toArray, List.set_cons_zero, List.set_cons_succ, Array.toArray_toList]
      refine wpAnyH_done (by kernel_rfl) ?_ _
      refine NoPanic.normal ?_
      go_wp2_with fail
      go_ret
      exact ⟨rfl, HX13.out.trans hz11⟩
end Go.Proofs.Ytddeelepaiklgaa
/- The arguments of law 30 out of their data. -/
namespace Go.Proofs.Ytddeelepaiklgaa
open Go.ChangeShapes Go.WideShapes Go.ChangeAt Go.RowKit Go.Deep
set_option linter.unusedSimpArgs false

section
variable {H : Type} {enc : TypeId × Value → H} {w : World} {spare : Nat → Bool} {held : Bool}

theorem open_slice {α : Type} {E e : TypeId} {k : Nat} (hu : Try.prog.underlying E = some (.slice e)) (hk : Try.prog.cellsOf e = k) (hk0 : 0 < k) (At : World → α → Nat → Nat → Prop) (fuel : Nat)
    (hop : ∀ m, m < fuel → ∀ cs d ps, DataW.trod enc Try.prog w 0 spare held m e cs = some (d, ps) → ∃ x : α, ∀ b o, w.rangeAt b o cs → At w x b o) (c : Value) (d : DataW H) (ps : List MemPlace)
    (h : DataW.trod enc Try.prog w 0 spare held fuel E [c] = some (d, ps)) : ∃ l : List α, SlOf At k w l c := by
  rcases DataW.trod_slice hu h with ⟨h3, -⟩ | ⟨a, len, cap, elems, rest, m, rfl, h3, -, -, hlc, hcm, hel, hat, -⟩
  · simp only [List.cons.injEq, and_true] at h3
    subst h3
    exact ⟨[], none, 0, 0, rfl, rfl, Nat.le_refl _, by omega, .inl rfl⟩
  · simp only [List.cons.injEq, and_true] at h3
    subst h3
    rw [maxLen_eq] at hcm
    have ha : 0 < len → a = ⟨a.block, a.off, none⟩ := fun h0 => by
      have h0' := hat 0 h0
      rw [List.getElem?_eq_getElem (by omega), Option.bind_eq_some_iff] at h0'
      obtain ⟨cs0, hc0, -⟩ := h0'
      obtain ⟨-, hcl0, hce0⟩ := World.cells?_some hc0
      rw [hk] at hcl0 hce0
      have h00 := hce0 0 hk0
      rw [List.getElem?_eq_getElem (by omega)] at h00
      simpa [Addr.add] using cell_nospot h00
    have hx : ∀ i, i < len → ∃ x : α, At w x a.block (a.off + i * k) := by
      intro i hi
      have hi' := hat i hi
      rw [List.getElem?_eq_getElem (by omega), Option.bind_eq_some_iff] at hi'
      obtain ⟨cs', hc, ht⟩ := hi'
      obtain ⟨x, hv⟩ := hop m (by omega) cs' _ _ ht
      obtain ⟨-, hcl, hce⟩ := World.cells?_some hc
      rw [hk] at hcl hce
      refine ⟨x, hv _ _ (fun j v hjv => ?_)⟩
      have hj : j < k := by
        have := (List.getElem?_eq_some_iff.1 hjv).1
        omega
      have := hce j hj
      rw [ha (by omega), Addr.add_mid, Addr.add_mid] at this
      rw [this]
      exact hjv
    let l : List α := List.ofFn fun i : Fin len => Classical.choose (hx i.1 i.2)
    have hll : l.length = len := by simp [l]
    refine ⟨l, some a, len, cap, rfl, hll.symm, hlc, hcm, ?_⟩
    by_cases hz : len = 0
    · exact .inl (List.length_eq_zero_iff.1 (hll.trans hz))
    · refine .inr ⟨a.block, a.off, by rw [← ha (by omega)], fun i hi => ?_⟩
      have hi' : i < len := by omega
      have e : l[i] = Classical.choose (hx i hi') := by simp [l]
      rw [e]
      exact Classical.choose_spec (hx i hi')

set_option maxRecDepth 4000 in
theorem open_spot (fuel : Nat) (cs : List Value) (d : DataW H) (ps : List MemPlace) (h : DataW.trod enc Try.prog w 0 spare held fuel 58 cs = some (d, ps)) : ∃ a b : Int, cs = [.int .u16 a, .int .u16 b] ∧ (0 ≤ a ∧ a ≤ 65535) ∧ (0 ≤ b ∧ b ≤ 65535) := by
  obtain ⟨xs, n, rfl, -, hlen, hxl, hf⟩ := DataW.trod_struct Try.underlying58 h
  rw [show Try.prog.cellsOf 58 = 2 from by kernel_rfl] at hlen
  match cs, hlen with
  | [c0, c1], _ =>
  have hxl : xs.length = 2 := hxl
  have g0 : DataW.trod enc Try.prog w 0 spare held n 56 [c0] = xs[0]? := hf 0 _ rfl
  have g1 : DataW.trod enc Try.prog w 0 spare held n 56 [c1] = xs[1]? := hf 1 _ rfl
  rw [List.getElem?_eq_getElem (by omega)] at g0 g1
  obtain ⟨v0, h0, -, w0⟩ := DataW.trod_int Try.underlying56 g0
  obtain ⟨v1, h1, -, w1⟩ := DataW.trod_int Try.underlying56 g1
  simp only [List.cons.injEq, and_true] at h0 h1
  subst h0 h1
  simp [Lit.wf, IntKind.min, IntKind.max, IntKind.bits, IntKind.signed] at w0 w1
  exact ⟨v0, v1, rfl, by omega, by omega⟩
set_option maxRecDepth 4000 in
theorem open_wire (fuel : Nat) (cs : List Value) (d : DataW H) (ps : List MemPlace) (h : DataW.trod enc Try.prog w 0 spare held fuel 60 cs = some (d, ps)) : ∃ x : WireD, ∀ b o, w.rangeAt b o cs → WAt w x b o := by
  obtain ⟨xs, n, rfl, -, hlen, hxl, hf⟩ := DataW.trod_struct Try.underlying60 h
  rw [show Try.prog.cellsOf 60 = 4 from by kernel_rfl] at hlen
  match cs, hlen with
  | [c0, c1, c2, c3], _ =>
  have hxl : xs.length = 2 := hxl
  have g0 : DataW.trod enc Try.prog w 0 spare held n 58 [c0, c1] = xs[0]? := hf 0 _ rfl
  have g1 : DataW.trod enc Try.prog w 0 spare held n 58 [c2, c3] = xs[1]? := hf 1 _ rfl
  rw [List.getElem?_eq_getElem (by omega)] at g0 g1
  obtain ⟨a, b, h0, ba, bb⟩ := open_spot _ _ _ _ g0
  obtain ⟨a', b', h1, ba', bb'⟩ := open_spot _ _ _ _ g1
  simp only [List.cons.injEq, and_true] at h0 h1
  obtain ⟨rfl, rfl⟩ := h0
  obtain ⟨rfl, rfl⟩ := h1
  exact ⟨⟨a, b, a', b'⟩, fun q o hr => ⟨hr, ba, bb, ba', bb'⟩⟩
set_option maxRecDepth 4000 in
theorem open_query (fuel : Nat) (cs : List Value) (d : DataW H) (ps : List MemPlace) (h : DataW.trod enc Try.prog w 0 spare held fuel 79 cs = some (d, ps)) : ∃ q : Qr, ∀ b o, w.rangeAt b o cs → QAt w q b o := by
  obtain ⟨xs, n, rfl, -, hlen, hxl, hf⟩ := DataW.trod_struct Try.underlying79 h
  rw [show Try.prog.cellsOf 79 = 5 from by kernel_rfl] at hlen
  match cs, hlen with
  | [c0, c1, c2, c3, c4], _ =>
  have hxl : xs.length = 2 := hxl
  have g0 : DataW.trod enc Try.prog w 0 spare held n 9 [c0] = xs[0]? := hf 0 _ rfl
  have g1 : DataW.trod enc Try.prog w 0 spare held n 31 [c1, c2, c3, c4] = xs[1]? := hf 1 _ rfl
  rw [List.getElem?_eq_getElem (by omega)] at g0 g1
  obtain ⟨s, h0, -, hs⟩ := DataW.trod_string Try.underlying9 g0
  obtain ⟨t, ht⟩ := open_term _ _ _ _ g1
  simp only [List.cons.injEq, and_true] at h0
  subst h0
  refine ⟨(⟨s, hs⟩, t), fun b o hr => ⟨by simpa using hr 0 _ rfl, ht.at fun j v hjv => ?_⟩⟩
  have := hr (j + 1) v (by simpa using hjv)
  rwa [show o + (j + 1) = o + 1 + j from by omega] at this
theorem qsAt_of {b : Nat} : ∀ (l : List Qr) (o : Nat), (∀ i (h : i < l.length), QAt w (l[i]) b (o + i * 5)) → QsAt w l b o
  | [], _, _ => trivial
  | q :: qs, o, hq => ⟨by have := hq 0 (by simp); simpa using this, qsAt_of qs (o + 5) fun i hi => by
    have := hq (i + 1) (by simpa using hi)
    rw [List.getElem_cons_succ] at this
    rwa [show o + (i + 1) * 5 = o + 5 + i * 5 from by omega] at this⟩
theorem qs_of {l : List Qr} {v : Value} (h : SlOf QAt 5 w l v) : Qs w l v := by
  obtain ⟨p, len, cap, rfl, h1, h2, h3, h4⟩ := h
  exact ⟨p, len, cap, rfl, h1, h2, h3, h4.imp id fun ⟨b, o, hp, hq⟩ => ⟨b, o, hp, qsAt_of l o hq⟩⟩
set_option maxRecDepth 4000 in
theorem open_policy (fuel : Nat) (cs : List Value) (d : DataW H) (ps : List MemPlace) (h : DataW.trod enc Try.prog w 0 spare held fuel 34 cs = some (d, ps)) : ∃ (t : Tm) (qs : List Qr), PVal w t qs (.agg cs.toArray) := by
  obtain ⟨xs, n, rfl, -, hlen, hxl, hf⟩ := DataW.trod_struct Try.underlying34 h
  rw [show Try.prog.cellsOf 34 = 5 from by kernel_rfl] at hlen
  match cs, hlen with
  | [c0, c1, c2, c3, c4], _ =>
  have hxl : xs.length = 2 := hxl
  have g0 : DataW.trod enc Try.prog w 0 spare held n 31 [c0, c1, c2, c3] = xs[0]? := hf 0 _ rfl
  have g1 : DataW.trod enc Try.prog w 0 spare held n 32 [c4] = xs[1]? := hf 1 _ rfl
  rw [List.getElem?_eq_getElem (by omega)] at g0 g1
  obtain ⟨t, ht⟩ := open_term _ _ _ _ g0
  obtain ⟨qs, hq⟩ := open_slice Try.underlying32 (k := 5) (by kernel_rfl) (by omega) QAt n (fun m _ cs d ps h => open_query m cs d ps h) c4 _ _ g1
  have ht' := ht
  obtain ⟨cs', he, s, rfl, -, -, -, p, len, cap, rfl, -⟩ := ht
  simp at he
  obtain ⟨rfl, rfl, rfl, rfl⟩ := he
  exact ⟨t, qs, p, len, cap, c4, rfl, ht', qs_of hq⟩
end

theorem recP : Try.prog.readableRec 34 = true := by kernel_rfl
theorem rowP : (34 : TypeId) < Try.prog.types.size := of_decide_eq_true (by kernel_rfl)
theorem recW : Try.prog.readableRec 41 = true := by kernel_rfl
theorem rowW : (41 : TypeId) < Try.prog.types.size := of_decide_eq_true (by kernel_rfl)
section
variable {H : Type} {enc : TypeId × Value → H} {base : Nat}
set_option maxRecDepth 4000 in
theorem policy_val {W : World} {v : Value} {d : DataW H} {ps : List MemPlace} (ho : Value.okWide Try.prog W .any base 34 v) (h : DataW.Trod enc Try.prog W 0 (fun _ => true) true 34 v d ps) : ∃ (t : Tm) (qs : List Qr), PVal W t qs v := by
  obtain ⟨cs, rfl, -⟩ := okWide_struct Try.underlying34 ho
  obtain ⟨fuel, hf⟩ := h
  obtain ⟨t, qs, ht⟩ := open_policy fuel _ d ps hf
  exact ⟨t, qs, by simpa [Value.cells] using ht⟩
set_option maxRecDepth 4000 in
theorem wires_val {W : World} {v : Value} {d : DataW H} {ps : List MemPlace} (ho : Value.okWide Try.prog W .any base 41 v) (h : DataW.Trod enc Try.prog W 0 (fun _ => true) true 41 v d ps) : ∃ l : List WireD, SlOf WAt 4 W l v := by
  obtain ⟨fuel, hf⟩ := h
  have hc : v.cells = #[v] := by
    obtain ⟨a, len, cap, rfl⟩ := okWide_slice Try.underlying41 ho
    rfl
  rw [hc] at hf
  exact open_slice Try.underlying41 (k := 4) (by kernel_rfl) (by omega) WAt fuel (fun m _ cs d ps h => open_wire m cs d ps h) v _ _ hf
theorem stays_P {W W' : World} {v : Value} {d : DataW H} {ps : List MemPlace} (sp : Nat → Bool) (h : DataW.Trod enc Try.prog W 0 (fun _ => true) true 34 v d ps) (hb : Below W.heap.size W W') (hlt : ∀ x ∈ ps, x.block < W.heap.size) (hs : ∀ x ∈ ps, sp x.block = true) :
    DataW.Trod enc Try.prog W' 0 sp true 34 v d ps := WideElems.Trod_stays laidL recP rowP h (fun x hx => hb.same (hlt x hx)) hs
theorem stays_W {W W' : World} {v : Value} {d : DataW H} {ps : List MemPlace} (sp : Nat → Bool) (h : DataW.Trod enc Try.prog W 0 (fun _ => true) true 41 v d ps) (hb : Below W.heap.size W W') (hlt : ∀ x ∈ ps, x.block < W.heap.size) (hs : ∀ x ∈ ps, sp x.block = true) :
    DataW.Trod enc Try.prog W' 0 sp true 41 v d ps := WideElems.Trod_stays laidL recW rowW h (fun x hx => hb.same (hlt x hx)) hs
end
def zP : Value := .agg #[.int .i8 0, .int .i8 0, .int .u64 0, .slice none 0 0, .slice none 0 0]
end Go.Proofs.Ytddeelepaiklgaa
/- Hops, and slices of hops and of policies, out of their data. -/
namespace Go.Proofs.Ytddeelepaiklgaa
open Go.ChangeShapes Go.WideShapes Go.ChangeAt Go.RowKit Go.Deep
set_option linter.unusedSimpArgs false

def RAt (w : World) (x : Hdr) (b o : Nat) : Prop := w.rangeAt b o x.cs.toList
theorem rangeAt_flat {w : World} {b : Nat} : ∀ (l : List Hdr) (o : Nat), (∀ i (h : i < l.length), RAt w (l[i]) b (o + i * 11)) → w.rangeAt b o (flatH l)
  | [], _, _ => fun j v hv => by simp [flatH] at hv
  | x :: xs, o, h => by
    have h0 := h 0 (by simp)
    have ih := rangeAt_flat xs (o + 11) fun i hi => by
      have := h (i + 1) (by simpa using hi)
      rw [List.getElem_cons_succ] at this
      rwa [show o + (i + 1) * 11 = o + 11 + i * 11 from by omega] at this
    intro j v hv
    have hx : (flatH (x :: xs)) = x.cs.toList ++ flatH xs := by simp [flatH]
    rw [hx] at hv
    by_cases hj : j < 11
    · rw [List.getElem?_append_left (by rw [x.len_cs]; exact hj)] at hv
      have := h0 j v hv
      simpa using this
    · rw [List.getElem?_append_right (by rw [x.len_cs]; omega), x.len_cs] at hv
      have := ih (j - 11) v hv
      rwa [show o + 11 + (j - 11) = o + j from by omega] at this
theorem hsl_of {w : World} {l : List Hdr} {v : Value} (h : SlOf RAt 11 w l v) : HSl w 0 l v := by
  obtain ⟨p, len, cap, rfl, h1, h2, h3, h4⟩ := h
  exact ⟨p, len, cap, rfl, h1, h4.imp id fun ⟨b, o, hp, hr⟩ => ⟨b, o, hp, Nat.zero_le _, rangeAt_flat l o hr⟩⟩
/-- a hop that came in -/
def HopF (w : World) (h : HopD) (v : Value) : Prop := ∃ ov, v = .agg (hopCs h.step h.pol h.x ov).toArray ∧ SlOf RAt 11 w h.out ov ∧ -9223372036854775808 ≤ h.pol ∧ h.pol ≤ 9223372036854775807
theorem HopF.val {w : World} {h : HopD} {v : Value} (k : HopF w h v) : HopVal w h.step h.pol h.x h.out v := by
  obtain ⟨ov, rfl, hs, -⟩ := k
  refine ⟨ov, rfl, hsl_of hs, ?_⟩
  obtain ⟨p, len, cap, rfl, h1, h2, h3, -⟩ := hs
  omega
section
variable {H : Type} {enc : TypeId × Value → H} {w : World} {spare : Nat → Bool} {held : Bool}
set_option maxRecDepth 4000 in
theorem open_hop (fuel : Nat) (cs : List Value) (d : DataW H) (ps : List MemPlace) (h : DataW.trod enc Try.prog w 0 spare held fuel 27 cs = some (d, ps)) : ∃ x : HopD, HopF w x (.agg cs.toArray) := by
  obtain ⟨xs, n, rfl, -, hlen, hxl, hf⟩ := DataW.trod_struct Try.underlying27 h
  rw [show Try.prog.cellsOf 27 = 14 from by kernel_rfl] at hlen
  match cs, hlen with
  | [c0, c1, c2, c3, c4, c5, c6, c7, c8, c9, c10, c11, c12, c13], _ =>
  have hxl : xs.length = 4 := hxl
  have g0 : DataW.trod enc Try.prog w 0 spare held n 3 [c0] = xs[0]? := hf 0 _ rfl
  have g1 : DataW.trod enc Try.prog w 0 spare held n 3 [c1] = xs[1]? := hf 1 _ rfl
  have g2 : DataW.trod enc Try.prog w 0 spare held n 24 [c2, c3, c4, c5, c6, c7, c8, c9, c10, c11, c12] = xs[2]? := hf 2 _ rfl
  have g3 : DataW.trod enc Try.prog w 0 spare held n 25 [c13] = xs[3]? := hf 3 _ rfl
  rw [List.getElem?_eq_getElem (by omega)] at g0 g1 g2 g3
  obtain ⟨v0, h0, -, w0⟩ := DataW.trod_int Try.underlying3 g0
  obtain ⟨v1, h1, -, w1⟩ := DataW.trod_int Try.underlying3 g1
  obtain ⟨x, hx⟩ := open_hdr _ _ _ _ g2
  obtain ⟨out, ho⟩ := open_slice Try.underlying25 (k := 11) (by kernel_rfl) (by omega) RAt n (fun m _ cs d ps h => by
    obtain ⟨x, hx⟩ := open_hdr m cs d ps h
    exact ⟨x, fun b o hr => by rw [hx] at hr; exact hr⟩) c13 _ _ g3
  simp only [List.cons.injEq, and_true] at h0 h1
  subst h0 h1
  simp [Lit.wf, IntKind.min, IntKind.max, IntKind.bits, IntKind.signed] at w0 w1
  refine ⟨⟨v0, v1, x, out⟩, c13, ?_, ho, by show _ ≤ v1; omega, by show v1 ≤ _; omega⟩
  congr 2
  show _ = [Value.int .i64 v0, .int .i64 v1] ++ (x.cs.toList ++ [c13])
  rw [← hx]
  rfl
theorem hopF_at {w : World} {h : HopD} {cs : List Value} (k : HopF w h (.agg cs.toArray)) : ∀ b o, w.rangeAt b o cs → HAt w h b o := by
  obtain ⟨ov, he, hs, h1, h2⟩ := k
  have he : cs = hopCs h.step h.pol h.x ov := by simpa using he
  intro b o hr
  rw [he] at hr
  refine ⟨ov, hr, hsl_of hs, ?_, h1, h2⟩
  obtain ⟨p, len, cap, rfl, h1, h2, h3, -⟩ := hs
  omega
theorem polF_at {w : World} {t : Tm} {qs : List Qr} {cs : List Value} (k : PVal w t qs (.agg cs.toArray)) : ∀ b o, w.rangeAt b o cs → PAt w (t, qs) b o := by
  obtain ⟨p, len, cap, qv, he, h1, h2⟩ := k
  have he : cs = [.int .i8 t.op, .int .i8 t.fld, .int .u64 t.n, .slice p len cap, qv] := by simpa using he
  intro b o hr
  rw [he] at hr
  exact ⟨p, len, cap, qv, hr, h1, h2⟩
end
theorem recHop : Try.prog.readableRec 27 = true := by kernel_rfl
theorem rowHop : (27 : TypeId) < Try.prog.types.size := of_decide_eq_true (by kernel_rfl)
theorem recHops : Try.prog.readableRec 37 = true := by kernel_rfl
theorem rowHops : (37 : TypeId) < Try.prog.types.size := of_decide_eq_true (by kernel_rfl)
theorem recPs : Try.prog.readableRec 38 = true := by kernel_rfl
theorem rowPs : (38 : TypeId) < Try.prog.types.size := of_decide_eq_true (by kernel_rfl)
theorem rowInt : (3 : TypeId) < Try.prog.types.size := of_decide_eq_true (by kernel_rfl)
theorem recInt : Try.prog.readableRec 3 = true := by kernel_rfl
section
variable {H : Type} {enc : TypeId × Value → H} {base : Nat}
set_option maxRecDepth 4000 in
theorem hop_val {W : World} {v : Value} {d : DataW H} {ps : List MemPlace} (ho : Value.okWide Try.prog W .any base 27 v) (h : DataW.Trod enc Try.prog W 0 (fun _ => true) true 27 v d ps) : ∃ x : HopD, HopF W x v := by
  obtain ⟨cs, rfl, -⟩ := okWide_struct Try.underlying27 ho
  obtain ⟨fuel, hf⟩ := h
  obtain ⟨x, hx⟩ := open_hop fuel _ d ps hf
  exact ⟨x, by simpa [Value.cells] using hx⟩
set_option maxRecDepth 4000 in
theorem hops_val {W : World} {v : Value} {d : DataW H} {ps : List MemPlace} (ho : Value.okWide Try.prog W .any base 37 v) (h : DataW.Trod enc Try.prog W 0 (fun _ => true) true 37 v d ps) : ∃ l : List HopD, SlOf HAt 14 W l v := by
  obtain ⟨fuel, hf⟩ := h
  have hc : v.cells = #[v] := by
    obtain ⟨a, len, cap, rfl⟩ := okWide_slice Try.underlying37 ho
    rfl
  rw [hc] at hf
  exact open_slice Try.underlying37 (k := 14) (by kernel_rfl) (by omega) HAt fuel (fun m _ cs d ps h => by
    obtain ⟨x, hx⟩ := open_hop m cs d ps h
    exact ⟨x, hopF_at hx⟩) v _ _ hf
set_option maxRecDepth 4000 in
theorem policies_val {W : World} {v : Value} {d : DataW H} {ps : List MemPlace} (ho : Value.okWide Try.prog W .any base 38 v) (h : DataW.Trod enc Try.prog W 0 (fun _ => true) true 38 v d ps) : ∃ l : List PolD, SlOf PAt 5 W l v := by
  obtain ⟨fuel, hf⟩ := h
  have hc : v.cells = #[v] := by
    obtain ⟨a, len, cap, rfl⟩ := okWide_slice Try.underlying38 ho
    rfl
  rw [hc] at hf
  exact open_slice Try.underlying38 (k := 5) (by kernel_rfl) (by omega) PAt fuel (fun m _ cs d ps h => by
    obtain ⟨t, qs, hx⟩ := open_policy m cs d ps h
    exact ⟨(t, qs), polF_at hx⟩) v _ _ hf
set_option maxRecDepth 4000 in
theorem int_val {W : World} {v : Value} (ho : Value.okWide Try.prog W .any base 3 v) : ∃ n : Int, v = .int .i64 n ∧ -9223372036854775808 ≤ n ∧ n ≤ 9223372036854775807 := by
  obtain ⟨n, rfl⟩ := okWide_int Try.underlying3 ho
  simp only [Value.okWide, Try.underlying3] at ho
  have hw := ho.2
  refine ⟨n, rfl, ?_⟩
  simp [IntKind.has, IntKind.min, IntKind.max, IntKind.bits, IntKind.signed] at hw
  omega
theorem stays_Hop {W W' : World} {v : Value} {d : DataW H} {ps : List MemPlace} (sp : Nat → Bool) (h : DataW.Trod enc Try.prog W 0 (fun _ => true) true 27 v d ps) (hb : Below W.heap.size W W') (hlt : ∀ x ∈ ps, x.block < W.heap.size) (hs : ∀ x ∈ ps, sp x.block = true) :
    DataW.Trod enc Try.prog W' 0 sp true 27 v d ps := WideElems.Trod_stays laidL recHop rowHop h (fun x hx => hb.same (hlt x hx)) hs
theorem stays_Hops {W W' : World} {v : Value} {d : DataW H} {ps : List MemPlace} (sp : Nat → Bool) (h : DataW.Trod enc Try.prog W 0 (fun _ => true) true 37 v d ps) (hb : Below W.heap.size W W') (hlt : ∀ x ∈ ps, x.block < W.heap.size) (hs : ∀ x ∈ ps, sp x.block = true) :
    DataW.Trod enc Try.prog W' 0 sp true 37 v d ps := WideElems.Trod_stays laidL recHops rowHops h (fun x hx => hb.same (hlt x hx)) hs
theorem stays_Ps {W W' : World} {v : Value} {d : DataW H} {ps : List MemPlace} (sp : Nat → Bool) (h : DataW.Trod enc Try.prog W 0 (fun _ => true) true 38 v d ps) (hb : Below W.heap.size W W') (hlt : ∀ x ∈ ps, x.block < W.heap.size) (hs : ∀ x ∈ ps, sp x.block = true) :
    DataW.Trod enc Try.prog W' 0 sp true 38 v d ps := WideElems.Trod_stays laidL recPs rowPs h (fun x hx => hb.same (hlt x hx)) hs
theorem stays_Int {W W' : World} {v : Value} {d : DataW H} {ps : List MemPlace} (sp : Nat → Bool) (h : DataW.Trod enc Try.prog W 0 (fun _ => true) true 3 v d ps) (hb : Below W.heap.size W W') (hlt : ∀ x ∈ ps, x.block < W.heap.size) (hs : ∀ x ∈ ps, sp x.block = true) :
    DataW.Trod enc Try.prog W' 0 sp true 3 v d ps := WideElems.Trod_stays laidL recInt rowInt h (fun x hx => hb.same (hlt x hx)) hs
end
def zHop : Value := .agg #[.int .i64 0, .int .i64 0, .int .u64 0, .int .u64 0, .int .u64 0, .int .u64 0, .int .u64 0, .int .u64 0, .int .u64 0, .int .u64 0, .int .u64 0, .int .u64 0, .int .u64 0, .slice none 0 0]
end Go.Proofs.Ytddeelepaiklgaa
