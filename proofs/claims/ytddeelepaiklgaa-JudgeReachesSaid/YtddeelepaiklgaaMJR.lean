/- The document's Reach. -/
import Derived.Test.YtddeelepaiklgaaMJQ
import Derived.Test.YtddeelepaiklgaaMJ3
import Derived.Test.YtddeelepaiklgaaMJ5
import Derived.Test.YtddeelepaiklgaaRow
import Derived.Carry
namespace Go.Proofs.Ytddeelepaiklgaa
open Go.RowKit Go.Maps Go.Sort Go.Lib
set_option linter.unusedSimpArgs false

theorem addAll_put (z : Hdr) : ∀ (xs l : List Hdr), addAll l (xs ++ [z]) = addH (addAll l xs) z
  | [], l => rfl
  | x :: xs, l => by rw [List.cons_append, addAll, addAll_put z xs, addAll]
theorem asc_addAll : ∀ (xs l : List Hdr), Asc l → Asc (addAll l xs)
  | [], _, h => h
  | _ :: xs, _, h => asc_addAll xs _ (asc_addH h)
theorem mem_addAll {y : Hdr} : ∀ (xs l : List Hdr), y ∈ addAll l xs ↔ y ∈ l ∨ y ∈ xs
  | [], l => by simp [addAll]
  | x :: xs, l => by
    rw [addAll, mem_addAll xs, mem_addH, List.mem_cons, or_assoc]
theorem asc_nil : Asc [] := List.Pairwise.nil
theorem addAll_dd (out : List Hdr) : addAll [] out = dd (sortH out) :=
  (asc_addAll out [] asc_nil).ext (dd_sort_asc out) fun y => by
    rw [mem_addAll, mem_dd, (sortH_perm _).mem_iff]
    simp

/-- a list beside the row that grows -/
def OSl (tv : Value) (w : World) (l : List Hdr) (v : Value) : Prop :=
  ∃ p len cap, v = .slice p len cap ∧ len = l.length ∧ (l = [] ∨ ∃ b o, p = some ⟨b, o, none⟩ ∧ tv.ownBlock ≠ some b ∧ w.rangeAt b o (flatH l))
theorem OSl.hsl {tv : Value} {w : World} {l : List Hdr} {v : Value} (h : OSl tv w l v) : HSl w 0 l v := by
  obtain ⟨p, len, cap, rfl, h1, h2⟩ := h
  exact ⟨p, len, cap, rfl, h1, h2.imp id fun ⟨b, o, hp, _, hr⟩ => ⟨b, o, hp, Nat.zero_le _, hr⟩⟩
theorem OSl.ext {tv : Value} {w w' : World} {l : List Hdr} {v : Value} (h : OSl tv w l v) (hx : Ext w w') : OSl tv w' l v := by
  obtain ⟨p, len, cap, rfl, h1, h2⟩ := h
  exact ⟨p, len, cap, rfl, h1, h2.imp id fun ⟨b, o, hp, hn, hr⟩ => ⟨b, o, hp, hn, World.rangeAt.later hx.later hr⟩⟩
theorem OSl.of {tv : Value} {w : World} {lo : Nat} {l : List Hdr} {v : Value} (h : HSl w lo l v) (hS : ∀ b, tv.ownBlock = some b → b < lo) : OSl tv w l v := by
  obtain ⟨p, len, cap, rfl, h1, h2⟩ := h
  exact ⟨p, len, cap, rfl, h1, h2.imp id fun ⟨b, o, hp, hn, hr⟩ => ⟨b, o, hp, fun e => by have := hS b e; omega, hr⟩⟩
theorem range_lt {w : World} {b o : Nat} {l : List Hdr} (hl : l ≠ []) (h : w.rangeAt b o (flatH l)) : b < w.heap.size := by
  cases l with
  | nil => exact absurd rfl hl
  | cons x xs =>
    have := rangeAt_get Hdr.len_cs h 0 (by simp) 0 _ (show (x.cs.toList)[0]? = some _ from by rw [Array.getElem?_toList]; exact x.cell 0 (by omega))
    exact World.block_lt_of_cell? w _ this
theorem OSl.grow {tv tv' : Value} {w w' : World} {l : List Hdr} {v : Value} (h : OSl tv w l v) (hg : w.grownBy w' tv.ownBlock) (hat : tv'.ownBlock = tv.ownBlock ∨ tv'.ownBlock = some w.heap.size) : OSl tv' w' l v := by
  obtain ⟨p, len, cap, rfl, h1, h2⟩ := h
  refine ⟨p, len, cap, rfl, h1, ?_⟩
  by_cases hl : l = []
  · exact .inl hl
  · obtain ⟨b, o, hp, hn, hr⟩ := h2.resolve_left hl
    have hlt := range_lt hl hr
    refine .inr ⟨b, o, hp, ?_, fun j u hu => hg.cell (hr j u hu) (fun e => hn e.symm)⟩
    rcases hat with e | e
    · rw [e]; exact hn
    · rw [e]; intro e2; injection e2 with e2; omega
/-- what the document's Reach has at hand -/
structure DSt (wB wr : World) (tv ov : Value) (thr out : List Hdr) : Prop where
  t : wr.ownsRow wB.heap.size 24 11 tv thr.length (flatH thr)
  o : OSl tv wr (addAll [] out) ov
  c : CapOk ov
  ext : Ext wB wr
theorem DSt.more {wB wr W : World} {tv ov : Value} {thr out : List Hdr} (h : DSt wB wr tv ov thr out) (hx : Ext wr W) : DSt wB W tv ov thr out := ⟨ownsRow_ext h.t hx, h.o.ext hx, h.c, h.ext.trans hx⟩
theorem DSt.putOut {wB W W' : World} {tv ov u : Value} {thr out : List Hdr} {z : Hdr} (h : DSt wB W tv ov thr out) (hx : Ext W W')
    (hu : (u = ov ∧ addH (addAll [] out) z = addAll [] out) ∨ (HSl W' W.heap.size (addH (addAll [] out) z) u ∧ CapOk u)) : DSt wB W' tv u thr (out ++ [z]) := by
  refine ⟨ownsRow_ext h.t hx, ?_, ?_, h.ext.trans hx⟩
  · rw [addAll_put]
    rcases hu with ⟨rfl, he⟩ | ⟨hu, -⟩
    · rw [he]; exact h.o.ext hx
    · exact OSl.of hu (fun b hb => (h.t.lt b hb).2)
  · rcases hu with ⟨rfl, -⟩ | ⟨-, hc⟩
    · exact h.c
    · exact hc
theorem DSt.putThr {wB wr w' : World} {tv tv' ov : Value} {thr out : List Hdr} {x : Hdr} (h : DSt wB wr tv ov thr out)
    (hown : w'.ownsRow wB.heap.size 24 11 tv' (thr ++ [x]).length (flatH (thr ++ [x]))) (hg : wr.grownBy w' tv.ownBlock) (hat : tv'.ownBlock = tv.ownBlock ∨ tv'.ownBlock = some wr.heap.size) : DSt wB w' tv' ov (thr ++ [x]) out :=
  ⟨hown, h.o.grow hg hat, h.c, h.ext.grow' hg (fun i hi => (h.t.lt i hi).1)⟩

set_option maxHeartbeats 8000000 in
set_option maxRecDepth 100000 in
theorem refReach_any (t : Tm) (qs : List Qr) (wires : List WireD) (x : Hdr) (pv wv : Value) (w : World) (hp : PVal w t qs pv) (hw : SlOf WAt 4 w wires wv) :
    Calls Try.prog 16 #[pv, wv, .agg x.cs] w fun e w' => (∃ v, e = .returned (.tuple #[v, .int .i64 (reachP t qs wires x).1]) ∧ HSl w' 0 (reachP t qs wires x).2 v) ∧ Ext w w' := by
  have HPV := Lib.hid hp
  obtain ⟨p, len, cap, qv, rfl, hvt, -⟩ := hp
  have HBD := Lib.hid (show ∀ y ∈ wires, (0 ≤ y.a ∧ y.a ≤ 65535) ∧ (0 ≤ y.ap ∧ y.ap ≤ 65535) ∧ (0 ≤ y.b ∧ y.b ≤ 65535) ∧ (0 ≤ y.bp ∧ y.bp ≤ 65535) from by
    obtain ⟨_, _, _, _, _, _, _, h⟩ := hw
    intro y hy
    rcases h with rfl | ⟨b, o, _, h⟩
    · cases hy
    · obtain ⟨i, hi, rfl⟩ := List.getElem_of_mem hy
      exact (h i hi).2)
  have HOV := Lib.hid (fun s p W (hW : Ext w W) => refOver_any wires wv s p W (by
    obtain ⟨a, b, c, h1, h2, h3, h4, h5⟩ := hw
    exact ⟨a, b, c, h1, h2, h3, h4, h5.imp id fun ⟨b, o, hp, h⟩ => ⟨b, o, hp, fun i hi => ⟨World.rangeAt.later hW.later (h i hi).1, (h i hi).2⟩⟩⟩))
  obtain ⟨wA, hA⟩ : ∃ W : World, w.alloc (.cells #[.int .i8 t.op, .int .i8 t.fld, .int .u64 t.n, .slice p len cap, qv] 34) = W := ⟨_, rfl⟩
  have xA : Ext w wA := hA ▸ Ext.alloc _ _
  have sA : wA.heap.size = w.heap.size + 1 := by rw [← hA, World.size_alloc]
  have rA : wA.rangeAt w.heap.size 0 [.int .i8 t.op, .int .i8 t.fld, .int .u64 t.n, .slice p len cap, qv] := by
    have := rangeAt_new w #[.int .i8 t.op, .int .i8 t.fld, .int .u64 t.n, .slice p len cap, qv] 34
    rw [hA] at this
    exact this
  obtain ⟨wB, hB⟩ : ∃ W : World, wA.alloc (.cells x.cs 24) = W := ⟨_, rfl⟩
  have xB : Ext wA wB := hB ▸ Ext.alloc _ _
  have rB : wB.rangeAt (w.heap.size + 1) 0 x.cs.toList := by
    have := rangeAt_new wA x.cs 24
    rw [hB, sA] at this
    exact this
  have sB : wB.heap.size = w.heap.size + 2 := by rw [← hB, World.size_alloc, sA]
  have HX := Lib.hid (xA.trans xB)
  have HPC := Lib.hid (fun W (hW : Ext wB W) => show W.cell? ⟨w.heap.size, 0, none⟩ = some (.int .i8 t.op) ∧ W.cell? ⟨w.heap.size, 1, none⟩ = some (.int .i8 t.fld) ∧ W.cell? ⟨w.heap.size, 2, none⟩ = some (.int .u64 t.n) ∧ W.cell? ⟨w.heap.size, 3, none⟩ = some (.slice p len cap) ∧ W.cell? ⟨w.heap.size, 4, none⟩ = some qv from by
    have hr := World.rangeAt.later (xB.trans hW).later rA
    exact ⟨by simpa using hr 0 _ rfl, by simpa using hr 1 _ rfl, by simpa using hr 2 _ rfl, by simpa using hr 3 _ rfl, by simpa using hr 4 _ rfl⟩)
  have HRB := Lib.hid (fun W (hW : Ext wB W) => World.rangeAt.later hW.later rB)
  have HVT := Lib.hid (fun W (hW : Ext wB W) => hvt.later (HX.out.trans hW).later)
  have HEQ := Lib.hid (show w.alloc (.cells #[.int .i8 t.op, .int .i8 t.fld, .int .u64 t.n, .slice p len cap, qv] 34) = wA ∧ wA.alloc (.cells x.cs 24) = wB from ⟨hA, hB⟩)
  have HCK := Lib.hid (refCheckQ_any t qs _ wB (HPV.out.later HX.out.later))
  have hwB : w.heap.size ≤ wB.heap.size := by omega
  obtain ⟨wp, wl, wq, rfl⟩ : ∃ a b c, wv = .slice a b c := by obtain ⟨a, b, c, h, -⟩ := hw; exact ⟨a, b, c, h⟩
  obtain ⟨b0, b1, b2, b3, b4⟩ := HPC.out _ (Ext.refl _)
  clear xA sA rA hA xB rB hB hvt hw
  go_enter Try.func16, Try.ntmps16
  go_upto_region 1 with fail
  rw [HEQ.out.1, HEQ.out.2]
  clear HEQ
  go_wp2_with fail
  refine HCK.out.mono ?_
  rintro e w1 ⟨rfl, hx1⟩
  have HX1 := Lib.hid hx1
  clear b0 b1 b2 b3 b4
  by_cases h0 : checkP t qs = 0
  case neg =>
    have HF := Lib.hid (show reachP t qs wires x = (checkP t qs, []) from by unfold reachP; rw [if_neg h0])
    generalize checkP t qs = y at *
    go_wp2_with fail
    go_ret2
    exact ⟨⟨.slice none 0 0, by rw [HF.out]; rfl, by rw [HF.out]; exact ⟨none, 0, 0, rfl, rfl, .inl rfl⟩⟩, HX.out.trans HX1.out⟩
  have HP1 := Lib.hid (show reachP t qs wires x = if headE x = 0 ∧ x.f 3 = 0 then (if (reachN t wires 1025 0 [x] []).1 = 0 then (0, dd (sortH (reachN t wires 1025 0 [x] []).2)) else ((reachN t wires 1025 0 [x] []).1, [])) else (10, []) from by unfold reachP; rw [if_pos h0])
  have HR1 := Lib.hid (HRB.out _ HX1.out)
  have HHD := Lib.hid (ref01Check_any x w1)
  rw [h0]
  clear h0
  go_upto_region 4 with fail
  go_wp2_with (first | (refine wpList_load_H rfl _ rfl _ _ rfl x HR1.out ?_))
  refine HHD.out.mono ?_
  rintro e w2 ⟨rfl, hx2⟩
  have HX2 := Lib.hid (HX1.out.trans hx2)
  have c3 := cellAt (HRB.out _ HX2.out) 3 (by omega)
  simp only [Nat.zero_add] at c3
  by_cases hh : headE x = 0
  case neg =>
    have HF := Lib.hid (show reachP t qs wires x = (10, []) from by rw [HP1.out, if_neg (fun h => hh h.1)])
    generalize headE x = y at *
    go_wp2_with fail
    go_ret2
    exact ⟨⟨.slice none 0 0, by rw [HF.out]; rfl, by rw [HF.out]; exact ⟨none, 0, 0, rfl, rfl, .inl rfl⟩⟩, HX.out.trans HX2.out⟩
  by_cases h3 : x.f 3 = 0
  case neg =>
    have HF := Lib.hid (show reachP t qs wires x = (10, []) from by rw [HP1.out, if_neg (fun h => h3 h.2)])
    rw [hh]
    generalize x.f 3 = y at *
    go_wp2_with fail
    go_ret2
    exact ⟨⟨.slice none 0 0, by rw [HF.out]; rfl, by rw [HF.out]; exact ⟨none, 0, 0, rfl, rfl, .inl rfl⟩⟩, HX.out.trans HX2.out⟩
  have HP2 := Lib.hid (show reachP t qs wires x = if (reachN t wires 1025 0 [x] []).1 = 0 then (0, dd (sortH (reachN t wires 1025 0 [x] []).2)) else ((reachN t wires 1025 0 [x] []).1, []) from by rw [HP1.out, if_pos ⟨hh, h3⟩])
  rw [hh]
  rw [h3] at c3
  clear hh h3 HP1
  obtain ⟨wC, hC⟩ : ∃ W : World, w2.alloc (.cells x.cs 24) = W := ⟨_, rfl⟩
  have xC : Ext w2 wC := hC ▸ Ext.alloc _ _
  have HSt := Lib.hid (show DSt wB wC (.slice (some ⟨w2.heap.size, 0, none⟩) 1 1) (.slice none 0 0) [x] [] from by
    have ho := owns_one (w := w2) (w' := wB) (x := x) HX2.out.size
    rw [hC] at ho
    exact ⟨ho, ⟨none, 0, 0, rfl, rfl, .inl rfl⟩, ⟨none, 0, 0, rfl, Nat.le_refl _, by omega⟩, HX2.out.trans xC⟩)
  have HRC := Lib.hid (HRB.out _ HX2.out)
  have HEQ := Lib.hid hC
  clear hC xC
  go_upto_region 8 with (first | (refine wpList_load_H rfl _ rfl _ _ rfl x HRC.out ?_) | (refine wpList_one_H rfl _ rfl x rfl ?_))
  rw [HEQ.out]
  try simp only [Act.put]
  go_wp2_with fail
  go_loopw [9, 10, 11] (fun ov tv i wr => ∃ (k : Nat) (thr out : List Hdr), k ≤ thr.length ∧ thr.length ≤ 1024 ∧ i = .int .i64 k ∧ Hid (DSt wB wr tv ov thr out) ∧ out.length ≤ 64 * k ∧ Hid (reachN t wires (1025 - k) k thr out = reachN t wires 1025 0 [x] [])) (fun _ _ i _ => 1024 - (intOf i).toNat)
  case atStart => exact ⟨0, [x], [], by simp, by simp, rfl, HSt.out, by simp, rfl⟩
  case round =>
    obtain ⟨wo, rfl⟩ : ∃ wo : World, wo = wr := ⟨_, rfl⟩
    obtain ⟨k, thr, out, hk, hthr, rfl, hst, hout, hN⟩ := hrel
    obtain ⟨pt, nt, ct, rfl, hnt, hrt⟩ := HSl.of_owns hst.out.t
    have HNT := Lib.hid hnt
    clear hnt
    have hN2 : (match thr[k]? with
      | none => (0, out)
      | some y => if (ofC t y).1 = 0 then (match foldX wires (ofC t y).2 thr out with | none => (200, []) | some r => reachN t wires (1024 - k) (k + 1) r.1 r.2) else ((ofC t y).1, [])) = reachN t wires 1025 0 [x] [] := by
      have := hN.out
      rw [show 1025 - k = (1024 - k) + 1 by omega, reachN] at this
      exact this
    by_cases hlt : k < nt
    · have hkl : k < thr.length := by have := HNT.out; omega
      rw [List.getElem?_eq_getElem hkl] at hN2
      rcases hrt with hrt | ⟨bt, ot, rfl, hbt, hrt⟩
      · exfalso; subst hrt; simp at hkl
      have hry := fun W (hW : Ext wo W) => rangeAt_get Hdr.len_cs (World.rangeAt.later hW.later hrt) k hkl
      generalize thr[k] = y at *
      have hN3 : (if (ofC t y).1 = 0 then (match foldX wires (ofC t y).2 thr out with | none => (200, []) | some r => reachN t wires (1024 - k) (k + 1) r.1 r.2) else ((ofC t y).1, [])) = reachN t wires 1025 0 [x] [] := hN2
      have HOF := Lib.hid (fun W (hW : Ext wo W) => refOf_any t _ y W (HVT.out _ (hst.out.ext.trans hW)))
      generalize ofC t y = R at *
      obtain ⟨c, l⟩ := R
      have HSS := Lib.hid (fun W (hW : Ext wo W) => (show (fun W => W.cell? ⟨w.heap.size, 0, none⟩ = some (.int .i8 t.op) ∧ W.cell? ⟨w.heap.size, 1, none⟩ = some (.int .i8 t.fld) ∧ W.cell? ⟨w.heap.size, 2, none⟩ = some (.int .u64 t.n) ∧ W.cell? ⟨w.heap.size, 3, none⟩ = some (.slice p len cap) ∧ W.rangeAt bt (ot + k * 11) y.cs.toList) W from by
        obtain ⟨a0, a1, a2, a3, -⟩ := HPC.out _ (hst.out.ext.trans hW)
        exact ⟨a0, a1, a2, a3, hry W hW⟩))
      obtain ⟨a0, a1, a2, a3, hrx⟩ := HSS.out _ (Ext.refl _)
      have hxd := Ext.drew wo
      have HN3 := Lib.hid hN3
      have hu28 : Try.prog.underlying 24 = some (.array 11 22) := Try.underlying24
      have hi28 : (Try.prog.info? 24).map (·.size) = some y.cs.toList.length := by rw [y.len_cs]; kernel_rfl
      clear hN2 hN3 hN hry hrt
      go_upto_region 11 with fail
      go_region_held3 (fun W => W.cell? ⟨w.heap.size, 0, none⟩ = some (.int .i8 t.op) ∧ W.cell? ⟨w.heap.size, 1, none⟩ = some (.int .i8 t.fld) ∧ W.cell? ⟨w.heap.size, 2, none⟩ = some (.int .u64 t.n) ∧ W.cell? ⟨w.heap.size, 3, none⟩ = some (.slice p len cap) ∧ W.rangeAt bt (ot + k * 11) y.cs.toList) (first | exact HSS.out _ hxd | exact HSS.out _ (hxd.trans hx5)) (first
        | (go_at_call 26; refine (HOF.out _ hxd).mono ?_; rintro e w5 ⟨hx5, h64, v5, rfl, hs5⟩))
      clear a0 a1 a2 a3 hrx hu28 hi28
      have hxo5 : Ext wo w5 := hxd.trans hx5
      have HS5 := Lib.hid (hst.out.more hxo5)
      by_cases hc : c = 0
      case neg =>
        have HF := Lib.hid (show reachP t qs wires x = (c, []) from by
          have : reachN t wires 1025 0 [x] [] = (c, []) := by rw [← HN3.out, if_neg hc]
          rw [HP2.out, this, if_neg hc])
        go_wp2_with fail
        go_ret2
        exact ⟨⟨.slice none 0 0, by rw [HF.out]; rfl, by rw [HF.out]; exact ⟨none, 0, 0, rfl, rfl, .inl rfl⟩⟩, HX.out.trans HS5.out.ext⟩
      have HN4 := Lib.hid (show (match foldX wires l thr out with | none => (200, []) | some r => reachN t wires (1024 - k) (k + 1) r.1 r.2) = reachN t wires 1025 0 [x] [] from by
        have := HN3.out
        rw [if_pos hc] at this
        exact this)
      subst hc
      have HLS := Lib.hid (show OSl (.slice (some ⟨bt, ot, none⟩) nt ct) w5 l v5 from OSl.of hs5 (fun b hb => by
        have ht := (hst.out.t.lt b hb).2
        rw [World.size_drew]
        exact ht))
      obtain ⟨p5, n5, c5, rfl, hn5, -⟩ := hs5
      have HN5 := Lib.hid hn5
      have hn64 : n5 ≤ 64 := by omega
      clear hn5 HN3 hst h64
      go_wp2_with fail
      go_loopw [9, 10, 14] (fun ov tv j wr => ∃ (j' : Nat) (thr' out' : List Hdr), j' ≤ n5 ∧ j = .int .i64 j' ∧ Hid (DSt wB wr tv ov thr' out') ∧ out'.length ≤ 64 * k + j' ∧ k + 1 ≤ thr'.length ∧ thr'.length ≤ 1024 ∧ Hid (foldX wires (l.drop j') thr' out' = foldX wires l thr out) ∧ Hid (OSl tv wr l (.slice p5 n5 c5))) (fun _ _ j _ => n5 - (intOf j).toNat)
      case atStart => exact ⟨0, thr, out, Nat.zero_le _, rfl, HS5.out, by omega, hkl, hthr, rfl, HLS.out⟩
      case round =>
        obtain ⟨wn, rfl⟩ : ∃ wn : World, wn = wr := ⟨_, rfl⟩
        obtain ⟨j', thr', out', hj, rfl, hst, hout', hk1, hthr', hF, hls⟩ := hrel
        obtain ⟨pt', nt', ct', rfl, hnt', -⟩ := HSl.of_owns hst.out.t
        have HNT' := Lib.hid hnt'
        clear hnt'
        by_cases hlt2 : j' < n5
        · have hjl : j' < l.length := by rw [← HN5.out]; exact hlt2
          obtain ⟨p6, n6, c6, he6, -, hrl⟩ := hls.out
          cases he6
          rcases hrl with hrl | ⟨b6, o6, rfl, -, hrl⟩
          · exfalso; subst hrl; simp at hjl
          have HRZ := Lib.hid (rangeAt_get Hdr.len_cs hrl j' hjl)
          have hF2 := hF.out
          rw [drop_get hjl, foldX] at hF2
          generalize l[j'] = z at *
          obtain ⟨wS, hS⟩ : ∃ W : World, wn.alloc (.cells z.cs 24) = W := ⟨_, rfl⟩
          have xS : Ext wn wS := hS ▸ Ext.alloc _ _
          have sS : wS.heap.size = wn.heap.size + 1 := by rw [← hS, World.size_alloc]
          have rS : wS.rangeAt wn.heap.size 0 z.cs.toList := by rw [← hS]; exact rangeAt_new wn z.cs 24
          have fS : ∀ i, wS.frozen? ⟨wn.heap.size, i, none⟩ = false := fun i => by
            have := World.frozen?_alloc_mark wn z.cs 24 0 0 i
            rw [← hS, this]; simp
          have HRS := Lib.hid rS
          have HFS := Lib.hid fS
          have HXS := Lib.hid xS
          have HEQ := Lib.hid hS
          have HH := Lib.hid (ref01Check_any z wS)
          have HF2 := Lib.hid hF2
          clear hrl hF2 hF hS xS rS fS
          go_upto_region 18 with (first
            | (refine wpList_store_new rfl 24 _ _ rfl _ z.cs rfl rfl (by rw [z.size_cs]; kernel_rfl) (by rw [z.size_cs]; rfl) (all_oneCell_toArray z.one) ?_)
            | (refine wpList_load_H rfl _ rfl _ _ rfl z HRZ.out ?_))
          rw [HEQ.out]
          try simp only [Act.put]
          go_wp2_with (first | (refine wpList_load_H rfl _ rfl _ _ rfl z HRS.out ?_))
          refine HH.out.mono ?_
          rintro e w7 ⟨rfl, hx7⟩
          have HX7 := Lib.hid (HXS.out.trans hx7)
          have HRZ7 := Lib.hid (World.rangeAt.later hx7.later HRS.out)
          have c9 := cellAt HRZ7.out 9 (by omega)
          have c10 := cellAt HRZ7.out 10 (by omega)
          simp only [Nat.zero_add] at c9 c10
          by_cases hz : headE z = 0
          case neg =>
            have HG := Lib.hid (show foldX wires (l.drop (j' + 1)) thr' out' = foldX wires l thr out from by
              rw [← HF2.out, stepX, if_neg hz]; rfl)
            generalize headE z = hE at *
            clear c9 c10
            go_wp2_with fail
            go_roundw
            case rel => exact ⟨j' + 1, thr', out', by omega, by go_num, hst.out.more HX7.out, by omega, hk1, hthr', HG.out, hls.out.ext HX7.out⟩
            case measure => simp [intOf]; omega
          have HG2 := Lib.hid (show ((match overP (IntKind.u16.wrap (z.f 10)) (IntKind.u16.wrap (z.f 9)) wires with
              | none => some (thr', out' ++ [z])
              | some r => if moveTo z r.1 r.2 ∈ thr' then some (thr', out') else if thr'.length = 1024 then none else some (thr' ++ [moveTo z r.1 r.2], out')).bind fun r => foldX wires (l.drop (j' + 1)) r.1 r.2) = foldX wires l thr out from by
            rw [← HF2.out, stepX, if_pos hz]
            cases overP (IntKind.u16.wrap (z.f 10)) (IntKind.u16.wrap (z.f 9)) wires <;> rfl)
          have HOZ := Lib.hid (HOV.out (IntKind.u16.wrap (z.f 10)) (IntKind.u16.wrap (z.f 9)) w7 (HX.out.trans (hst.out.ext.trans HX7.out)))
          have HOB := Lib.hid (overP_bd (IntKind.u16.wrap (z.f 10)) (IntKind.u16.wrap (z.f 9)) wires HBD.out)
          rw [hz]
          clear hz HF2
          generalize overP (IntKind.u16.wrap (z.f 10)) (IntKind.u16.wrap (z.f 9)) wires = O at *
          go_upto_region 19 with fail
          cases O with
          | none =>
            have HG := Lib.hid (show foldX wires (l.drop (j' + 1)) thr' (out' ++ [z]) = foldX wires l thr out from HG2.out)
            have HOZ' := Lib.hid (show Calls Try.prog 32 #[.slice wp wl wq, .agg #[.int .u16 (IntKind.u16.wrap (z.f 10)), .int .u16 (IntKind.u16.wrap (z.f 9))]] w7 fun e w' => e = .returned (.tuple #[.agg #[.int .u16 0, .int .u16 0], .bool false]) ∧ Ext w7 w' from HOZ.out)
            clear HG2 HOZ
            go_wp2_with fail
            refine HOZ'.out.mono ?_
            rintro e w8 ⟨rfl, hx8⟩
            obtain ⟨w9, h9⟩ : ∃ W : World, w8.alloc (.cells #[.int .u16 0, .int .u16 0] 58) = W := ⟨_, rfl⟩
            have HX9 := Lib.hid (show Ext wn w9 from (HX7.out.trans hx8).trans (h9 ▸ Ext.alloc _ _))
            have HRZ9 := Lib.hid (show w9.rangeAt wn.heap.size 0 z.cs.toList from World.rangeAt.later (hx8.trans (h9 ▸ Ext.alloc _ _)).later HRZ7.out)
            have HEQ9 := Lib.hid h9
            have HST9 := Lib.hid (hst.out.more HX9.out)
            have HLS9 := Lib.hid (hls.out.ext HX9.out)
            have HPUT := Lib.hid (refPut_any (addAll [] out') u9 z 0 w9 HST9.out.o.hsl (asc_addAll out' [] asc_nil) (by have := (length_addAll out' []).2; simp at this; omega) HST9.out.c)
            clear c9 c10 hx8 h9
            go_upto_region 20 with (first | (refine wpList_store_new rfl 58 _ _ rfl _ #[.int .u16 0, .int .u16 0] rfl rfl (by kernel_rfl) rfl (by rfl) ?_))
            rw [HEQ9.out]
            try simp only [Act.put]
            go_wp2_with (first
              | (refine wpList_load_H rfl _ rfl _ _ rfl z HRZ9.out ?_))
            refine HPUT.out.mono ?_
            rintro e wp ⟨u, rfl, hu, hxp⟩
            have HSTp := Lib.hid (HST9.out.putOut hxp hu)
            have HLSp := Lib.hid (HLS9.out.ext hxp)
            clear hu hxp
            go_wp2_with fail
            go_roundw
            case rel => exact ⟨j' + 1, thr', out' ++ [z], by omega, by go_num, HSTp.out, by simp only [List.length_append, List.length_cons, List.length_nil]; omega, hk1, hthr', HG.out, HLSp.out⟩
            case measure => simp [intOf]; omega
          | some r =>
            obtain ⟨a, b⟩ := r
            have hab := HOB.out (a, b) rfl
            have HG := Lib.hid (show ((if moveTo z a b ∈ thr' then some (thr', out') else if thr'.length = 1024 then none else some (thr' ++ [moveTo z a b], out')).bind fun r => foldX wires (l.drop (j' + 1)) r.1 r.2) = foldX wires l thr out from HG2.out)
            have HOZ' := Lib.hid (show Calls Try.prog 32 #[.slice wp wl wq, .agg #[.int .u16 (IntKind.u16.wrap (z.f 10)), .int .u16 (IntKind.u16.wrap (z.f 9))]] w7 fun e w' => e = .returned (.tuple #[.agg #[.int .u16 a, .int .u16 b], .bool true]) ∧ Ext w7 w' from HOZ.out)
            clear HG2 HOZ
            go_wp2_with fail
            refine HOZ'.out.mono ?_
            rintro e w8 ⟨rfl, hx8⟩
            obtain ⟨w9, h9⟩ : ∃ W : World, w8.alloc (.cells #[.int .u16 a, .int .u16 b] 58) = W := ⟨_, rfl⟩
            have x89 : Ext w8 w9 := h9 ▸ Ext.alloc _ _
            have HX9 := Lib.hid ((HX7.out.trans hx8).trans x89)
            have d0 : w9.cell? ⟨w8.heap.size, 0, none⟩ = some (.int .u16 a) := by rw [← h9]; simp [go_sem]
            have d1 : w9.cell? ⟨w8.heap.size, 1, none⟩ = some (.int .u16 b) := by rw [← h9]; simp [go_sem]
            have hrz9 : w9.rangeAt wn.heap.size 0 z.cs.toList := World.rangeAt.later (hx8.trans x89).later HRZ7.out
            have g9 := (hx8.trans x89).later _ _ c9
            have g10 := (hx8.trans x89).later _ _ c10
            have hSx : Ext wS w9 := (hx7.trans hx8).trans x89
            have f9 : w9.frozen? ⟨wn.heap.size, 9, none⟩ = false := by rw [Below.frozen hSx (show wn.heap.size < wS.heap.size by omega)]; exact HFS.out 9
            have f10 : w9.frozen? ⟨wn.heap.size, 10, none⟩ = false := by rw [Below.frozen hSx (show wn.heap.size < wS.heap.size by omega)]; exact HFS.out 10
            have ha64 : IntKind.u64.wrap a = a := by rw [IntKind.wrap_u64]; omega
            have hb64 : IntKind.u64.wrap b = b := by rw [IntKind.wrap_u64]; omega
            have HEQ9 := Lib.hid h9
            have HRM := Lib.hid (show ((w9.setCell ⟨wn.heap.size, 10, none⟩ (.int .u64 a)).setCell ⟨wn.heap.size, 9, none⟩ (.int .u64 b)).rangeAt wn.heap.size 0 (moveTo z a b).cs.toList from by
              rw [moveTo_cs z a b hab.1 hab.2]
              exact rangeAt_set (rangeAt_set hrz9 (by rw [z.size_cs]; omega) _) (by rw [Array.size_setIfInBounds, z.size_cs]; omega) _)
            have HXM := Lib.hid (show Ext wn ((w9.setCell ⟨wn.heap.size, 10, none⟩ (.int .u64 a)).setCell ⟨wn.heap.size, 9, none⟩ (.int .u64 b)) from (HX9.out.andSet (Nat.le_refl wn.heap.size) _).andSet (Nat.le_refl wn.heap.size) _)
            clear c9 c10 hx8 h9 hSx hx7 x89 hrz9
            go_upto_region 20 with (first | (refine wpList_store_new rfl 58 _ _ rfl _ #[.int .u16 a, .int .u16 b] rfl rfl (by kernel_rfl) rfl (by rfl) ?_))
            rw [HEQ9.out]
            try simp only [Act.put]
            go_upto_region 24 with fail
            generalize (w9.setCell ⟨wn.heap.size, 10, none⟩ (.int .u64 a)).setCell ⟨wn.heap.size, 9, none⟩ (.int .u64 b) = wm at *
            clear d0 d1 g9 g10 f9 f10 ha64 hb64 HEQ9
            generalize moveTo z a b = m at *
            have HSTm := Lib.hid (hst.out.more HXM.out)
            have HLSm := Lib.hid (hls.out.ext HXM.out)
            have HHS := Lib.hid (refHas_any thr' (.slice pt' nt' ct') m wm ((HSl.of_owns HSTm.out.t).mono (Nat.zero_le _)) (by omega))
            go_wp2_with (first
              | (refine wpList_load_H rfl _ rfl _ _ rfl m HRM.out ?_))
            refine HHS.out.mono ?_
            rintro e wh ⟨rfl, hxh⟩
            have HSTh := Lib.hid (HSTm.out.more hxh)
            have HLSh := Lib.hid (HLSm.out.ext hxh)
            have HRMh := Lib.hid (World.rangeAt.later hxh.later HRM.out)
            clear hxh
            by_cases hin : m ∈ thr'
            · have HG3 := Lib.hid (show foldX wires (l.drop (j' + 1)) thr' out' = foldX wires l thr out from by
                have := HG.out
                rw [if_pos hin] at this
                exact this)
              rw [decide_eq_true hin]
              clear hin HG
              go_wp2_with fail
              go_roundw
              case rel => exact ⟨j' + 1, thr', out', by omega, by go_num, HSTh.out, by omega, hk1, hthr', HG3.out, HLSh.out⟩
              case measure => simp [intOf]; omega
            · have HG3 := Lib.hid (show ((if thr'.length = 1024 then none else some (thr' ++ [m], out')).bind fun r => foldX wires (l.drop (j' + 1)) r.1 r.2) = foldX wires l thr out from by
                have := HG.out
                rw [if_neg hin] at this
                exact this)
              rw [decide_eq_false hin]
              clear hin HG
              by_cases hfull : 1024 ≤ nt'
              · have HE := Lib.hid (show foldX wires l thr out = none from by
                  rw [← HG3.out, if_pos (by have := HNT'.out; omega)]; rfl)
                have HF := Lib.hid (show reachP t qs wires x = (200, []) from by
                  have h1 : reachN t wires 1025 0 [x] [] = (200, []) := by rw [← HN4.out, HE.out]
                  rw [HP2.out, h1, if_neg (by show ¬ (200 : Int) = 0; omega)])
                clear HG3
                go_wp2_with fail
                go_ret2
                exact ⟨⟨.slice none 0 0, by rw [HF.out]; rfl, by rw [HF.out]; exact ⟨none, 0, 0, rfl, rfl, .inl rfl⟩⟩, HX.out.trans HSTh.out.ext⟩
              · have HG4 := Lib.hid (show foldX wires (l.drop (j' + 1)) (thr' ++ [m]) out' = foldX wires l thr out from by
                  have := HG3.out
                  rw [if_neg (by have := HNT'.out; omega)] at this
                  exact this)
                have HSTa := Lib.hid (HSTh.out.more (Ext.alloc _ (.cells m.cs 24)))
                have HLSa := Lib.hid (HLSh.out.ext (Ext.alloc _ (.cells m.cs 24)))
                have hb9 : wB.heap.size ≤ (wh.alloc (.cells m.cs 24)).heap.size := HSTa.out.ext.size
                have hthr2 : thr'.length < 1024 := by have := HNT'.out; omega
                clear HG3
                go_wp2_with (first
                  | (refine wpList_load_H rfl _ rfl _ _ rfl m HRMh.out ?_)
                  | (refine wpList_one_H rfl _ rfl m rfl ?_)
                  | (at_builtin; refine wpList_append_H_at rfl _ _ rfl wB.heap.size (.slice pt' nt' ct') thr' rfl HSTa.out.t _ m rfl (rangeAt_new _ _ _) (by omega) hb9 ?_; intro v' w' hown' hg' hat'))
                go_roundw
                case rel => exact ⟨j' + 1, thr' ++ [m], out', by omega, by go_num, HSTa.out.putThr hown' hg' hat', by omega, by simp only [List.length_append, List.length_cons, List.length_nil]; omega, by simp only [List.length_append, List.length_cons, List.length_nil]; omega, HG4.out, HLSa.out.grow hg' hat'⟩
                case measure => simp [intOf]; omega
        · have HE := Lib.hid (show foldX wires l thr out = some (thr', out') from by
            rw [← hF.out, List.drop_of_length_le (by have := HN5.out; omega), foldX])
          have HN6 := Lib.hid (show reachN t wires (1025 - (k + 1)) (k + 1) thr' out' = reachN t wires 1025 0 [x] [] from by
            have := HN4.out
            rw [HE.out] at this
            rw [show 1025 - (k + 1) = 1024 - k by omega]
            exact this)
          clear hF
          go_wp2_with fail
          go_roundw
          case rel => exact ⟨k + 1, thr', out', hk1, hthr', by go_num, hst.out, by omega, HN6.out⟩
          case measure => simp [intOf]; omega
    · have hnone : thr[k]? = none := List.getElem?_eq_none (by have := HNT.out; omega)
      have HR := Lib.hid (show reachN t wires 1025 0 [x] [] = (0, out) from by rw [← hN2, hnone])
      have HF := Lib.hid (show reachP t qs wires x = (0, dd (sortH out)) from by rw [HP2.out, HR.out, if_pos rfl])
      have HSLO := Lib.hid (show HSl wo 0 (dd (sortH out)) u9 from by rw [← addAll_dd]; exact hst.out.o.hsl)
      clear hN hN2 hnone
      go_wp2_with fail
      go_ret2
      exact ⟨⟨u9, by rw [HF.out]; rfl, by rw [HF.out]; exact HSLO.out⟩, HX.out.trans hst.out.ext⟩
end Go.Proofs.Ytddeelepaiklgaa
/- JudgeReaches, walked. -/
namespace Go.Proofs.Ytddeelepaiklgaa
open Go.RowKit Go.Maps Go.Sort Go.Lib
set_option linter.unusedSimpArgs false

set_option maxHeartbeats 4000000 in
set_option maxRecDepth 100000 in
theorem lawReaches_any (t : Tm) (q1 : List Qr) (wires : List WireD) (x : Hdr) (v1 wv : Value) (w : World) (h1 : PVal w t q1 v1) (hw : SlOf WAt 4 w wires wv) :
    Calls Try.prog 5 #[v1, wv, .agg x.cs] w fun e w' => e = .returned (.bool true) ∧ Ext w w' := by
  have HPV := Lib.hid h1
  obtain ⟨p, len, cap, qv, rfl, hvt, -⟩ := h1
  have HWS := Lib.hid (fun W (hW : Ext w W) => show SlOf WAt 4 W wires wv from by
    obtain ⟨a, b, c, e1, e2, e3, e4, e5⟩ := hw
    exact ⟨a, b, c, e1, e2, e3, e4, e5.imp id fun ⟨b, o, hp, h⟩ => ⟨b, o, hp, fun i hi => ⟨World.rangeAt.later hW.later (h i hi).1, (h i hi).2⟩⟩⟩)
  obtain ⟨wp, wl, wq, rfl⟩ : ∃ a b c, wv = .slice a b c := by obtain ⟨a, b, c, h, -⟩ := hw; exact ⟨a, b, c, h⟩
  obtain ⟨wA, hA⟩ : ∃ W : World, w.alloc (.cells #[.int .i8 t.op, .int .i8 t.fld, .int .u64 t.n, .slice p len cap, qv] 34) = W := ⟨_, rfl⟩
  have xA : Ext w wA := hA ▸ Ext.alloc _ _
  have sA : wA.heap.size = w.heap.size + 1 := by rw [← hA, World.size_alloc]
  have rA : wA.rangeAt w.heap.size 0 [.int .i8 t.op, .int .i8 t.fld, .int .u64 t.n, .slice p len cap, qv] := by rw [← hA]; exact rangeAt_new w _ _
  obtain ⟨wB, hB⟩ : ∃ W : World, wA.alloc (.cells x.cs 24) = W := ⟨_, rfl⟩
  have xB : Ext wA wB := hB ▸ Ext.alloc _ _
  have rB : wB.rangeAt (w.heap.size + 1) 0 x.cs.toList := by rw [← hB, ← sA]; exact rangeAt_new wA _ _
  have HX := Lib.hid (xA.trans xB)
  have HPC := Lib.hid (fun W (hW : Ext wB W) => show W.cell? ⟨w.heap.size, 0, none⟩ = some (.int .i8 t.op) ∧ W.cell? ⟨w.heap.size, 1, none⟩ = some (.int .i8 t.fld) ∧ W.cell? ⟨w.heap.size, 2, none⟩ = some (.int .u64 t.n) ∧ W.cell? ⟨w.heap.size, 3, none⟩ = some (.slice p len cap) ∧ W.cell? ⟨w.heap.size, 4, none⟩ = some qv from by
    have hr := World.rangeAt.later (xB.trans hW).later rA
    exact ⟨by simpa using hr 0 _ rfl, by simpa using hr 1 _ rfl, by simpa using hr 2 _ rfl, by simpa using hr 3 _ rfl, by simpa using hr 4 _ rfl⟩)
  have HRB := Lib.hid (fun W (hW : Ext wB W) => World.rangeAt.later hW.later rB)
  have HEQ := Lib.hid (And.intro hA hB)
  have HPL := Lib.hid (reachP_len t q1 wires x)
  have HRE := Lib.hid (fun W (hW : Ext w W) => reach_any t q1 wires x _ _ W (HPV.out.later hW.later) (HWS.out W hW))
  have HRR := Lib.hid (fun W (hW : Ext w W) => refReach_any t q1 wires x _ _ W (HPV.out.later hW.later) (HWS.out W hW))
  obtain ⟨b0, b1, b2, b3, b4⟩ := HPC.out _ (Ext.refl _)
  have HR1 := Lib.hid (HRB.out _ (Ext.refl _))
  clear xA rA hA xB rB hB hvt hw sA
  go_enter Try.func5, Try.ntmps5
  go_upto_region 1 with fail
  rw [HEQ.out.1, HEQ.out.2]
  clear HEQ
  by_cases h30 : 30 < wl
  · go_wp2_with fail
    refine (wakes30_any wB).mono ?_
    rintro e w1 ⟨rfl, hx1⟩
    go_wp2_with fail
    go_ret
    exact ⟨rfl, HX.out.trans hx1⟩
  go_wp2_with (first | (refine wpList_load_H rfl _ rfl _ _ rfl x HR1.out ?_))
  refine (HRE.out _ HX.out).mono ?_
  rintro e w1 ⟨⟨r1, rfl, hs1⟩, hx1⟩
  have HX1 := Lib.hid hx1
  have HS1 := Lib.hid hs1
  clear b0 b1 b2 b3 b4 hx1 hs1
  obtain ⟨b0, b1, b2, b3, b4⟩ := HPC.out _ HX1.out
  have HR2 := Lib.hid (HRB.out _ HX1.out)
  generalize reachP t q1 wires x = A at *
  obtain ⟨ca, l⟩ := A
  go_wp2_with (first | (refine wpList_load_H rfl _ rfl _ _ rfl x HR2.out ?_))
  refine (HRR.out _ (HX.out.trans HX1.out)).mono ?_
  rintro e w2 ⟨⟨r2, rfl, hs2⟩, hx2⟩
  have HX2 := Lib.hid (HX1.out.trans hx2)
  have HHE := Lib.hid (heads_any l l r1 r2 _ _ w2 (HS1.out.ext hx2) hs2 HPL.out)
  have HDE := Lib.hid (show decide (l = l) = true from by simp)
  clear b0 b1 b2 b3 b4 hx2 hs2
  go_wp2_with fail
  refine HHE.out.mono ?_
  rintro e w3 ⟨rfl, hx3⟩
  rw [HDE.out]
  have HX3 := Lib.hid (HX2.out.trans hx3)
  clear hx3
  go_wp2_with fail
  refine (wakes30_any _).mono ?_
  rintro e w4 ⟨rfl, hx4⟩
  go_wp2_with fail
  go_ret
  exact ⟨rfl, HX.out.trans (HX3.out.trans hx4)⟩
end Go.Proofs.Ytddeelepaiklgaa
/- JudgeReaches returns true for every input, and each argument reads behind the call as before it. Conditions: none. -/
namespace Go.Proofs.Ytddeelepaiklgaa
open Go.ChangeShapes Go.WideShapes Go.ChangeAt Go.RowKit
set_option linter.unusedSimpArgs false

set_option maxRecDepth 100000 in
theorem judgeReaches_lifted (os : Os) (started : os.Started) (H : Type) (enc : TypeId × Value → H) :
    ReturnsInHanded {} Try.checked os 5 .any (Rows.judgeReachesSpec.pre6 enc Try.prog Try.f5 Rows.judgeReachesRow.domain false) (Rows.judgeReachesSpec.post enc Try.prog Try.f5 false true false false) := by
  refine returnsInHanded_of_change (C := Try.checked) ownL started (by kernel_rfl) Try.func5
    (ChangeSpec.witness6 (enc := enc) (C := Try.checked) false ⟨#[], #[zP, .slice none 0 0, zH], []⟩ 8 (by kernel_rfl) (by kernel_rfl) (by kernel_rfl) (by kernel_rfl)) ?_
  intro W base args ds gs before hval0 hW hcnd _
  have hval : ∀ (j : Nat) t v, Try.f5.params[j]? = some t → args[j]? = some v → Value.okWide Try.prog W .any base t v := hval0
  have hW' := hW
  obtain ⟨p, q, hA0, hV, rfl, hfz, hnd⟩ := hW
  have hA : DataW.TrodAll enc Try.prog W 0 (fun _ => true) true Try.f5.params.toList args.toList ds p := hA0
  rw [Try.params5] at hA hval
  obtain ⟨v0, v1, v2, d0, d1, d2, p0, p1, p2, rfl, rfl, rfl, h0, h1, h2⟩ := trodAll_three hA
  obtain ⟨rfl, rfl⟩ := trodVars_none hV
  obtain ⟨t0, q0, w0⟩ := policy_val (hval 0 34 v0 rfl rfl) h0
  obtain ⟨s1, w1⟩ := wires_val (hval 1 41 v1 rfl rfl) h1
  obtain ⟨x2, rfl⟩ := hdr_val (hval 2 24 v2 rfl rfl) h2
  have hlt : ∀ y ∈ p0 ++ (p1 ++ p2), y.block < W.heap.size := fun y hy => hW'.lt y (by simpa using hy)
  simp only [List.append_nil, List.append_assoc] at hW'
  refine (lawReaches_any t0 q0 s1 x2 v0 v1 W w0 w1).mono fun e W' ⟨he, hw⟩ => ?_
  subst he
  have hb : Below W.heap.size W W' := hw
  exact ⟨_, rfl, post_below (pa := p0 ++ (p1 ++ p2)) (pv := []) hW' (fun _ _ _ => trodAll_mk1 (shut_bool Try.underlying4 true))
    (fun sp hsp => trodAll_mk3 (stays_P sp h0 hb (fun y hy => hlt y (List.mem_append_left _ hy)) (fun y hy => hsp y (List.mem_append_left _ hy))) (stays_W sp h1 hb (fun y hy => hlt y (List.mem_append_right _ (List.mem_append_left _ hy))) (fun y hy => hsp y (List.mem_append_right _ (List.mem_append_left _ hy)))) (stays_H sp h2 hb (fun y hy => hlt y (List.mem_append_right _ (List.mem_append_right _ hy))) (fun y hy => hsp y (List.mem_append_right _ (List.mem_append_right _ hy)))))
    (fun _ _ => rfl) (by simp) hb (ok_one (by kernel_rfl) rfl (okWide_bool_mk Try.underlying4 true))⟩

theorem JudgeReaches_holds : Rows.JudgeReachesSaid :=
  OpenClaim.holds_of_wide 5 Try.f5 rfl rfl rfl rfl rfl rfl rfl ⟨rfl, rfl, rfl, rfl, rfl⟩ rfl rfl rfl rfl rfl (by kernel_rfl) Try.func5 (by kernel_rfl)
    (of_decide_eq_true (by kernel_rfl)) (by unfold Func.isWrapper; first | (rw [if_pos (by decide +kernel)]; kernel_rfl) | (rw [if_neg (by decide +kernel)]; exact ⟨rfl, rfl⟩))
    (fun os started H enc _ => judgeReaches_lifted os started H enc)
#print axioms JudgeReaches_holds
end Go.Proofs.Ytddeelepaiklgaa
