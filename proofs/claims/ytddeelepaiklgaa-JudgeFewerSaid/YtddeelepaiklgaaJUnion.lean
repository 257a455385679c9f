/- JudgeUnion, walked. -/
import Derived.Test.YtddeelepaiklgaaJWakes
import Derived.Test.YtddeelepaiklgaaJUnionP
import Derived.Test.YtddeelepaiklgaaTwo
namespace Go.Proofs.Ytddeelepaiklgaa
open Go.RowKit Go.Maps Go.Sort Go.Lib
set_option linter.unusedSimpArgs false

theorem run_append_zero (w : World) (ty : TypeId) (p q : Option Addr) (n c k : Nat) (hn : n ≤ c) : (Builtin.append_ #[25, 25] ty #[.slice p n c, .slice q 0 k]).run Try.prog w = .ok (.slice p n c) w := by
  have hs : (sizeOf 24).run Try.prog w = .ok 11 w := by kernel_rfl
  cases p <;> cases q <;> simp [Builtin.append_, run_underlying Try.underlying25, hs, Builtin.lenOf, Builtin.firstCells, hn, Result.andThen, loadCells, loadCellsFrom, storeCells]

theorem owns_at {w : World} {base : Nat} {l : List Hdr} {v : Value} (h : w.ownsRow base 24 11 v l.length (flatH l)) : ∃ p c, v = .slice p l.length c ∧ l.length ≤ c := by
  rcases h.2 with ⟨rfl, h0⟩ | ⟨g, cap, cur, rfl, _, _, hn, _⟩
  · exact ⟨none, 0, by rw [h0], by omega⟩
  · exact ⟨_, cap, rfl, hn⟩
/-- append(l, m...) of headers, to a slice that the call owns -/
theorem wpList_append_sl {ops : Array Oper} {rest : List Oper} {o : Oper} {a : Act} {w : World} {Q : Exit → Act → World → Prop} (hgd : o.guard = none) (s x : Operand)
    (ho : o.op = .call { callee := .builtin .append, args := #[s, x], argTypes := #[25, 25] }) (base : Nat) (v : Value) (l : List Hdr) (hs : a.eval s = v) (hown : w.ownsRow base 24 11 v l.length (flatH l))
    (lo : Nat) (m : List Hdr) (u : Value) (hx : a.eval x = u) (hu : HSl w lo m u) (hlen : l.length + m.length < 1000000000) (hbase : base ≤ w.heap.size)
    (hK : ∀ v' w', w'.ownsRow base 24 11 v' (l ++ m).length (flatH (l ++ m)) → w.grownBy w' v.ownBlock → (v'.ownBlock = v.ownBlock ∨ v'.ownBlock = some w.heap.size) → wpList Try.prog ops Q rest (a.put o.dst v') w') : wpList Try.prog ops Q (o :: rest) a w := by
  obtain ⟨q, n, k, rfl, hn, hq⟩ := hu
  rcases Nat.eq_zero_or_pos n with h0 | hpos
  · subst h0
    have hm : m = [] := List.length_eq_zero_iff.1 hn.symm
    subst hm
    obtain ⟨p, c, rfl, hc⟩ := owns_at hown
    refine wpList_plain hgd fun K hK' => ?_
    unfold Oper.wp execOp
    simp only [ho, resolve, invoke, builtin, Sem.run_bind, Sem.run_pure, Result.andThen_ok, List.map_toArray, List.map_cons, List.map_nil, hs, hx, run_append_zero w o.type p q l.length c k hc]
    exact hK' _ _ (hK _ _ (by simpa using hown) ⟨rfl, rfl, rfl, Nat.le_refl _, fun _ _ _ => rfl⟩ (.inl rfl))
  · rcases hq with hq | ⟨b, o', rfl, -, hr⟩
    · exfalso; subst hq; simp at hn; omega
    obtain ⟨i0, hi0, hz0, hz1, hz2⟩ := info_parts infoH
    refine wpList_append_own_at w hgd s x 25 ho base 24 i0 _ 11 88 Try.underlying25 hi0 hz0 hz1 hz2 rfl (by omega) v l.length (flatH l) hs hown ⟨b, o', none⟩ n k (flatH m) hx (by rw [flatH_len, hn])
      (fun j u hu => by rw [Addr.add_mid]; exact hr j u hu) (fun u hu => by
        obtain ⟨h, -, hh⟩ := List.mem_flatMap.1 hu
        exact h.one u hh) (by unfold maxLen; omega) (by omega) hbase ?_
    intro v' w' hown' hg _ hat
    refine hK v' w' ?_ hg hat
    have e : flatH (l ++ m) = flatH l ++ flatH m := by simp [flatH]
    rw [e, List.length_append, ← hn]
    exact hown'

set_option maxHeartbeats 8000000 in
set_option maxRecDepth 100000 in
theorem lawUnion_any (t u : Tm) (q1 q2 : List Qr) (wires : List WireD) (x : Hdr) (v1 v2 wv : Value) (w : World) (h1 : PVal w t q1 v1) (h2 : PVal w u q2 v2) (hw : SlOf WAt 4 w wires wv) :
    Calls Try.prog 8 #[v1, v2, wv, .agg x.cs] w fun e w' => e = .returned (.bool true) ∧ Ext w w' := by
  obtain ⟨p, len, cap, qv, rfl, hvt, -⟩ := h1
  obtain ⟨p', len', cap', qv', rfl, hvu, -⟩ := h2
  have HRE := Lib.hid (fun (t : Tm) (pv : Value) W (hW : Ext w W) (hp : PVal W t [] pv) => reach_any t [] wires x pv wv W hp (by
    obtain ⟨a, b, c, e1, e2, e3, e4, e5⟩ := hw
    exact ⟨a, b, c, e1, e2, e3, e4, e5.imp id fun ⟨b, o, hp, h⟩ => ⟨b, o, hp, fun i hi => ⟨World.rangeAt.later hW.later (h i hi).1, (h i hi).2⟩⟩⟩))
  obtain ⟨wp, wl, wq, rfl⟩ : ∃ a b c, wv = .slice a b c := by obtain ⟨a, b, c, h, -⟩ := hw; exact ⟨a, b, c, h⟩
  obtain ⟨wA, hA⟩ : ∃ W : World, w.alloc (.cells #[.int .i8 t.op, .int .i8 t.fld, .int .u64 t.n, .slice p len cap, qv] 34) = W := ⟨_, rfl⟩
  have xA : Ext w wA := hA ▸ Ext.alloc _ _
  have sA : wA.heap.size = w.heap.size + 1 := by rw [← hA, World.size_alloc]
  have rA : wA.rangeAt w.heap.size 0 [.int .i8 t.op, .int .i8 t.fld, .int .u64 t.n, .slice p len cap, qv] := by rw [← hA]; exact rangeAt_new w _ _
  obtain ⟨wB, hB⟩ : ∃ W : World, wA.alloc (.cells #[.int .i8 u.op, .int .i8 u.fld, .int .u64 u.n, .slice p' len' cap', qv'] 34) = W := ⟨_, rfl⟩
  have xB : Ext wA wB := hB ▸ Ext.alloc _ _
  have sB : wB.heap.size = w.heap.size + 2 := by rw [← hB, World.size_alloc, sA]
  have rB : wB.rangeAt (w.heap.size + 1) 0 [.int .i8 u.op, .int .i8 u.fld, .int .u64 u.n, .slice p' len' cap', qv'] := by rw [← hB, ← sA]; exact rangeAt_new wA _ _
  obtain ⟨wC, hC⟩ : ∃ W : World, wB.alloc (.cells x.cs 24) = W := ⟨_, rfl⟩
  have xC : Ext wB wC := hC ▸ Ext.alloc _ _
  have sC : wC.heap.size = w.heap.size + 3 := by rw [← hC, World.size_alloc, sB]
  have rC : wC.rangeAt (w.heap.size + 2) 0 x.cs.toList := by rw [← hC, ← sB]; exact rangeAt_new wB _ _
  have HX := Lib.hid ((xA.trans xB).trans xC)
  have hvt2 := hvt.later HX.out.later
  have hvu2 := hvu.later HX.out.later
  obtain ⟨wD, hD⟩ : ∃ W : World, wC.alloc (.cells #[.int .i8 t.op, .int .i8 t.fld, .int .u64 t.n, .slice p len cap, .int .i8 u.op, .int .i8 u.fld, .int .u64 u.n, .slice p' len' cap'] 31) = W := ⟨_, rfl⟩
  have xD : Ext wC wD := hD ▸ Ext.alloc _ _
  have hboth : (unionT2 t u).Val wD (.agg #[.int .i8 8, .int .i8 0, .int .u64 0, .slice (some ⟨wC.heap.size, 0, none⟩) 2 2]) := by
    have := allAt_two hvt2 hvu2 31
    rw [hD] at this
    exact val_mk (by omega) (by omega) (by omega) _ 2 2 rfl (by omega) (by omega) this
  obtain ⟨wE, hE⟩ : ∃ W : World, wD.alloc (.cells #[.int .i8 8, .int .i8 0, .int .u64 0, .slice (some ⟨wC.heap.size, 0, none⟩) 2 2, .slice none 0 0] 34) = W := ⟨_, rfl⟩
  have xE : Ext wD wE := hE ▸ Ext.alloc _ _
  have sD : wD.heap.size = wC.heap.size + 1 := by rw [← hD, World.size_alloc]
  have rE : wE.rangeAt (wC.heap.size + 1) 0 [.int .i8 8, .int .i8 0, .int .u64 0, .slice (some ⟨wC.heap.size, 0, none⟩) 2 2, .slice none 0 0] := by rw [← hE, ← sD]; exact rangeAt_new wD _ _
  have HXE := Lib.hid (HX.out.trans (xD.trans xE))
  have HPA := Lib.hid (fun W (hW : Ext wC W) => show W.cell? ⟨w.heap.size, 0, none⟩ = some (.int .i8 t.op) ∧ W.cell? ⟨w.heap.size, 1, none⟩ = some (.int .i8 t.fld) ∧ W.cell? ⟨w.heap.size, 2, none⟩ = some (.int .u64 t.n) ∧ W.cell? ⟨w.heap.size, 3, none⟩ = some (.slice p len cap) from by
    have hr := World.rangeAt.later ((xB.trans xC).trans hW).later rA
    exact ⟨by simpa using hr 0 _ rfl, by simpa using hr 1 _ rfl, by simpa using hr 2 _ rfl, by simpa using hr 3 _ rfl⟩)
  have HPB := Lib.hid (fun W (hW : Ext wC W) => show W.cell? ⟨w.heap.size + 1, 0, none⟩ = some (.int .i8 u.op) ∧ W.cell? ⟨w.heap.size + 1, 1, none⟩ = some (.int .i8 u.fld) ∧ W.cell? ⟨w.heap.size + 1, 2, none⟩ = some (.int .u64 u.n) ∧ W.cell? ⟨w.heap.size + 1, 3, none⟩ = some (.slice p' len' cap') from by
    have hr := World.rangeAt.later (xC.trans hW).later rB
    exact ⟨by simpa using hr 0 _ rfl, by simpa using hr 1 _ rfl, by simpa using hr 2 _ rfl, by simpa using hr 3 _ rfl⟩)
  have HPE := Lib.hid (fun W (hW : Ext wE W) => show W.cell? ⟨wC.heap.size + 1, 0, none⟩ = some (.int .i8 8) ∧ W.cell? ⟨wC.heap.size + 1, 1, none⟩ = some (.int .i8 0) ∧ W.cell? ⟨wC.heap.size + 1, 2, none⟩ = some (.int .u64 0) ∧ W.cell? ⟨wC.heap.size + 1, 3, none⟩ = some (.slice (some ⟨wC.heap.size, 0, none⟩) 2 2) ∧ W.cell? ⟨wC.heap.size + 1, 4, none⟩ = some (.slice none 0 0) from by
    have hr := World.rangeAt.later hW.later rE
    exact ⟨by simpa using hr 0 _ rfl, by simpa using hr 1 _ rfl, by simpa using hr 2 _ rfl, by simpa using hr 3 _ rfl, by simpa using hr 4 _ rfl⟩)
  have HRC := Lib.hid (fun W (hW : Ext wC W) => World.rangeAt.later hW.later rC)
  have HDE := Lib.hid (xD.trans xE)
  have hq0 : ∀ W, Qs W [] (.slice none 0 0) := fun W => ⟨none, 0, 0, rfl, rfl, by omega, by omega, .inl rfl⟩
  have HV1 := Lib.hid (fun W (hW : Ext w W) => show PVal W t [] (.agg #[.int .i8 t.op, .int .i8 t.fld, .int .u64 t.n, .slice p len cap, .slice none 0 0]) from ⟨p, len, cap, _, rfl, hvt.later hW.later, hq0 W⟩)
  have HV2 := Lib.hid (fun W (hW : Ext w W) => show PVal W u [] (.agg #[.int .i8 u.op, .int .i8 u.fld, .int .u64 u.n, .slice p' len' cap', .slice none 0 0]) from ⟨p', len', cap', _, rfl, hvu.later hW.later, hq0 W⟩)
  have HV3 := Lib.hid (fun W (hW : Ext wE W) => show PVal W (unionT2 t u) [] (.agg #[.int .i8 8, .int .i8 0, .int .u64 0, .slice (some ⟨wC.heap.size, 0, none⟩) 2 2, .slice none 0 0]) from ⟨_, 2, 2, _, rfl, hboth.later (xE.trans hW).later, hq0 W⟩)
  have HEQ := Lib.hid (show w.alloc (.cells #[.int .i8 t.op, .int .i8 t.fld, .int .u64 t.n, .slice p len cap, qv] 34) = wA ∧ wA.alloc (.cells #[.int .i8 u.op, .int .i8 u.fld, .int .u64 u.n, .slice p' len' cap', qv'] 34) = wB ∧ wB.alloc (.cells x.cs 24) = wC from ⟨hA, hB, hC⟩)
  have HEQ2 := Lib.hid (show wC.alloc (.cells #[.int .i8 t.op, .int .i8 t.fld, .int .u64 t.n, .slice p len cap, .int .i8 u.op, .int .i8 u.fld, .int .u64 u.n, .slice p' len' cap'] 31) = wD ∧ wD.alloc (.cells #[.int .i8 8, .int .i8 0, .int .u64 0, .slice (some ⟨wC.heap.size, 0, none⟩) 2 2, .slice none 0 0] 34) = wE from ⟨hD, hE⟩)
  have HU1 := Lib.hid (fun h1 h2 => union_all (p := t) (u := unionT2 t u) (q1 := []) (q2 := []) (wires := wires) (x := x) (fun y z h => den_union.2 (.inl h)) h1 h2)
  have HU2 := Lib.hid (fun h1 h2 => union_all (p := u) (u := unionT2 t u) (q1 := []) (q2 := []) (wires := wires) (x := x) (fun y z h => den_union.2 (.inr h)) h1 h2)
  have HSC := Lib.hid sC
  obtain ⟨a0, a1, a2, a3⟩ := HPA.out _ (Ext.refl _)
  obtain ⟨b0, b1, b2, b3⟩ := HPB.out _ (Ext.refl _)
  clear xA rA hA xB rB hB xC rC hC xD hD xE hE rE hboth hvt2 hvu2 hvt hvu hw sA sB sC sD
  go_enter Try.func8, Try.ntmps8
  go_upto_region 1 with fail
  rw [HEQ.out.1, HEQ.out.2.1, HEQ.out.2.2]
  clear HEQ
  by_cases h30 : 30 < wl
  · go_wp2_with fail
    refine (wakes30_any wC).mono ?_
    rintro e w1 ⟨rfl, hx1⟩
    go_wp2_with fail
    go_ret
    exact ⟨rfl, HX.out.trans hx1⟩
  go_upto_region 4 with fail
  rw [HEQ2.out.1]
  rw [HEQ2.out.2]
  clear HEQ2 a0 a1 a2 a3 b0 b1 b2 b3
  obtain ⟨a0, a1, a2, a3⟩ := HPA.out _ HDE.out
  have HR1 := Lib.hid (HRC.out _ HDE.out)
  have HC1 := Lib.hid (HRE.out t _ wE HXE.out (HV1.out _ HXE.out))
  go_wp2_with (first | (refine wpList_load_H rfl _ rfl _ _ rfl x HR1.out ?_))
  refine HC1.out.mono ?_
  rintro e w1 ⟨⟨r1, rfl, hs1⟩, hx1⟩
  have HS1 := Lib.hid hs1
  have HX1 := Lib.hid hx1
  clear a0 a1 a2 a3 hs1 hx1
  obtain ⟨b0, b1, b2, b3⟩ := HPB.out _ (HDE.out.trans HX1.out)
  have HR2 := Lib.hid (HRC.out _ (HDE.out.trans HX1.out))
  have HC2 := Lib.hid (HRE.out u _ w1 (HXE.out.trans HX1.out) (HV2.out _ (HXE.out.trans HX1.out)))
  go_upto_region 5 with fail
  go_wp2_with (first | (refine wpList_load_H rfl _ rfl _ _ rfl x HR2.out ?_))
  refine HC2.out.mono ?_
  rintro e w2 ⟨⟨r2, rfl, hs2⟩, hx2⟩
  have HS2 := Lib.hid hs2
  have HX2 := Lib.hid (HX1.out.trans hx2)
  have HX12 := Lib.hid hx2
  clear b0 b1 b2 b3 hs2 hx2
  obtain ⟨c0, c1, c2, c3, c4⟩ := HPE.out _ HX2.out
  have HR3 := Lib.hid (HRC.out _ (HDE.out.trans HX2.out))
  have HC3 := Lib.hid (HRE.out (unionT2 t u) _ w2 (HXE.out.trans HX2.out) (HV3.out _ HX2.out))
  go_upto_region 6 with fail
  go_wp2_with (first | (refine wpList_load_H rfl _ rfl _ _ rfl x HR3.out ?_))
  refine HC3.out.mono ?_
  rintro e w3 ⟨⟨r3, rfl, hs3⟩, hx3⟩
  have HS3 := Lib.hid hs3
  have HX3 := Lib.hid (HX2.out.trans hx3)
  have HX23 := Lib.hid hx3
  clear c0 c1 c2 c3 c4 hs3 hx3
  have HLN := Lib.hid (And.intro (reachP_len t [] wires x) (And.intro (reachP_len u [] wires x) (reachP_len (unionT2 t u) [] wires x)))
  generalize reachP t [] wires x = A at *
  generalize reachP u [] wires x = B at *
  generalize reachP (unionT2 t u) [] wires x = C at *
  obtain ⟨ca, la⟩ := A
  obtain ⟨cb, lb⟩ := B
  obtain ⟨cc, lc⟩ := C
  go_upto_region 7 with fail
  by_cases e1 : ca = 0
  case neg =>
    go_wp2_with fail
    refine (wakes30_any w3).mono ?_
    rintro e w4 ⟨rfl, hx4⟩
    go_wp2_with fail
    go_ret
    exact ⟨rfl, HXE.out.trans (HX3.out.trans hx4)⟩
  by_cases e2 : cb = 0
  case neg =>
    subst e1
    go_wp2_with fail
    refine (wakes30_any w3).mono ?_
    rintro e w4 ⟨rfl, hx4⟩
    go_wp2_with fail
    go_ret
    exact ⟨rfl, HXE.out.trans (HX3.out.trans hx4)⟩
  by_cases e3 : cc = 0
  case neg =>
    subst e1 e2
    go_wp2_with fail
    refine (wakes30_any w3).mono ?_
    rintro e w4 ⟨rfl, hx4⟩
    go_wp2_with fail
    go_ret
    exact ⟨rfl, HXE.out.trans (HX3.out.trans hx4)⟩
  have HIN := Lib.hid (show (∀ z ∈ la, z ∈ lc) ∧ ∀ z ∈ lb, z ∈ lc from ⟨HU1.out e1 e3, HU2.out e2 e3⟩)
  subst e1 e2 e3
  have HS1' := Lib.hid (HS1.out.ext (HX12.out.trans HX23.out))
  have HS2' := Lib.hid (HS2.out.ext HX23.out)
  have hla : la.length ≤ 65600 := HLN.out.1
  have hlb : lb.length ≤ 65600 := HLN.out.2.1
  have hlc : lc.length ≤ 65600 := HLN.out.2.2
  clear HU1 HU2 HC1 HC2 HC3 HRE HLN
  go_upto_region 9 with fail
  obtain ⟨w4, h4⟩ : ∃ W : World, w3.alloc (.cells #[] 24) = W := ⟨_, rfl⟩
  have x4 : Ext w3 w4 := h4 ▸ Ext.alloc _ _
  have HO0 := Lib.hid (show w4.ownsRow w3.heap.size 24 11 (.slice (some ⟨w3.heap.size, 0, none⟩) 0 0) ([] : List Hdr).length (flatH []) from by
    rw [← h4]
    exact World.ownsRow_lit (base := w3.heap.size) (e := 24) (size := 11) w3 #[] 0 (Nat.le_refl _) (by unfold maxLen; omega) rfl)
  have HX4 := Lib.hid x4
  have hs34 : w3.heap.size ≤ w4.heap.size := x4.size
  clear x4
  go_wp2_with (first
    | (at_builtin; refine wpList_append_sl rfl _ _ rfl w3.heap.size (.slice (some ⟨w3.heap.size, 0, none⟩) 0 0) [] rfl HO0.out _ la r1 rfl (HS1'.out.ext HX4.out) (by simp; omega) hs34 ?_; intro v5 w5 hown5 hg5 hat5; have HX5 := Lib.hid (HX4.out.grow' hg5 (fun i hi => (HO0.out.lt i hi).1)); have HO5 := Lib.hid hown5; have hs35 : w3.heap.size ≤ w5.heap.size := HX5.out.size; clear hown5 hg5 hat5)
    | (at_builtin; refine wpList_append_sl rfl _ _ rfl w3.heap.size v5 ([] ++ la) rfl HO5.out _ lb r2 rfl (HS2'.out.ext HX5.out) (by simp; omega) hs35 ?_; intro v6 w6 hown6 hg6 hat6; have HX6 := Lib.hid (HX5.out.grow' hg6 (fun i hi => (HO5.out.lt i hi).1)); have HO6 := Lib.hid hown6; clear hown6 hg6 hat6))
  obtain ⟨all, hall⟩ : ∃ all : List Hdr, all = [] ++ la ++ lb := ⟨_, rfl⟩
  rw [← hall] at HO6
  have HALL := Lib.hid (show ∀ z ∈ all, z ∈ lc from fun z hz => by
    rw [hall, List.nil_append] at hz
    exact (List.mem_append.1 hz).elim (HIN.out.1 z) (HIN.out.2 z))
  have hall2 : all.length ≤ 131200 := by rw [hall]; simp; omega
  clear hall
  obtain ⟨pa, na, ka, rfl, hna, hra⟩ := HSl.of_owns HO6.out
  have HNA := Lib.hid hna
  obtain ⟨p3, n3, k3, rfl, hn3, hr3⟩ := HS3.out
  have HN3 := Lib.hid hn3
  have HRA := Lib.hid (show all = [] ∨ ∃ g, pa = some ⟨g, 0, none⟩ ∧ ∀ W, Ext w6 W → W.rangeAt g 0 (flatH all) from by
    rcases HO6.out.2 with ⟨he, h0⟩ | ⟨g, cap, cur, he, _⟩
    · exact .inl (List.length_eq_zero_iff.1 h0)
    · injection he with he1
      exact .inr ⟨g, he1, fun W hW => World.rangeAt.later hW.later (by
        have := HO6.out
        rw [he1, hna] at this
        have hr := ownsRow_range this
        exact hr)⟩)
  have HR3' := Lib.hid (show lc = [] ∨ ∃ b o, p3 = some ⟨b, o, none⟩ ∧ ∀ W, Ext w6 W → W.rangeAt b o (flatH lc) from
    hr3.imp id fun ⟨b, o, hp, _, hr⟩ => ⟨b, o, hp, fun W hW => World.rangeAt.later (HX6.out.trans hW).later hr⟩)
  have hna2 : na ≤ 131200 := by omega
  have hn32 : n3 ≤ 65600 := by omega
  clear hna hn3 hra hr3 HO6 HO5 HO0 HS1 HS2 HS1' HS2' HS3
  go_loopw [17] (fun i wr => ∃ i' : Nat, i' ≤ na ∧ i = .int .i64 i' ∧ Hid (Ext w6 wr)) (fun i _ => na - (intOf i).toNat)
  case atStart => exact ⟨0, Nat.zero_le _, rfl, Ext.refl _⟩
  case round =>
    obtain ⟨wo, rfl⟩ : ∃ wo : World, wo = wr := ⟨_, rfl⟩
    obtain ⟨i, hi, rfl, hx⟩ := hrel
    by_cases hlt : i < na
    · have hil : i < all.length := by rw [← HNA.out]; exact hlt
      rcases HRA.out with h | ⟨g, rfl, hra⟩
      · exfalso; subst h; simp at hil
      obtain ⟨y, hy⟩ : ∃ y, y = all[i] := ⟨_, rfl⟩
      have hyc : y ∈ lc := HALL.out y (by rw [hy]; exact List.getElem_mem hil)
      have HRY := Lib.hid (fun W (hW : Ext w6 W) => by
        have := rangeAt_get Hdr.len_cs (hra W hW) i hil
        rw [← hy, Nat.zero_add] at this
        exact this)
      have HYC := Lib.hid hyc
      clear hra hy hyc
      go_wp2_with fail
      go_loopw [18, 19] (fun th j wr => ∃ k : Nat, k ≤ n3 ∧ j = .int .i64 k ∧ Hid (th = .bool (decide (y ∈ lc.take k))) ∧ Hid (Ext w6 wr)) (fun _ j _ => n3 - (intOf j).toNat)
      case atStart => exact ⟨0, Nat.zero_le _, rfl, by show Value.bool false = .bool (decide (y ∈ lc.take 0)); simp, hx.out⟩
      case round =>
        obtain ⟨wn, rfl⟩ : ∃ wn : World, wn = wr := ⟨_, rfl⟩
        obtain ⟨k, hk, rfl, hth, hxn⟩ := hrel
        by_cases hlt2 : k < n3
        · have hkl : k < lc.length := by rw [← HN3.out]; exact hlt2
          rcases HR3'.out with h | ⟨b3, o3, rfl, hr3⟩
          · exfalso; subst h; simp at hkl
          have HTK := Lib.hid (show (y ∈ lc.take (k + 1)) ↔ (y ∈ lc.take k ∨ lc[k] = y) from by
            rw [List.take_succ_eq_append_getElem hkl, List.mem_append, List.mem_singleton]
            exact ⟨fun h => h.imp id Eq.symm, fun h => h.imp id Eq.symm⟩)
          have hrz := fun W (hW : Ext w6 W) => rangeAt_get Hdr.len_cs (hr3 W hW) k hkl
          generalize lc[k] = z at *
          have HSS := Lib.hid (fun W (hW : Ext wn W) => (show (fun W => W.rangeAt b3 (o3 + k * 11) z.cs.toList ∧ W.rangeAt g (i * 11) y.cs.toList) W from ⟨hrz W (hxn.out.trans hW), HRY.out W (hxn.out.trans hW)⟩))
          have huH := Try.underlying24
          have hiH : ∀ x : Hdr, (Try.prog.info? 24).map (·.size) = some x.cs.toList.length := fun x => by rw [x.len_cs]; kernel_rfl
          have hz0 : Ext wn wn.drew := Ext.drew _
          have hg := guardH
          have he : ∀ W, (Op.equalIn 10000 24 (.agg z.cs) (.agg y.cs)).run Try.prog W = .ok (decide (z = y)) W := fun W => eqH z y W
          clear hrz hr3
          have hth' := hth.out
          subst hth'
          cases hin : decide (y ∈ lc.take k) with
          | true =>
            have HD := Lib.hid (show decide (y ∈ lc.take (k + 1)) = true from by
              rw [decide_eq_true_eq, HTK.out]; exact .inl (of_decide_eq_true hin))
            clear hin hth
            go_upto_region 17 with fail
            refine wp_region_noPanic ?_
            refine wp_region_held_drew (S := (fun W => W.rangeAt b3 (o3 + k * 11) z.cs.toList ∧ W.rangeAt g (i * 11) y.cs.toList)) (by kernel_rfl) (HSS.out _ (Ext.drew _)) (fun hHeld => ?_)
            refine wpAnyH_take (i := 0) (v := .bool true) rfl (by kernel_rfl) (by kernel_rfl) (by kernel_rfl) (fun _ _ _ h => h) (Or.inl ⟨by rfl, by (intro w hSw; (try dsimp only at hSw); go_simp)⟩) (by assumption) ?_
            try simp only [List.getElem_toArray, List.getElem_cons_zero, List.getElem_cons_succ, Act.put, List.setIfInBounds_toArray, List.set_cons_zero, List.set_cons_succ, Array.toArray_toList]
            refine wpAnyH_take (i := 1) (v := .bool true) rfl (by kernel_rfl) (by kernel_rfl) (by kernel_rfl) (fun _ _ _ h => h) (Or.inl ⟨by rfl, by (intro w hSw; (try dsimp only at hSw); go_simp)⟩) (by assumption) ?_
            try simp only [List.getElem_toArray, List.getElem_cons_zero, List.getElem_cons_succ, Act.put, List.setIfInBounds_toArray, List.set_cons_zero, List.set_cons_succ, Array.toArray_toList]
            refine wpAnyH_take (i := 2) (v := undef) rfl (by kernel_rfl) (by kernel_rfl) (by kernel_rfl) (fun _ _ _ h => h) (Or.inr ⟨by rfl, rfl⟩) (by assumption) ?_
            try simp only [List.getElem_toArray, List.getElem_cons_zero, List.getElem_cons_succ, Act.put, List.setIfInBounds_toArray, List.set_cons_zero, List.set_cons_succ, Array.toArray_toList]
            refine wpAnyH_take (i := 3) (v := undef) rfl (by kernel_rfl) (by kernel_rfl) (by kernel_rfl) (fun _ _ _ h => h) (Or.inr ⟨by rfl, rfl⟩) (by assumption) ?_
            try simp only [List.getElem_toArray, List.getElem_cons_zero, List.getElem_cons_succ, Act.put, List.setIfInBounds_toArray, List.set_cons_zero, List.set_cons_succ, Array.toArray_toList]
            refine wpAnyH_take (i := 4) (v := undef) rfl (by kernel_rfl) (by kernel_rfl) (by kernel_rfl) (fun _ _ _ h => h) (Or.inr ⟨by rfl, rfl⟩) (by assumption) ?_
            try simp only [List.getElem_toArray, List.getElem_cons_zero, List.getElem_cons_succ, Act.put, List.setIfInBounds_toArray, List.set_cons_zero, List.set_cons_succ, Array.toArray_toList]
            refine wpAnyH_take (i := 5) (v := undef) rfl (by kernel_rfl) (by kernel_rfl) (by kernel_rfl) (fun _ _ _ h => h) (Or.inr ⟨by rfl, rfl⟩) (by assumption) ?_
            try simp only [List.getElem_toArray, List.getElem_cons_zero, List.getElem_cons_succ, Act.put, List.setIfInBounds_toArray, List.set_cons_zero, List.set_cons_succ, Array.toArray_toList]
            refine wpAnyH_take (i := 6) (v := undef) rfl (by kernel_rfl) (by kernel_rfl) (by kernel_rfl) (fun _ _ _ h => h) (Or.inr ⟨by rfl, rfl⟩) (by assumption) ?_
            try simp only [List.getElem_toArray, List.getElem_cons_zero, List.getElem_cons_succ, Act.put, List.setIfInBounds_toArray, List.set_cons_zero, List.set_cons_succ, Array.toArray_toList]
            refine wpAnyH_take (i := 7) (v := undef) rfl (by kernel_rfl) (by kernel_rfl) (by kernel_rfl) (fun _ _ _ h => h) (Or.inr ⟨by rfl, rfl⟩) (by assumption) ?_
            try simp only [List.getElem_toArray, List.getElem_cons_zero, List.getElem_cons_succ, Act.put, List.setIfInBounds_toArray, List.set_cons_zero, List.set_cons_succ, Array.toArray_toList]
            refine wpAnyH_take (i := 8) (v := undef) rfl (by kernel_rfl) (by kernel_rfl) (by kernel_rfl) (fun _ _ _ h => h) (Or.inr ⟨by rfl, rfl⟩) (by assumption) ?_
            try simp only [List.getElem_toArray, List.getElem_cons_zero, List.getElem_cons_succ, Act.put, List.setIfInBounds_toArray, List.set_cons_zero, List.set_cons_succ, Array.toArray_toList]
            refine wpAnyH_take (i := 9) (v := undef) rfl (by kernel_rfl) (by kernel_rfl) (by kernel_rfl) (fun _ _ _ h => h) (Or.inr ⟨by rfl, rfl⟩) (by assumption) ?_
            try simp only [List.getElem_toArray, List.getElem_cons_zero, List.getElem_cons_succ, Act.put, List.setIfInBounds_toArray, List.set_cons_zero, List.set_cons_succ, Array.toArray_toList]
            refine wpAnyH_take (i := 10) (v := undef) rfl (by kernel_rfl) (by kernel_rfl) (by kernel_rfl) (fun _ _ _ h => h) (Or.inr ⟨by rfl, rfl⟩) (by assumption) ?_
            try simp only [List.getElem_toArray, List.getElem_cons_zero, List.getElem_cons_succ, Act.put, List.setIfInBounds_toArray, List.set_cons_zero, List.set_cons_succ, Array.toArray_toList]
            refine wpAnyH_take (i := 11) (v := .bool true) rfl (by kernel_rfl) (by kernel_rfl) (by kernel_rfl) (fun _ _ _ h => h) (Or.inl ⟨by rfl, by (intro w hSw; (try dsimp only at hSw); go_simp)⟩) (by assumption) ?_
            try simp only [List.getElem_toArray, List.getElem_cons_zero, List.getElem_cons_succ, Act.put, List.setIfInBounds_toArray, List.set_cons_zero, List.set_cons_succ, Array.toArray_toList]
            refine wpAnyH_take (i := 12) (v := .bool true) rfl (by kernel_rfl) (by kernel_rfl) (by kernel_rfl) (fun _ _ _ h => h) (Or.inl ⟨by rfl, by (intro w hSw; (try dsimp only at hSw); go_simp)⟩) (by assumption) ?_
            try simp only [List.getElem_toArray, List.getElem_cons_zero, List.getElem_cons_succ, Act.put, List.setIfInBounds_toArray, List.set_cons_zero, List.set_cons_succ, Array.toArray_toList]
            refine wpAnyH_done (by kernel_rfl) ?_ _
            refine NoPanic.normal ?_
            go_wp2_with fail
            go_roundw
            case rel => exact ⟨k + 1, by omega, by go_num, by rw [HD.out]; rfl, hxn.out.trans hz0⟩
            case measure => simp [intOf]; omega
          | false =>
            have HD := Lib.hid (show decide (y ∈ lc.take (k + 1)) = decide (z = y) from by
              apply decide_eq_decide.2
              rw [HTK.out]
              exact ⟨fun h => h.elim (fun h => absurd h (of_decide_eq_false hin)) id, .inr⟩)
            clear hin hth
            go_upto_region 17 with fail
            refine wp_region_noPanic ?_
            refine wp_region_held_drew (S := (fun W => W.rangeAt b3 (o3 + k * 11) z.cs.toList ∧ W.rangeAt g (i * 11) y.cs.toList)) (by kernel_rfl) (HSS.out _ (Ext.drew _)) (fun hHeld => ?_)
            refine wpAnyH_take (i := 0) (v := .bool false) rfl (by kernel_rfl) (by kernel_rfl) (by kernel_rfl) (fun _ _ _ h => h) (Or.inl ⟨by rfl, by (intro w hSw; (try dsimp only at hSw); go_simp)⟩) (by assumption) ?_
            try simp only [List.getElem_toArray, List.getElem_cons_zero, List.getElem_cons_succ, Act.put, List.setIfInBounds_toArray, List.set_cons_zero, List.set_cons_succ, Array.toArray_toList]
            refine wpAnyH_take (i := 1) (v := .bool false) rfl (by kernel_rfl) (by kernel_rfl) (by kernel_rfl) (fun _ _ _ h => h) (Or.inl ⟨by rfl, by (intro w hSw; (try dsimp only at hSw); go_simp)⟩) (by assumption) ?_
            try simp only [List.getElem_toArray, List.getElem_cons_zero, List.getElem_cons_succ, Act.put, List.setIfInBounds_toArray, List.set_cons_zero, List.set_cons_succ, Array.toArray_toList]
            refine wpAnyH_take (i := 2) (v := .slice (some ⟨b3, o3, none⟩) n3 k3) rfl (by kernel_rfl) (by kernel_rfl) (by kernel_rfl) (fun _ _ _ h => h) (Or.inl ⟨by rfl, by (intro w hSw; (try dsimp only at hSw); go_simp)⟩) (by assumption) ?_
            try simp only [List.getElem_toArray, List.getElem_cons_zero, List.getElem_cons_succ, Act.put, List.setIfInBounds_toArray, List.set_cons_zero, List.set_cons_succ, Array.toArray_toList]
            refine wpAnyH_take (i := 3) (v := .int .i64 k) rfl (by kernel_rfl) (by kernel_rfl) (by kernel_rfl) (fun _ _ _ h => h) (Or.inl ⟨by rfl, by (intro w hSw; (try dsimp only at hSw); go_simp)⟩) (by assumption) ?_
            try simp only [List.getElem_toArray, List.getElem_cons_zero, List.getElem_cons_succ, Act.put, List.setIfInBounds_toArray, List.set_cons_zero, List.set_cons_succ, Array.toArray_toList]
            refine wpAnyH_take (i := 4) (v := .pointer (some ⟨b3, o3 + k * 11, none⟩)) rfl (by kernel_rfl) (by kernel_rfl) (by kernel_rfl) (fun _ _ _ h => h) (Or.inl ⟨by rfl, by (intro w hSw; (try dsimp only at hSw); go_simp)⟩) (by assumption) ?_
            try simp only [List.getElem_toArray, List.getElem_cons_zero, List.getElem_cons_succ, Act.put, List.setIfInBounds_toArray, List.set_cons_zero, List.set_cons_succ, Array.toArray_toList]
            refine wpAnyH_take (i := 5) (v := .agg z.cs.toList.toArray) rfl (by kernel_rfl) (by kernel_rfl) (by kernel_rfl) (fun _ _ _ h => h) ?_ (by assumption) ?_
            · try simp only [List.getElem_toArray, List.getElem_cons_zero, List.getElem_cons_succ]
              exact yieldsIf_load_mid (by rfl) _ _ rfl (b3) (o3 + k * 11) rfl z.cs.toList _ (fun w hSw => hSw.1) huH rfl (hiH z)
            try simp only [List.getElem_toArray, List.getElem_cons_zero, List.getElem_cons_succ, Act.put, List.setIfInBounds_toArray, List.set_cons_zero, List.set_cons_succ, Array.toArray_toList]
            refine wpAnyH_take (i := 6) (v := .slice (some ⟨g, 0, none⟩) na ka) rfl (by kernel_rfl) (by kernel_rfl) (by kernel_rfl) (fun _ _ _ h => h) (Or.inl ⟨by rfl, by (intro w hSw; (try dsimp only at hSw); go_simp)⟩) (by assumption) ?_
            try simp only [List.getElem_toArray, List.getElem_cons_zero, List.getElem_cons_succ, Act.put, List.setIfInBounds_toArray, List.set_cons_zero, List.set_cons_succ, Array.toArray_toList]
            refine wpAnyH_take (i := 7) (v := .int .i64 i) rfl (by kernel_rfl) (by kernel_rfl) (by kernel_rfl) (fun _ _ _ h => h) (Or.inl ⟨by rfl, by (intro w hSw; (try dsimp only at hSw); go_simp)⟩) (by assumption) ?_
            try simp only [List.getElem_toArray, List.getElem_cons_zero, List.getElem_cons_succ, Act.put, List.setIfInBounds_toArray, List.set_cons_zero, List.set_cons_succ, Array.toArray_toList]
            refine wpAnyH_take (i := 8) (v := .pointer (some ⟨g, i * 11, none⟩)) rfl (by kernel_rfl) (by kernel_rfl) (by kernel_rfl) (fun _ _ _ h => h) (Or.inl ⟨by rfl, by (intro w hSw; (try dsimp only at hSw); go_simp)⟩) (by assumption) ?_
            try simp only [List.getElem_toArray, List.getElem_cons_zero, List.getElem_cons_succ, Act.put, List.setIfInBounds_toArray, List.set_cons_zero, List.set_cons_succ, Array.toArray_toList]
            refine wpAnyH_take (i := 9) (v := .agg y.cs.toList.toArray) rfl (by kernel_rfl) (by kernel_rfl) (by kernel_rfl) (fun _ _ _ h => h) ?_ (by assumption) ?_
            · try simp only [List.getElem_toArray, List.getElem_cons_zero, List.getElem_cons_succ]
              exact yieldsIf_load_mid (by rfl) _ _ rfl (g) (i * 11) rfl y.cs.toList _ (fun w hSw => hSw.2) huH rfl (hiH y)
            try simp only [List.getElem_toArray, List.getElem_cons_zero, List.getElem_cons_succ, Act.put, List.setIfInBounds_toArray, List.set_cons_zero, List.set_cons_succ, Array.toArray_toList]
            refine wpAnyH_take (i := 10) (v := .bool (decide (z = y))) rfl (by kernel_rfl) (by kernel_rfl) (by kernel_rfl) (fun _ _ _ h => h) (Or.inl ⟨by rfl, by (intro w hSw; (try dsimp only at hSw); go_simp)⟩) (by assumption) ?_
            try simp only [List.getElem_toArray, List.getElem_cons_zero, List.getElem_cons_succ, Act.put, List.setIfInBounds_toArray, List.set_cons_zero, List.set_cons_succ, Array.toArray_toList]
            refine wpAnyH_take (i := 11) (v := .bool (decide (z = y))) rfl (by kernel_rfl) (by kernel_rfl) (by kernel_rfl) (fun _ _ _ h => h) (Or.inl ⟨by rfl, by (intro w hSw; (try dsimp only at hSw); go_simp)⟩) (by assumption) ?_
            try simp only [List.getElem_toArray, List.getElem_cons_zero, List.getElem_cons_succ, Act.put, List.setIfInBounds_toArray, List.set_cons_zero, List.set_cons_succ, Array.toArray_toList]
            refine wpAnyH_take (i := 12) (v := .bool (decide (z = y))) rfl (by kernel_rfl) (by kernel_rfl) (by kernel_rfl) (fun _ _ _ h => h) (Or.inl ⟨by rfl, by (intro w hSw; (try dsimp only at hSw); go_simp)⟩) (by assumption) ?_
            try simp only [List.getElem_toArray, List.getElem_cons_zero, List.getElem_cons_succ, Act.put, List.setIfInBounds_toArray, List.set_cons_zero, List.set_cons_succ, Array.toArray_toList]
            refine wpAnyH_done (by kernel_rfl) ?_ _
            refine NoPanic.normal ?_
            go_wp2_with fail
            go_roundw
            case rel => exact ⟨k + 1, by omega, by go_num, by rw [HD.out]; rfl, hxn.out.trans hz0⟩
            case measure => simp [intOf]; omega
        · have hth' := hth.out
          rw [List.take_of_length_le (by have := HN3.out; omega), decide_eq_true HYC.out] at hth'
          subst hth'
          clear hth
          go_wp2_with fail
          go_roundw
          case rel => exact ⟨i + 1, by omega, by go_num, hxn.out⟩
          case measure => simp [intOf]; omega
    · go_wp2_with fail
      refine (wakes30_any wo).mono ?_
      rintro e w7 ⟨rfl, hx7⟩
      go_wp2_with fail
      go_ret
      exact ⟨rfl, HXE.out.trans (HX3.out.trans (HX6.out.trans (hx.out.trans hx7)))⟩
end Go.Proofs.Ytddeelepaiklgaa
