/- judge.Hop. -/
import Derived.Test.YtddeelepaiklgaaJCheck
import Derived.Test.YtddeelepaiklgaaJMap
import Derived.Test.YtddeelepaiklgaaSame
import Derived.Test.YtddeelepaiklgaaTwo
namespace Go.Proofs.Ytddeelepaiklgaa
open Go.RowKit Go.Maps
set_option linter.unusedSimpArgs false

def hopL (l : List Hdr) : List Hdr → List Hdr → Bool
  | _, [] => true
  | done, x :: xs => decide (x ∈ l) && (!decide (x ∈ done) && hopL l (done ++ [x]) xs)
def hopP (t : Tm) (qs : List Qr) (x : Hdr) (out : List Hdr) : Bool :=
  decide (checkP t qs = 0) && (decide (x.f 3 = 0) && (decide ((ofC t x).1 = 0) && hopL (ofC t x).2 [] out))
/-- a hop's cells -/
def hopCs (step pol : Int) (x : Hdr) (ov : Value) : List Value := [.int .i64 step, .int .i64 pol] ++ (x.cs.toList ++ [ov])
def HopVal (w : World) (step pol : Int) (x : Hdr) (out : List Hdr) (v : Value) : Prop :=
  ∃ ov, v = .agg (hopCs step pol x ov).toArray ∧ HSl w 0 out ov ∧ out.length ≤ 9223372036854775807
theorem hop_cells {w : World} {b o : Nat} {step pol : Int} {x : Hdr} {ov : Value} (h : w.rangeAt b o (hopCs step pol x ov)) :
    w.cell? ⟨b, o, none⟩ = some (.int .i64 step) ∧ w.cell? ⟨b, o + 1, none⟩ = some (.int .i64 pol) ∧ w.rangeAt b (o + 2) x.cs.toList ∧ w.cell? ⟨b, o + 13, none⟩ = some ov := by
  refine ⟨by simpa using h 0 _ rfl, by simpa using h 1 _ rfl, fun j v hv => ?_, ?_⟩
  · have hj : j < x.cs.toList.length := (List.getElem?_eq_some_iff.1 hv).1
    have := h (2 + j) v (by
      unfold hopCs
      rw [List.getElem?_append_right (by simp), show 2 + j - [Value.int .i64 step, Value.int .i64 pol].length = j from by simp]
      rw [List.getElem?_append_left hj]; exact hv)
    rwa [show o + 2 + j = o + (2 + j) from by omega]
  · refine h 13 ov ?_
    unfold hopCs
    rw [List.getElem?_append_right (by simp), List.getElem?_append_right (by rw [x.len_cs]; simp), x.len_cs]
    rfl
def vvZ (n : Int) : Value := .int .i64 n
/-- the map of what is left -/
def LeftIs (w : World) (b : Nat) (l done : List Hdr) : Prop :=
  ∃ L : List (Hdr × Int), MapOf w kvH vvZ b L ∧ (L.map (·.1)).Nodup ∧ ∀ y, look y L = if y ∈ done then some 0 else if y ∈ l then some 1 else none
theorem LeftIs.ext {w w' : World} {b : Nat} {l done : List Hdr} (h : LeftIs w b l done) (hx : Ext w w') : LeftIs w' b l done := by
  obtain ⟨L, h1, h2⟩ := h
  exact ⟨L, MapRaw.ext h1 hx, h2⟩
theorem LeftIs.lt {w : World} {b : Nat} {l done : List Hdr} (h : LeftIs w b l done) : b < w.heap.size := by
  obtain ⟨L, h1, -⟩ := h
  exact MapRaw.lt h1
theorem LeftIs.made (w : World) : LeftIs (w.alloc (.map #[] 0)) w.heap.size [] [] := ⟨[], MapRaw.made w, by simp, fun y => by simp [look]⟩
theorem LeftIs.fill {w : World} {b : Nat} {l : List Hdr} (h : LeftIs w b l []) (x : Hdr) :
    ∃ w', (Instr.mapUpdate 61 (.map (some b)) (.agg x.cs) (.int .i64 1)).run Try.prog w = .ok () w' ∧ LeftIs w' b (l ++ [x]) [] ∧ w.grownBy w' (some b) := by
  obtain ⟨L, h1, h2, h3⟩ := h
  obtain ⟨w', hu, hm, hg⟩ := run_update_of codedH Try.underlying61 h1 h2 x (1 : Int)
  refine ⟨w', hu, ⟨_, hm, store_keys h2, fun y => ?_⟩, hg⟩
  by_cases hy : y = x
  · subst hy
    rw [look_store]; simp
  · rw [look_other _ hy, h3 y]
    simp [hy]
theorem LeftIs.take {w : World} {b : Nat} {l done : List Hdr} (h : LeftIs w b l done) (x : Hdr) (n m : Int) (hn : n = if x ∈ done then 0 else if x ∈ l then 1 else 0) (hmn : m = n - 1) :
    ∃ (st : Nat) (w1 w2 : World), (Instr.lookup 61 (.map (some b)) (.agg x.cs) false).run Try.prog w = .ok (.int .i64 n) w ∧
      (Instr.mapEntry 61 (.map (some b)) (.agg x.cs)).run Try.prog w = .ok (.tuple #[.int .i64 n, .int .i64 st]) w1 ∧
      (Instr.lookup 61 (.map (some b)) (.agg x.cs) false).run Try.prog w1 = .ok (.int .i64 n) w1 ∧
      (Instr.entryStore 61 (.map (some b)) (.int .i64 st) (.int .i64 m)).run Try.prog w1 = .ok () w2 ∧
      w.grownBy w1 (some b) ∧ w.grownBy w2 (some b) ∧ (n = 1 → LeftIs w2 b l (done ++ [x])) ∧
      ∀ W, Ext w2 W → (Instr.lookup 61 (.map (some b)) (.agg x.cs) false).run Try.prog W = .ok (.int .i64 m) W := by
  subst hmn
  obtain ⟨L, h1, h2, h3⟩ := h
  have hl : (look x L).getD 0 = n := by
    rw [h3 x, hn]
    split
    · rfl
    · split <;> rfl
  obtain ⟨st, w1, he, ⟨L1, hm1, hn1, hl1⟩, hg1, hs⟩ := run_entry_of codedH Try.underlying61 h1 h2 x (0 : Int) zeroI
  obtain ⟨w2, he2, hm2, hg2⟩ := hs (n - 1)
  have q : ∀ {W : World} {M : List (Hdr × Int)}, MapOf W kvH vvZ b M → (M.map (·.1)).Nodup → (Instr.lookup 61 (.map (some b)) (.agg x.cs) false).run Try.prog W = .ok (.int .i64 ((look x M).getD 0)) W := fun {W M} hM hN => by
    have := run_lookup_of codedH Try.underlying61 hM hN x _ (zeroI W) false
    cases hq : look x M <;> (rw [hq] at this; exact this)
  refine ⟨st, w1, w2, ?_, ?_, ?_, he2, hg1, hg2, fun h1n => ⟨_, hm2, store_keys h2, fun y => ?_⟩, fun W hW => ?_⟩
  · rw [q h1 h2, hl]
  · rw [hl] at he; exact he
  · rw [q hm1 hn1, hl1, hl]
  · by_cases hy : y = x
    · subst hy
      rw [look_store, h1n]; simp
    · rw [look_other _ hy, h3 y]
      simp [hy]
  · rw [q (MapRaw.ext hm2 hW : MapOf W kvH vvZ b _) (store_keys h2), look_store]; rfl

set_option maxHeartbeats 4000000 in
set_option maxRecDepth 100000 in
theorem hop_any (t : Tm) (qs : List Qr) (step pol : Int) (x : Hdr) (out : List Hdr) (hv pv : Value) (w : World) (hh : HopVal w step pol x out hv) (hp : PVal w t qs pv) :
    Calls Try.prog 10 #[hv, pv] w fun e w' => e = .returned (.bool (hopP t qs x out)) ∧ Ext w w' := by
  have HPV := Lib.hid hp
  obtain ⟨ov, rfl, ⟨po, lo, co, rfl, hlo, hout⟩, hmax⟩ := hh
  have HLO := Lib.hid hlo
  have hlm : lo ≤ 9223372036854775807 := by omega
  obtain ⟨p, len, cap, qv, rfl, -⟩ := hp
  obtain ⟨wA, hA⟩ : ∃ W : World, w.alloc (.cells (hopCs step pol x (.slice po lo co)).toArray 27) = W := ⟨_, rfl⟩
  have xA : Ext w wA := hA ▸ Ext.alloc _ _
  have sA : wA.heap.size = w.heap.size + 1 := by rw [← hA, World.size_alloc]
  have rA : wA.rangeAt w.heap.size 0 (hopCs step pol x (.slice po lo co)) := by
    have := rangeAt_new w (hopCs step pol x (.slice po lo co)).toArray 27
    rw [hA] at this
    exact this
  obtain ⟨wB, hB⟩ : ∃ W : World, wA.alloc (.cells #[.int .i8 t.op, .int .i8 t.fld, .int .u64 t.n, .slice p len cap, qv] 34) = W := ⟨_, rfl⟩
  have xB : Ext wA wB := hB ▸ Ext.alloc _ _
  have sB : wB.heap.size = w.heap.size + 2 := by rw [← hB, World.size_alloc, sA]
  have rB : wB.rangeAt (w.heap.size + 1) 0 [.int .i8 t.op, .int .i8 t.fld, .int .u64 t.n, .slice p len cap, qv] := by
    have := rangeAt_new wA #[.int .i8 t.op, .int .i8 t.fld, .int .u64 t.n, .slice p len cap, qv] 34
    rw [hB, sA] at this
    exact this
  have HX := Lib.hid (xA.trans xB)
  have HHC := Lib.hid (fun W (hW : Ext wB W) => hop_cells (World.rangeAt.later (xB.trans hW).later rA))
  have HPC := Lib.hid (fun W (hW : Ext wB W) => show W.cell? ⟨w.heap.size + 1, 0, none⟩ = some (.int .i8 t.op) ∧ W.cell? ⟨w.heap.size + 1, 1, none⟩ = some (.int .i8 t.fld) ∧ W.cell? ⟨w.heap.size + 1, 2, none⟩ = some (.int .u64 t.n) ∧ W.cell? ⟨w.heap.size + 1, 3, none⟩ = some (.slice p len cap) ∧ W.cell? ⟨w.heap.size + 1, 4, none⟩ = some qv from by
    have hr := World.rangeAt.later hW.later rB
    exact ⟨by simpa using hr 0 _ rfl, by simpa using hr 1 _ rfl, by simpa using hr 2 _ rfl, by simpa using hr 3 _ rfl, by simpa using hr 4 _ rfl⟩)
  have HO := Lib.hid (show out = [] ∨ ∃ b o, po = some ⟨b, o, none⟩ ∧ ∀ W, Ext wB W → W.rangeAt b o (flatH out) from
    hout.imp id fun ⟨b, o, hp, _, hr⟩ => ⟨b, o, hp, fun W hW => World.rangeAt.later ((xA.trans xB).trans hW).later hr⟩)
  have HEQ := Lib.hid (show w.alloc (.cells (hopCs step pol x (.slice po lo co)).toArray 27) = wA ∧ wA.alloc (.cells #[.int .i8 t.op, .int .i8 t.fld, .int .u64 t.n, .slice p len cap, qv] 34) = wB from ⟨hA, hB⟩)
  have HCK := Lib.hid (checkQ_any t qs _ wB (HPV.out.later HX.out.later))
  obtain ⟨b0, b1, b2, b3, b4⟩ := HPC.out _ (Ext.refl _)
  clear xA sA rA hA xB rB hB hlo hout hmax
  go_enter Try.func10, Try.ntmps10
  go_upto_region 1 with fail
  rw [HEQ.out.1, HEQ.out.2]
  clear HEQ
  go_wp2_with fail
  refine HCK.out.mono ?_
  rintro e w1 ⟨rfl, hx1⟩
  clear b0 b1 b2 b3 b4
  obtain ⟨b0, b1, b2, b3, b4⟩ := HPC.out _ hx1
  have hhc := HHC.out _ hx1
  have HRX := Lib.hid hhc.2.2.1
  have c3 := cellAt hhc.2.2.1 3 (by omega)
  have c13 := hhc.2.2.2
  simp only [Nat.zero_add, Nat.reduceAdd] at c3 c13
  have HX1 := Lib.hid hx1
  clear hhc
  by_cases h0 : checkP t qs = 0
  case neg =>
    have HF := Lib.hid (show hopP t qs x out = false from by simp [hopP, h0])
    have hd : (checkP t qs == 0) = false := by simpa using h0
    generalize checkP t qs = y at *
    go_wp2_with fail
    go_ret
    exact ⟨by rw [HF.out]; rfl, HX.out.trans HX1.out⟩
  have HP1 := Lib.hid (show hopP t qs x out = (decide (x.f 3 = 0) && (decide ((ofC t x).1 = 0) && hopL (ofC t x).2 [] out)) from by simp [hopP, h0])
  rw [h0]
  clear h0
  by_cases h3 : x.f 3 = 0
  case neg =>
    have HF := Lib.hid (show hopP t qs x out = false from by rw [HP1.out]; simp [h3])
    have hd : (x.f 3 == 0) = false := by simpa using h3
    generalize x.f 3 = y at *
    go_wp2_with fail
    go_ret
    exact ⟨by rw [HF.out]; rfl, HX.out.trans HX1.out⟩
  have HP2 := Lib.hid (show hopP t qs x out = (decide ((ofC t x).1 = 0) && hopL (ofC t x).2 [] out) from by rw [HP1.out]; simp [h3])
  rw [h3] at c3
  clear h3 HP1
  have HOF := Lib.hid (meaningOf_any t _ x w1 (show t.Val w1 (.agg #[.int .i8 t.op, .int .i8 t.fld, .int .u64 t.n, .slice p len cap]) from by
    obtain ⟨_, _, _, _, he, hvt, -⟩ := HPV.out
    simp at he
    obtain ⟨⟨rfl, rfl, rfl⟩, rfl⟩ := he
    exact hvt.later (HX.out.trans HX1.out).later))
  generalize ofC t x = R at *
  obtain ⟨c, l⟩ := R
  go_upto_region 3 with fail
  go_wp2_with (first | (refine wpList_load_H rfl _ rfl w.heap.size 2 rfl x HRX.out ?_))
  refine HOF.out.mono ?_
  rintro e w2 ⟨hx2, h64, v2, rfl, hown2⟩
  have HX2 := Lib.hid (HX1.out.trans hx2)
  obtain ⟨p2, len2, cap2, rfl, hlen2, hl2⟩ := HSl.of_owns hown2
  have HL2 := Lib.hid hlen2
  have hlen64 : len2 ≤ 64 := by rw [hlen2]; exact h64
  clear b0 b1 b2 b3 b4 c3 c13 hown2 hlen2
  have c13 := (HHC.out _ HX2.out).2.2.2
  simp only [Nat.zero_add] at c13
  by_cases hc0 : c = 0
  case neg =>
    have HF := Lib.hid (show hopP t qs x out = false from by rw [HP2.out]; simp [hc0])
    have hd : (c == 0) = false := by simpa using hc0
    go_wp2_with fail
    go_ret
    exact ⟨by rw [HF.out]; rfl, HX.out.trans HX2.out⟩
  have HP3 := Lib.hid (show hopP t qs x out = hopL l [] out from by rw [HP2.out]; simp [hc0])
  subst hc0
  have hmm := @run_makeMap Try.prog
  have HM0 := Lib.hid (LeftIs.made w2)
  have HXM := Lib.hid (HX2.out.andAlloc (.map #[] 0))
  have HLR := Lib.hid (show l = [] ∨ ∃ b o, p2 = some ⟨b, o, none⟩ ∧ b < w2.heap.size ∧ w2.rangeAt b o (flatH l) from by
    rcases hl2 with h | ⟨b, o, rfl, hb, hr⟩
    · exact .inl h
    · refine (Nat.eq_zero_or_pos l.length).imp (fun h => List.length_eq_zero_iff.1 h) fun h => ⟨b, o, rfl, ?_, hr⟩
      have := World.block_lt_of_cell? w2 _ (rangeAt_get Hdr.len_cs hr 0 h 0 _ (show (l[0]).cs.toList[0]? = some _ from by rw [Array.getElem?_toList]; exact (l[0]).cell 0 (by omega)))
      exact this)
  have hsw : wB.heap.size ≤ w2.heap.size := HX2.out.size
  have sB' : wB.heap.size = w.heap.size + 2 := sB
  clear hl2 HP2
  go_wp2_with fail
  clear c13
  go_loopw [34] (fun i wr => ∃ j : Nat, j ≤ len2 ∧ i = .int .i64 j ∧ Hid (LeftIs wr w2.heap.size (l.take j) []) ∧ Hid (Keep (· = w2.heap.size) w2 wr)) (fun i _ => len2 - (intOf i).toNat)
  case atStart => exact ⟨0, Nat.zero_le _, rfl, HM0.out, (Ext.alloc _ _).keep _⟩
  case round =>
    obtain ⟨wo, rfl⟩ : ∃ wo : World, wo = wr := ⟨_, rfl⟩
    obtain ⟨j, hj, rfl, hm, hk⟩ := hrel
    by_cases hlt : j < len2
    · have hjl : j < l.length := by rw [← HL2.out]; exact hlt
      rcases HLR.out with hl | ⟨b, o, rfl, hb, hr⟩
      · exfalso; subst hl; simp at hjl
      have HRe := Lib.hid (hk.out.range (rangeAt_get Hdr.len_cs hr j hjl) (show ¬ b = w2.heap.size by omega))
      have hlt2 := hm.out.lt
      have HTk := Lib.hid (List.take_succ_eq_append_getElem hjl)
      generalize l[j] = y at *
      have hm2 := hm.out.ext (Ext.alloc wo (.cells y.cs 24))
      obtain ⟨w3, hup, hm3, hg3⟩ := hm2.fill y
      have HUP := Lib.hid hup
      have HRN := Lib.hid (rangeAt_new wo y.cs 24)
      have HM3 := Lib.hid hm3
      have HK3 := Lib.hid (hk.out.trans (((Ext.alloc wo (.cells y.cs 24)).keep _).trans (Keep.grown hg3)))
      clear hr hup hm3 hm2 hg3
      go_wp2_with (first
        | (refine wpList_store_new rfl 24 _ _ rfl _ y.cs rfl rfl (by rw [y.size_cs]; kernel_rfl) (by rw [y.size_cs]; rfl) (all_oneCell_toArray y.one) ?_)
        | (refine wpList_load_H rfl _ rfl _ _ rfl y HRe.out ?_)
        | (refine wpList_load_H rfl _ rfl _ _ rfl y HRN.out ?_)
        | (refine wpList_update_run rfl 61 _ _ _ (.inl rfl) _ _ _ _ rfl rfl rfl HUP.out ?_))
      go_roundw
      case rel => exact ⟨j + 1, by omega, by go_num, by rw [HTk.out]; exact HM3.out, HK3.out⟩
      case measure => simp [intOf]; omega
    · have HM := Lib.hid (show LeftIs wo w2.heap.size l [] from by
        have := hm.out
        rwa [List.take_of_length_le (by have := HL2.out; omega)] at this)
      have hx0 : Ext wB wo := HX2.out.andKeep hk.out (fun i hi => by rw [hi]; exact hsw)
      have c13 := (HHC.out _ hx0).2.2.2
      simp only [Nat.zero_add] at c13
      have hszo : w2.heap.size < wo.heap.size := hm.out.lt
      clear hm
      go_wp2_with fail
      clear c13
      go_loopw [44] (fun i wr => ∃ j : Nat, j ≤ lo ∧ i = .int .i64 j ∧ Hid (LeftIs wr w2.heap.size l (out.take j)) ∧ Hid (hopL l (out.take j) (out.drop j) = hopL l [] out) ∧ Hid (Ext wB wr)) (fun i _ => lo - (intOf i).toNat)
      case atStart => exact ⟨0, Nat.zero_le _, rfl, HM.out, rfl, hx0⟩
      case round =>
        obtain ⟨wn, rfl⟩ : ∃ wn : World, wn = wr := ⟨_, rfl⟩
        obtain ⟨j, hj, rfl, hm, hH, hx⟩ := hrel
        by_cases hlt3 : j < lo
        · have hjl : j < out.length := by rw [← HLO.out]; exact hlt3
          rcases HO.out with hl | ⟨b, o, rfl, hr⟩
          · exfalso; subst hl; simp at hjl
          have HRe := Lib.hid (rangeAt_get Hdr.len_cs (hr _ hx.out) j hjl)
          have HTk := Lib.hid (List.take_succ_eq_append_getElem hjl)
          have hH2 := hH.out
          rw [drop_get hjl, hopL] at hH2
          generalize out[j] = y at *
          have xS : Ext wn (wn.alloc (.cells y.cs 24)) := Ext.alloc _ _
          have hltm := hm.out.lt
          by_cases hg : y ∈ l ∧ y ∉ out.take j
          · have HG := Lib.hid (show hopL l (out.take j ++ [y]) (out.drop (j + 1)) = hopL l [] out from by rw [← hH2]; simp [hg.1, hg.2])
            clear hH2
            obtain ⟨st, w3, w4, q1, q2, q3, q4, g3, g4, hok, hq⟩ := ((hm.out.ext xS).ext (Ext.drew _)).take y 1 (0) (by rw [if_neg hg.2, if_pos hg.1]) (by omega)
            have HRN := Lib.hid (rangeAt_new wn y.cs 24)
            have hne : ¬ wn.heap.size = w2.heap.size := by omega
            have HRN4 := Lib.hid ((Keep.grown g4).range (World.rangeAt.later (Ext.drew _).later HRN.out) hne)
            have HX4 := Lib.hid (show Ext wB w4 from ((hx.out.trans xS).trans (Ext.drew _)).andKeep (Keep.grown g4) (fun i hi => by rw [hi]; exact hsw))
            have HRD := Lib.hid (World.rangeAt.later (Ext.drew _).later HRN.out)
            obtain ⟨wS, hS⟩ : ∃ W : World, wn.alloc (.cells y.cs 24) = W := ⟨_, rfl⟩
            rw [hS] at q1 q2 HRN HRD
            have HEQ := Lib.hid hS
            have HQ4 := Lib.hid (hq w4 (Ext.refl _))
            have HOK := Lib.hid hok
            have ps : ∀ i, i < 11 → wS.drew.cell? ⟨wn.heap.size, i, none⟩ = some (.int .u64 (y.f i)) := fun i hi => by
              have := cellAt HRD.out i hi
              rwa [Nat.zero_add] at this
            have p0 := ps 0 (by omega)
            have p1 := ps 1 (by omega)
            have p2 := ps 2 (by omega)
            have p3 := ps 3 (by omega)
            have p4 := ps 4 (by omega)
            have p5 := ps 5 (by omega)
            have p6 := ps 6 (by omega)
            have p7 := ps 7 (by omega)
            have p8 := ps 8 (by omega)
            have p9 := ps 9 (by omega)
            have p10 := ps 10 (by omega)
            simp only [Hdr.cs_eq] at q1 q2 q3 q4
            clear hq hS hr hH hok g3 g4 xS ps hm
            go_upto_region 15 with (first
              | (refine wpList_store_new rfl 24 _ _ rfl _ y.cs rfl rfl (by rw [y.size_cs]; kernel_rfl) (by rw [y.size_cs]; rfl) (all_oneCell_toArray y.one) ?_)
              | (refine wpList_load_H rfl _ rfl _ _ rfl y HRe.out ?_))
            rw [HEQ.out]
            clear HEQ
            simp only [Act.put]
            go_cut [] (fun wx => Hid (wx = w4))
            case first =>
              go_region
              all_goals (go_wp2_with fail; go_meet; rfl)
            case rest =>
              have hcw := hcut.out
              subst hcw
              clear hcut p0 p1 p2 p3 p4 p5 p6 p7 p8 p9 p10 q1 q2 q3 q4
              have hl4 := HQ4.out
              go_wp2_with (first
                | (refine wpList_load_H rfl _ rfl _ _ rfl y HRN4.out ?_)
                | (refine wpList_lookup_run rfl 61 _ _ false rfl _ _ _ rfl rfl HQ4.out ?_))
              go_roundw
              case rel => exact ⟨j + 1, by omega, by go_num, by rw [HTk.out]; exact HOK.out rfl, by rw [HTk.out]; exact HG.out, HX4.out⟩
              case measure => simp [intOf]; omega
          · have HF := Lib.hid (show hopP t qs x out = false from by
              rw [HP3.out, ← hH2]
              by_cases h1 : y ∈ l
              · have h2 : y ∈ out.take j := Classical.not_not.1 fun h => hg ⟨h1, h⟩
                simp [h1, h2]
              · simp [h1])
            clear hH2
            obtain ⟨st, w3, w4, q1, q2, q3, q4, g3, g4, hok, hq⟩ := ((hm.out.ext xS).ext (Ext.drew _)).take y 0 (-1) (by
              by_cases h2 : y ∈ out.take j
              · rw [if_pos h2]
              · rw [if_neg h2, if_neg (fun h1 => hg ⟨h1, h2⟩)]) (by omega)
            have HRN := Lib.hid (rangeAt_new wn y.cs 24)
            have hne : ¬ wn.heap.size = w2.heap.size := by omega
            have HRN4 := Lib.hid ((Keep.grown g4).range (World.rangeAt.later (Ext.drew _).later HRN.out) hne)
            have HX4 := Lib.hid (show Ext wB w4 from ((hx.out.trans xS).trans (Ext.drew _)).andKeep (Keep.grown g4) (fun i hi => by rw [hi]; exact hsw))
            have HRD := Lib.hid (World.rangeAt.later (Ext.drew _).later HRN.out)
            obtain ⟨wS, hS⟩ : ∃ W : World, wn.alloc (.cells y.cs 24) = W := ⟨_, rfl⟩
            rw [hS] at q1 q2 HRN HRD
            have HEQ := Lib.hid hS
            have HQ4 := Lib.hid (hq w4 (Ext.refl _))
            have HOK := Lib.hid hok
            have ps : ∀ i, i < 11 → wS.drew.cell? ⟨wn.heap.size, i, none⟩ = some (.int .u64 (y.f i)) := fun i hi => by
              have := cellAt HRD.out i hi
              rwa [Nat.zero_add] at this
            have p0 := ps 0 (by omega)
            have p1 := ps 1 (by omega)
            have p2 := ps 2 (by omega)
            have p3 := ps 3 (by omega)
            have p4 := ps 4 (by omega)
            have p5 := ps 5 (by omega)
            have p6 := ps 6 (by omega)
            have p7 := ps 7 (by omega)
            have p8 := ps 8 (by omega)
            have p9 := ps 9 (by omega)
            have p10 := ps 10 (by omega)
            simp only [Hdr.cs_eq] at q1 q2 q3 q4
            clear hq hS hr hH hok g3 g4 xS ps hm
            go_upto_region 15 with (first
              | (refine wpList_store_new rfl 24 _ _ rfl _ y.cs rfl rfl (by rw [y.size_cs]; kernel_rfl) (by rw [y.size_cs]; rfl) (all_oneCell_toArray y.one) ?_)
              | (refine wpList_load_H rfl _ rfl _ _ rfl y HRe.out ?_))
            rw [HEQ.out]
            clear HEQ
            simp only [Act.put]
            go_cut [] (fun wx => Hid (wx = w4))
            case first =>
              go_region
              all_goals (go_wp2_with fail; go_meet; rfl)
            case rest =>
              have hcw := hcut.out
              subst hcw
              clear hcut p0 p1 p2 p3 p4 p5 p6 p7 p8 p9 p10 q1 q2 q3 q4
              have hl4 := HQ4.out
              go_wp2_with (first
                | (refine wpList_load_H rfl _ rfl _ _ rfl y HRN4.out ?_)
                | (refine wpList_lookup_run rfl 61 _ _ false rfl _ _ _ rfl rfl HQ4.out ?_))
              go_ret
              exact ⟨by rw [HF.out]; rfl, HX.out.trans HX4.out⟩
        · have HF := Lib.hid (show hopP t qs x out = true from by
            rw [HP3.out, ← hH.out, List.drop_of_length_le (by have := HLO.out; omega), hopL])
          clear hm hH
          go_wp2_with fail
          go_ret
          exact ⟨by rw [HF.out]; rfl, HX.out.trans hx.out⟩
end Go.Proofs.Ytddeelepaiklgaa
