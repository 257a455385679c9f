/- The document's Holds, both. -/
import Derived.Test.YtpjmdjddgnaddaaRef19b
import Derived.Test.YtpjmdjddgnaddaaRef18c
namespace Go.Proofs.Ytpjmdjddgnaddaa
open Go.RowKit Go.Maps

set_option maxHeartbeats 4000000 in
set_option maxRecDepth 100000 in
theorem refHoldsTop_any (t : Tm) (v : Value) (x : Hdr) (w : World) (hv : t.Val w v) :
    Calls Try.prog 12 #[v, .agg x.cs] w fun e w' => e = .returned (.bool (holdsT t x)) ∧ Ext w w' := by
  have HV := Lib.hid hv
  obtain ⟨p, len, cap, rfl⟩ := hv.cs'
  clear hv
  obtain ⟨wA, hA⟩ : ∃ W : World, w.alloc (.cells #[.int .i8 t.op, .int .i8 t.fld, .int .u64 t.n, .slice p len cap] 26) = W := ⟨_, rfl⟩
  have xA : Ext w wA := hA ▸ Ext.alloc _ _
  have sA : wA.heap.size = w.heap.size + 1 := by rw [← hA, World.size_alloc]
  have rA : wA.rangeAt w.heap.size 0 [.int .i8 t.op, .int .i8 t.fld, .int .u64 t.n, .slice p len cap] := by
    have := rangeAt_new w #[.int .i8 t.op, .int .i8 t.fld, .int .u64 t.n, .slice p len cap] 26
    rw [hA] at this
    exact this
  obtain ⟨wB, hB⟩ : ∃ W : World, wA.alloc (.cells x.cs 28) = W := ⟨_, rfl⟩
  have xB : Ext wA wB := hB ▸ Ext.alloc _ _
  have rB : wB.rangeAt (w.heap.size + 1) 0 x.cs.toList := by
    have := rangeAt_new wA x.cs 28
    rw [hB, sA] at this
    exact this
  have HRA := Lib.hid (fun W (hW : Ext wB W) => World.rangeAt.later (xB.trans hW).later rA)
  have HRX := Lib.hid (fun W (hW : Ext wB W) => World.rangeAt.later hW.later rB)
  have HVA := Lib.hid (fun W (hW : Ext wB W) => HV.out.later ((xA.trans xB).trans hW).later)
  have HZ := Lib.hid (xA.trans xB)
  have HEQ := Lib.hid (And.intro hA hB)
  clear xA xB sA rA rB hA hB
  go_enter Try.func12, Try.ntmps12
  go_upto_region 1 with fail
  rw [HEQ.out.1, HEQ.out.2]
  clear HEQ
  obtain ⟨c0, c1, c2, c3⟩ := cells4' (HRA.out _ (Ext.refl _))
  go_wp2_with fail
  refine (refPred_any t _ wB (HVA.out _ (Ext.refl _))).mono ?_
  rintro e w1 ⟨rfl, hx1⟩
  clear c0 c1 c2 c3
  obtain ⟨c0, c1, c2, c3⟩ := cells4' (HRA.out _ hx1)
  have hrx := HRX.out _ hx1
  have x0 := cellAt0 hrx 0 (by omega)
  have x1 := cellAt0 hrx 1 (by omega)
  have x2 := cellAt0 hrx 2 (by omega)
  have x3 := cellAt0 hrx 3 (by omega)
  have x4 := cellAt0 hrx 4 (by omega)
  have x5 := cellAt0 hrx 5 (by omega)
  have x6 := cellAt0 hrx 6 (by omega)
  have x7 := cellAt0 hrx 7 (by omega)
  have x8 := cellAt0 hrx 8 (by omega)
  have x9 := cellAt0 hrx 9 (by omega)
  have x10 := cellAt0 hrx 10 (by omega)
  clear hrx
  have HX1 := Lib.hid hx1
  by_cases h0 : predT t = 0
  · have HF := Lib.hid (show holdsT t x = t.holds x from by simp [holdsT, h0])
    have hh := refHolds_any t x _ w1 (HVA.out _ hx1) (predT_zero h0).1
    simp only [Hdr.cs_eq] at hh
    have HH := Lib.hid hh
    rw [h0]
    clear h0 hh
    go_wp2_with fail
    refine HH.out.mono ?_
    rintro e w2 ⟨rfl, hx2⟩
    go_wp2_with fail
    go_ret
    exact ⟨by rw [HF.out]; rfl, HZ.out.trans (HX1.out.trans hx2)⟩
  · have HF := Lib.hid (show holdsT t x = false from by simp [holdsT, h0])
    have hd : (predT t == 0) = false := by simpa using h0
    generalize predT t = y at *
    clear h0
    go_wp2_with fail
    go_ret
    exact ⟨by rw [HF.out]; rfl, HZ.out.trans HX1.out⟩

/-- a set and what is put in besides -/
def addAll : List Hdr → List Hdr → List Hdr
  | l, [] => l
  | l, x :: xs => addAll (addH l x) xs
theorem length_addAll : ∀ (xs l : List Hdr), l.length ≤ (addAll l xs).length ∧ (addAll l xs).length ≤ l.length + xs.length
  | [], l => by simp [addAll]
  | x :: xs, l => by
    have h1 := length_addH x l
    have h2 := length_addAll xs (addH l x)
    simp only [addAll, List.length_cons]
    omega
theorem addAll_snoc : ∀ (xs l : List Hdr) (x : Hdr), addAll l (xs ++ [x]) = addH (addAll l xs) x
  | [], _, _ => rfl
  | y :: ys, l, x => by
    simp only [List.cons_append, addAll]
    exact addAll_snoc ys (addH l y) x

set_option maxHeartbeats 4000000 in
set_option maxRecDepth 100000 in
theorem refBoth_any (l m : List Hdr) (u v : Value) (lo lo2 : Nat) (w : World) (hu : HSl w lo l u) (hv : HSl w lo2 m v) (hl : l.length ≤ 200) (hm : m.length ≤ 200) (hlo : lo ≤ w.heap.size) :
    Calls Try.prog 44 #[u, v] w fun e w' => (∃ s, e = .returned (.tuple #[s, .bool (decide ((addAll l m).length ≤ 64))]) ∧ HSl w' lo (addAll l m) s) ∧ Ext w w' := by
  have HU := Lib.hid hu
  obtain ⟨p2, len2, cap2, rfl, hlen2, hm2⟩ := hv
  have HL := Lib.hid hlen2
  have HM := Lib.hid hm2
  have hlen200 : len2 ≤ 200 := by omega
  clear hu hlen2 hm2
  go_enter Try.func44, Try.ntmps44
  go_wp2_with fail
  go_loopw [0, 6] (fun s i wr => ∃ j : Nat, j ≤ len2 ∧ i = .int .i64 j ∧ Hid (HSl wr lo (addAll l (m.take j)) s) ∧ Hid (Ext w wr)) (fun _ i _ => len2 - (intOf i).toNat)
  case atStart => exact ⟨0, Nat.zero_le _, rfl, HU.out, Ext.refl _⟩
  case round =>
    obtain ⟨wo, rfl⟩ : ∃ wo : World, wo = wr := ⟨_, rfl⟩
    obtain ⟨j, hj, rfl, hs, hx⟩ := hrel
    by_cases hjm : j < len2
    · have hjl : j < m.length := by rw [← HL.out]; exact hjm
      obtain ⟨b, o, rfl, hb, hr⟩ := HM.out.resolve_left (fun e => by rw [e] at hjl; simp at hjl)
      have hre := Lib.hid (World.rangeAt.later hx.out.later (rangeAt_get Hdr.len_cs hr j hjl))
      have HTk := Lib.hid (show addAll l (m.take (j + 1)) = addH (addAll l (m.take j)) (m[j]) from by rw [List.take_succ_eq_append_getElem hjl, addAll_snoc])
      have hbd := (length_addAll (m.take j) l).2
      have hbd2 : (addAll l (m.take j)).length ≤ 1000 := by simp at hbd; omega
      have HA := Lib.hid (refAdd_any (addAll l (m.take j)) _ (m[j]) lo wo hs.out hbd2 (by have := hx.out.size; omega))
      generalize m[j] = y at *
      clear hr hbd
      go_wp2_with (first | (refine wpList_load_H rfl _ rfl b (o + j * 11) rfl y hre.out ?_))
      refine HA.out.mono ?_
      rintro e w1 ⟨⟨s1, rfl, hs1⟩, hx1⟩
      have HS1 := Lib.hid hs1
      clear hs1
      go_wp2_with fail
      go_roundw
      case rel => exact ⟨j + 1, by omega, by go_num, by rw [HTk.out]; exact HS1.out, hx.out.trans hx1⟩
      case measure => simp [intOf]; omega
    · have HT := Lib.hid (show addAll l (m.take j) = addAll l m from by rw [List.take_of_length_le (by have := HL.out; omega)])
      have hs2 := hs.out
      rw [HT.out] at hs2
      have HS2 := Lib.hid hs2
      have hbd := (length_addAll m l).2
      have hbd2 : (addAll l m).length ≤ 400 := by omega
      obtain ⟨q, n, c, hq, hn, _⟩ := HS2.out
      subst hq
      have HN := Lib.hid hn
      rw [← hn] at hbd2
      clear hs2 hbd hn hs
      have hd := Lib.hid (show decide ((addAll l m).length ≤ 64) = decide ((n : Int) ≤ 64) from by rw [← HN.out]; exact decide_eq_decide.2 (by omega))
      go_wp2_with fail
      go_ret2
      exact ⟨⟨.slice q n c, by rw [hd.out]; rfl, HS2.out⟩, hx.out⟩
end Go.Proofs.Ytpjmdjddgnaddaa
