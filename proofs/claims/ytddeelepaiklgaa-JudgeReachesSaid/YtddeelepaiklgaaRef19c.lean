/- The document's Holds, both. -/
import Derived.Test.YtddeelepaiklgaaRef19b
import Derived.Test.YtddeelepaiklgaaRef18c
namespace Go.Proofs.Ytddeelepaiklgaa
open Go.RowKit Go.Maps

/-- a set and what is put in besides -/
def addAll : List Hdr → List Hdr → List Hdr
  | l, [] => l
  | l, x :: xs => addAll (addH l x) xs
theorem length_addAll : ∀ (xs l : List Hdr), l.length ≤ (addAll l xs).length ∧ (addAll l xs).length ≤ l.length + xs.length
  | [], l => by simp [addAll]
  | x :: xs, l => by
    have h1 := length_addH x l
    have h2 := length_addAll xs (addH l x)
    simp only [addAll, List.length_cons]
    omega
theorem addAll_snoc : ∀ (xs l : List Hdr) (x : Hdr), addAll l (xs ++ [x]) = addH (addAll l xs) x
  | [], _, _ => rfl
  | y :: ys, l, x => by
    simp only [List.cons_append, addAll]
    exact addAll_snoc ys (addH l y) x

set_option maxHeartbeats 4000000 in
set_option maxRecDepth 100000 in
theorem refBoth_any (l m : List Hdr) (u v : Value) (lo lo2 : Nat) (w : World) (hu : HSl w lo l u) (hv : HSl w lo2 m v) (hl : l.length ≤ 200) (hm : m.length ≤ 200) (hlo : lo ≤ w.heap.size) :
    Calls Try.prog 69 #[u, v] w fun e w' => (∃ s, e = .returned (.tuple #[s, .bool (decide ((addAll l m).length ≤ 64))]) ∧ HSl w' lo (addAll l m) s) ∧ Ext w w' := by
  have HU := Lib.hid hu
  obtain ⟨p2, len2, cap2, rfl, hlen2, hm2⟩ := hv
  have HL := Lib.hid hlen2
  have HM := Lib.hid hm2
  have hlen200 : len2 ≤ 200 := by omega
  clear hu hlen2 hm2
  go_enter Try.func69, Try.ntmps69
  go_wp2_with fail
  go_loopw [0, 6] (fun s i wr => ∃ j : Nat, j ≤ len2 ∧ i = .int .i64 j ∧ Hid (HSl wr lo (addAll l (m.take j)) s) ∧ Hid (Ext w wr)) (fun _ i _ => len2 - (intOf i).toNat)
  case atStart => exact ⟨0, Nat.zero_le _, rfl, HU.out, Ext.refl _⟩
  case round =>
    obtain ⟨wo, rfl⟩ : ∃ wo : World, wo = wr := ⟨_, rfl⟩
    obtain ⟨j, hj, rfl, hs, hx⟩ := hrel
    by_cases hjm : j < len2
    · have hjl : j < m.length := by rw [← HL.out]; exact hjm
      obtain ⟨b, o, rfl, hb, hr⟩ := HM.out.resolve_left (fun e => by rw [e] at hjl; simp at hjl)
      have hre := Lib.hid (World.rangeAt.later hx.out.later (rangeAt_get Hdr.len_cs hr j hjl))
      have HTk := Lib.hid (show addAll l (m.take (j + 1)) = addH (addAll l (m.take j)) (m[j]) from by rw [List.take_succ_eq_append_getElem hjl, addAll_snoc])
      have hbd := (length_addAll (m.take j) l).2
      have hbd2 : (addAll l (m.take j)).length ≤ 1000 := by simp at hbd; omega
      have HA := Lib.hid (refAdd_any (addAll l (m.take j)) _ (m[j]) lo wo hs.out hbd2 (by have := hx.out.size; omega))
      generalize m[j] = y at *
      clear hr hbd
      go_wp2_with (first | (refine wpList_load_H rfl _ rfl b (o + j * 11) rfl y hre.out ?_))
      refine HA.out.mono ?_
      rintro e w1 ⟨⟨s1, rfl, hs1⟩, hx1⟩
      have HS1 := Lib.hid hs1
      clear hs1
      go_wp2_with fail
      go_roundw
      case rel => exact ⟨j + 1, by omega, by go_num, by rw [HTk.out]; exact HS1.out, hx.out.trans hx1⟩
      case measure => simp [intOf]; omega
    · have HT := Lib.hid (show addAll l (m.take j) = addAll l m from by rw [List.take_of_length_le (by have := HL.out; omega)])
      have hs2 := hs.out
      rw [HT.out] at hs2
      have HS2 := Lib.hid hs2
      have hbd := (length_addAll m l).2
      have hbd2 : (addAll l m).length ≤ 400 := by omega
      obtain ⟨q, n, c, hq, hn, _⟩ := HS2.out
      subst hq
      have HN := Lib.hid hn
      rw [← hn] at hbd2
      clear hs2 hbd hn hs
      have hd := Lib.hid (show decide ((addAll l m).length ≤ 64) = decide ((n : Int) ≤ 64) from by rw [← HN.out]; exact decide_eq_decide.2 (by omega))
      go_wp2_with fail
      go_ret2
      exact ⟨⟨.slice q n c, by rw [hd.out]; rfl, HS2.out⟩, hx.out⟩
end Go.Proofs.Ytddeelepaiklgaa
