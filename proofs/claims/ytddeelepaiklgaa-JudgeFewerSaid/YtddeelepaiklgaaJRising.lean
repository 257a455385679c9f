/- judge.rising: in order, each once. -/
import Derived.Test.YtddeelepaiklgaaJCompact2
namespace Go.Proofs.Ytddeelepaiklgaa
open Go.RowKit Go.Maps Go.Sort Go.Lib

theorem sortR_any (l : List Hdr) (v : Value) (base : Nat) (w : World) (h : w.ownsRow base 24 11 v l.length (flatH l)) (hl : l.length < 4611686018427387904) :
    Calls Try.prog 45 #[v, ordFun] w fun e w' => e = .returned (.tuple #[]) ∧ w'.ownsRow base 24 11 v l.length (flatH (sortH l)) ∧ w.grownBy w' v.ownBlock := by
  have eg : ∀ args w, (callFunc 29 args).run Try.prog w = .ok (.enter 29 args) w := enters_of Try.func29 (by kernel_rfl) rfl
  rcases h.2 with ⟨rfl, h0⟩ | ⟨g, cap, cur, rfl, hb, hg, hn, hm, hs, ht⟩
  · have hnil : l = [] := List.length_eq_zero_iff.1 h0
    subst hnil
    refine (AnyF.slices_SortFunc_none { Try.sortH with } none 0 ordFun w).mono ?_
    rintro e w' ⟨he, rfl⟩
    exact ⟨he, by rw [show flatH (sortH []) = [] from by simp [sortH, flatH]]; exact World.ownsRow_nil _ _ _ _, ⟨rfl, rfl, rfl, Nat.le_refl _, fun _ _ _ => rfl⟩⟩
  · have hlt : g < w.heap.size := (Array.getElem?_eq_some_iff.1 hg).1
    have hr := ownsRow_range h
    have hH : HoldsK (fun h : Hdr => h.cs.toList) 11 w g 0 l.toArray := by
      intro j hj
      have hj' : j < l.length * 11 := by simpa using hj
      refine ⟨?_, by simp [World.frozen?, hg]⟩
      refine hr j _ ?_
      have e1 : (flatK (fun h : Hdr => h.cs.toList) 11 l.toArray).toList[j]? = (flatH l)[j]? := by rw [flatK_toList Hdr.len_cs]; rfl
      rw [← e1, Array.getElem?_toList, getElem!_pos _ j hj]
      exact Array.getElem?_eq_getElem hj
    have hcon := AnyQ.slices_SortFunc_total Try.sortH 11 (fun w => by kernel_rfl) (fun w => by kernel_rfl) (fun h : Hdr => h.cs.toList) Hdr.len_cs Hdr.one cmpH swoH 29 #[] g 0 cap l.toArray w eg
      (cmpLaysR g 0 _ w) hH hlt (by simpa using hl) (fun x y h h' => ltH_conn h h')
    refine (show Calls Try.prog 45 #[.slice (some ⟨g, 0, none⟩) l.length cap, ordFun] w _ from hcon).mono ?_
    rintro e w' ⟨he, n, os, rfl⟩
    have hlen : (sortH l).length = l.length := List.length_mergeSort _
    have e2 : (l.toArray.toList.mergeSort fun x y => !(ltOf cmpH) y x).toArray = (sortH l).toArray := rfl
    rw [e2]
    refine ⟨he, ?_, grown_put w g n _ os⟩
    have := ownsRow_put (q := n) (F := flatK (fun h : Hdr => h.cs.toList) 11 (sortH l).toArray) h (by simp [hlen]) os
    rw [flatK_toList Hdr.len_cs] at this
    exact this

theorem there_of_owns {w : World} {base g n cap : Nat} {xs : List Value} (h : w.ownsRow base 24 11 (.slice (some ⟨g, 0, none⟩) n cap) n xs) : w.there g 0 (n * 11) ∧ n ≤ cap ∧ cap ≤ 9223372036854775807 ∧ g < w.heap.size ∧ base ≤ g := by
  rcases h.2 with ⟨e0, _⟩ | ⟨g', cap', cur, e0, hb, hg, hn, hm, hs, ht⟩
  · cases e0
  · injection e0 with e1 _ e3
    injection e1 with e1
    injection e1 with e1
    subst e1; subst e3
    refine ⟨fun j hj => ⟨?_, by simp [World.frozen?, hg]⟩, hn, hm, (Array.getElem?_eq_some_iff.1 hg).1, hb⟩
    have hjs : j < cur.size := by rw [hs]; have : n * 11 ≤ cap * 11 := Nat.mul_le_mul_right _ hn; omega
    simp [World.cell?, hg, hjs]

set_option maxHeartbeats 2000000 in
set_option maxRecDepth 100000 in
theorem rising_any (l : List Hdr) (v : Value) (base : Nat) (w : World) (h : w.ownsRow base 24 11 v l.length (flatH l)) (hl : l.length < 4611686018427387904) :
    Calls Try.prog 28 #[v, ordFun] w fun e w' => (∃ u, e = .returned u ∧ HSl w' base (dd (sortH l)) u) ∧ Keep (fun i => v.ownBlock = some i) w w' := by
  obtain ⟨wA, hA⟩ : ∃ W : World, w.alloc (.cells #[ordFun] 67) = W := ⟨_, rfl⟩
  have xA : Ext w wA := hA ▸ Ext.alloc _ _
  have cA : wA.cell? ⟨w.heap.size, 0, none⟩ = some ordFun := by rw [← hA]; simp [go_sem]
  have hA2 : wA.ownsRow base 24 11 v l.length (flatH l) := by rw [← hA]; exact h.alloc _
  have HS := Lib.hid (sortR_any l v base wA hA2 hl)
  have hbl : ∀ i, v.ownBlock = some i → i < w.heap.size := fun i hi => (h.lt i hi).2
  have hmf : ∀ (fn : Fn) (first cap : Array Value) (w : World), (Instr.makeFunc fn first cap).run Try.prog w = .ok (.func fn first cap) w := fun _ _ _ _ => rfl
  have HBL := Lib.hid hbl
  have HX := Lib.hid xA
  have HEQ := Lib.hid hA
  have HLN := Lib.hid (length_sortH l)
  clear hA xA hA2 hbl h
  go_enter Try.func28, Try.ntmps28
  go_upto_region 1 with fail
  try simp only [Value.cells]
  rw [HEQ.out]
  clear HEQ
  go_wp2_with fail
  refine HS.out.mono ?_
  rintro e w1 ⟨rfl, hown, hg⟩
  have cB : w1.cell? ⟨w.heap.size, 0, none⟩ = some ordFun := by
    rw [World.cell?_of_block (hg.block w.heap.size (World.block_lt_of_cell? wA _ cA) (fun e => by have := HBL.out _ e.symm; omega))]
    exact cA
  have HK := Lib.hid (show Keep (fun i => v.ownBlock = some i) w w1 from (HX.out.keep _).trans ⟨hg.os, hg.tape, hg.output, hg.size, fun i hi hs => hg.block i hi (fun e => hs e.symm)⟩)
  have hown2 := hown
  rcases hown.2 with ⟨rfl, h0⟩ | ⟨g, cap, cur, rfl, hb, hgc, -⟩
  · have hnil : l = [] := List.length_eq_zero_iff.1 h0
    have HD := Lib.hid (show dd (sortH l) = [] from by rw [hnil, show sortH [] = [] from List.eq_nil_of_length_eq_zero (by rw [length_sortH]; rfl)]; rfl)
    have HC := Lib.hid (show ∀ W, Calls Try.prog 46 #[.slice none 0 0, eqFun w.heap.size] W fun e w' => e = .returned (.slice none 0 0) ∧ W = w' from fun W => by
      go_enter Try.func46, Try.ntmps46
      go_wp2_with fail
      go_ret
      exact ⟨rfl, rfl⟩)
    clear hown hown2 hg
    go_wp2_with fail
    refine (HC.out _).mono ?_
    rintro e w2 ⟨rfl, rfl⟩
    go_wp2_with fail
    go_ret
    exact ⟨⟨_, rfl, by rw [HD.out]; exact ⟨none, 0, 0, rfl, rfl, .inl rfl⟩⟩, HK.out⟩
  · obtain ⟨hth, hnc, hcm, hgl, hbg⟩ := there_of_owns hown2
    have hne : w.heap.size ≠ g := fun e => by have := HBL.out g rfl; omega
    have HC := Lib.hid (compact_any (sortH l) g l.length cap w.heap.size w1 HLN.out.symm hnc hcm (ownsRow_range hown2) hth cB hne)
    clear hown hown2 hg hgc hth
    go_wp2_with fail
    refine HC.out.mono ?_
    rintro e w2 ⟨rfl, hr2, hk2⟩
    have HR2 := Lib.hid hr2
    clear hr2
    go_wp2_with fail
    go_ret
    exact ⟨⟨_, rfl, _, _, _, rfl, rfl, .inr ⟨g, 0, rfl, hbg, HR2.out⟩⟩, HK.out.trans (hk2.mono (fun i _ hi => by show some g = some i; rw [hi]))⟩
end Go.Proofs.Ytddeelepaiklgaa
