/- Rows of elements of several cells; slices.SortFunc of headers by header.Compare. -/
import Derived.Test.YtjjbdbklbghlhaaGreatDoorMB
import Derived.Test.YtjjbdbklbghlhaaGreatDoorShelf
import Derived.Shelf.SlSortCmp.NoneTotal
import Derived.Test.YtjjbdbklbghlhaaGreatDoorMA
import Derived.Deep.Upon
namespace Go.Proofs.YtjjbdbklbghlhaaGreatDoor
open Go.RowKit Go.Sort Go.Lib
set_option linter.unusedSimpArgs false

section
variable {α : Type} {enc : α → List Value} {k : Nat}
theorem flatMap_length (hk : ∀ x, (enc x).length = k) : ∀ l : List α, (l.flatMap enc).length = l.length * k
 | [] => by simp
 | x :: r => by
  rw [List.flatMap_cons, List.length_append, hk, flatMap_length hk r, List.length_cons, Nat.add_mul]
  omega
theorem flatMap_get (hk : ∀ x, (enc x).length = k) : ∀ (l : List α) (i j : Nat) (hi : i < l.length), j < k → (l.flatMap enc)[i * k + j]? = (enc (l[i]))[j]?
 | x :: r, 0, j, _, hj => by
  rw [List.flatMap_cons, Nat.zero_mul, Nat.zero_add, List.getElem?_append_left (by rw [hk]; exact hj), List.getElem_cons_zero]
 | x :: r, i + 1, j, hi, hj => by
  rw [List.flatMap_cons, List.getElem?_append_right (by rw [hk, Nat.add_mul]; omega), hk, show (i + 1) * k + j - k = i * k + j from by rw [Nat.add_mul]; omega, flatMap_get hk r i j (by simpa using hi) hj, List.getElem_cons_succ]

theorem flatK_toList [Inhabited α] (hk : ∀ x, (enc x).length = k) (l : List α) : (flatK enc k l.toArray).toList = l.flatMap enc := by
  apply List.ext_getElem?
  intro t
  by_cases ht : t < l.length * k
  · have k0 : 0 < k := by rcases Nat.eq_zero_or_pos k with h | h; · subst h; simp at ht
                          · exact h
    have h1 : t / k < l.length := (Nat.div_lt_iff_lt_mul k0).2 ht
    have h2 : t % k < k := Nat.mod_lt _ k0
    have e : t = t / k * k + t % k := by have := Nat.div_add_mod t k; rw [Nat.mul_comm] at this; omega
    have hg := flatMap_get hk l (t / k) (t % k) h1 h2
    rw [← e] at hg
    rw [hg]
    have h3 : t % k < (enc (l[t / k])).length := by rw [hk]; exact h2
    simp [flatK, ht, h1, h3]
  · rw [List.getElem?_eq_none (by simp [flatK]; omega), List.getElem?_eq_none (by rw [flatMap_length hk]; omega)]

/-- an element's cells, out of the row that holds all -/
theorem rangeAt_get (hk : ∀ x, (enc x).length = k) {w : World} {b o : Nat} {l : List α} (h : w.rangeAt b o (l.flatMap enc)) (i : Nat) (hi : i < l.length) : w.rangeAt b (o + i * k) (enc (l[i])) := fun j v hv => by
 have hj : j < k := by rw [← hk (l[i])]; exact (List.getElem?_eq_some_iff.1 hv).1
 rw [Nat.add_assoc]
 exact h _ _ ((flatMap_get hk l i j hi hj).trans hv)
end

theorem ownsRow_range {w : World} {base : Nat} {e : TypeId} {size : Nat} {g n cap : Nat} {xs : List Value} (h : w.ownsRow base e size (.slice (some ⟨g, 0, none⟩) n cap) n xs) : w.rangeAt g 0 xs := fun j v hv => by
 have := h.cells (g := g) rfl j v hv
 rwa [Addr.add_mid] at this

/-- behind a sort in the sort's own words -/
theorem ownsRow_put {w : World} {base : Nat} {e : TypeId} {size g n cap q : Nat} {xs : List Value} {F : Array Value} (h : w.ownsRow base e size (.slice (some ⟨g, 0, none⟩) n cap) n xs) (hF : F.size = n * size) (os : Array Obj) :
  (grow (putRow id (Sort.ahead w q) g 0 F) os).ownsRow base e size (.slice (some ⟨g, 0, none⟩) n cap) n F.toList := by
 rcases h.2 with ⟨e0, _⟩ | ⟨g', cap', cur, e0, hb, hg, hn, hm, hs, ht⟩
 ·cases e0
 ·injection e0 with e1 _ e3
  injection e1 with e1
  injection e1 with e1
  subst e1; subst e3
  have hlt : g < w.heap.size := (Array.getElem?_eq_some_iff.1 hg).1
  have hle : n * size ≤ cap * size := Nat.mul_le_mul_right _ hn
  refine ⟨by simpa using hF, .inr ⟨g, cap, putCells id 0 F cur, rfl, hb, ?_, hn, hm, by simpa [putCells] using hs, ?_⟩⟩
  ·rw [heap_grow_old _ _ (by simp [Sort.ahead]; exact hlt)]
   simp [putRow, mapBlock, Sort.ahead, Array.getElem?_modify, hg, onCells]
  ·apply List.ext_getElem?
   intro j
   rw [List.getElem?_take, Array.getElem?_toList]
   by_cases hj : j < n * size
   ·have hjc : j < cur.size := by omega
    have hjF : j < F.size := by omega
    simp only [if_pos hj, putCells, Array.getElem?_mapIdx, Array.getElem?_eq_getElem hjc, Option.map_some]
    rw [if_pos (by omega)]
    simp [hjF]
   ·rw [if_neg hj, List.getElem?_eq_none (by simp; omega)]

theorem grown_put (w : World) (g q : Nat) (F : Array Value) (os : Array Obj) : w.grownBy (grow (putRow id (Sort.ahead w q) g 0 F) os) (some g) :=
 ⟨rfl, rfl, rfl, by simp [grow, Sort.ahead, putRow, mapBlock], fun i hi hne => by
  have hgi : g ≠ i := fun e => hne (by rw [e])
  rw [heap_grow_old _ _ (by simp [Sort.ahead]; exact hi)]
  simp [putRow, mapBlock, Sort.ahead, Array.getElem?_modify, hgi]⟩

/-! the order of headers -/
theorem cmpL_swap : ∀ (l m : List Int), cmpL m l = - cmpL l m
 | [], [] => by simp [cmpL]
 | [], _ :: _ => by simp [cmpL]
 | _ :: _, [] => by simp [cmpL]
 | x :: xs, y :: ys => by
  unfold cmpL
  by_cases h1 : x < y
  ·have : ¬ y < x := by omega
   simp [h1, this]
  ·by_cases h2 : y < x
   ·simp [h1, h2]
   ·simp [h1, h2, cmpL_swap xs ys]
theorem cmpL_zero : ∀ {l m : List Int}, l.length = m.length → cmpL l m = 0 → l = m
 | [], [], _, _ => rfl
 | x :: xs, y :: ys, h, h0 => by
  unfold cmpL at h0
  split at h0
  ·simp at h0
  ·split at h0
   ·simp at h0
   ·have : x = y := by omega
    rw [this, cmpL_zero (by simpa using h) h0]
theorem cmpL_trans : ∀ {l m n : List Int}, l.length = m.length → m.length = n.length → cmpL l m < 0 → cmpL m n < 0 → cmpL l n < 0
 | [], [], [], _, _, h, _ => by simp [cmpL] at h
 | x :: xs, y :: ys, z :: zs, h1, h2, h3, h4 => by
  have ih := cmpL_trans (l := xs) (m := ys) (n := zs) (by simpa using h1) (by simpa using h2)
  unfold cmpL at h3 h4 ⊢
  by_cases a : x < y
  ·by_cases b : y < z
   ·rw [if_pos (by omega)]; omega
   ·rw [if_neg b] at h4
    by_cases c : z < y
    ·rw [if_pos c] at h4; omega
    ·rw [if_pos (by omega)]; omega
  ·rw [if_neg a] at h3
   by_cases a' : y < x
   ·rw [if_pos a'] at h3; omega
   ·rw [if_neg a'] at h3
    by_cases b : y < z
    ·rw [if_pos (by omega)]; omega
    ·rw [if_neg b] at h4
     by_cases c : z < y
     ·rw [if_pos c] at h4; omega
     ·rw [if_neg c] at h4
      rw [if_neg (by omega), if_neg (by omega)]
      exact ih h3 h4

def ltH (a b : Hdr) : Bool := decide (cmpH a b < 0)
theorem ltH_irrefl (a : Hdr) : ltH a a = false := by simp [ltH, cmpH, cmpL_self]
theorem cmpH_swap (a b : Hdr) : cmpH b a = - cmpH a b := cmpL_swap _ _
theorem cmpH_zero {a b : Hdr} (h : cmpH a b = 0) : a = b := Hdr.l_inj (cmpL_zero (by rw [a.length_l, b.length_l]) h)
theorem ltH_trans {a b c : Hdr} (h : ltH a b = true) (h' : ltH b c = true) : ltH a c = true := by
 simp only [ltH, decide_eq_true_eq] at *
 exact cmpL_trans (by rw [a.length_l, b.length_l]) (by rw [b.length_l, c.length_l]) h h'
theorem ltH_conn {a b : Hdr} (h : ltH a b = false) (h' : ltH b a = false) : a = b := by
 simp only [ltH, decide_eq_false_iff_not] at *
 rw [cmpH_swap] at h'
 exact cmpH_zero (by omega)
theorem ltH_asymm {a b : Hdr} (h : ltH a b = true) : ltH b a = false := by
 simp only [ltH, decide_eq_true_eq, decide_eq_false_iff_not] at *
 rw [cmpH_swap]
 omega
theorem swoH : SWO (ltOf cmpH) where
 irrefl x := ltH_irrefl x
 trans x y z h h' := ltH_trans h h'
 ntrans x y z h h' := by
  show ltH x z = false
  have h1 : ltH x y = false := h
  have h2 : ltH y z = false := h'
  cases hxz : ltH x z with
  | false => rfl
  | true =>
   cases hyx : ltH y x with
   | true => exact absurd (ltH_trans hyx hxz) (by simp [h2])
   | false =>
    have := ltH_conn h1 hyx
    subst this
    rw [hxz] at h2; cases h2

instance : Inhabited Hdr := ⟨Vector.replicate 11 0⟩
def sortH (l : List Hdr) : List Hdr := l.mergeSort fun x y => !ltH y x
def flatH (l : List Hdr) : List Value := l.flatMap fun h => h.cs.toList
theorem Hdr.len_cs (h : Hdr) : h.cs.toList.length = 11 := by simpa using h.size_cs

theorem cmpLaysH (blk off size : Nat) (w : World) : CmpLays Tryz.prog 32 #[] (fun h : Hdr => h.cs.toList) 11 cmpH blk off size w := fun m os dk _ x y => by
 have h := compare_any x y (sortWorldK (fun h : Hdr => h.cs.toList) 11 w blk off m dk os)
 show Calls Tryz.prog 32 #[.agg x.cs.toList.toArray, .agg y.cs.toList.toArray] _ _
 rw [Array.toArray_toList, Array.toArray_toList]
 refine h.mono ?_
 rintro e w' ⟨he, n, rfl⟩
 exact ⟨he, n, _, by rw [alloc_eq_grow, alloc_eq_grow, grow_grow]; rfl⟩

/-- slices.SortFunc of headers, of a slice that the call owns -/
theorem sort_any (l : List Hdr) (v : Value) (base : Nat) (w : World) (h : w.ownsRow base 49 11 v l.length (flatH l)) (hl : l.length < 4611686018427387904) :
  Calls Tryz.prog 31 #[v, .func (.func 32) #[] #[]] w fun e w' => e = .returned (.tuple #[]) ∧ w'.ownsRow base 49 11 v l.length (flatH (sortH l)) ∧ w.grownBy w' v.ownBlock := by
 have eg : ∀ args w, (callFunc 32 args).run Tryz.prog w = .ok (.enter 32 args) w := enters_of Tryz.func32 (by kernel_rfl) rfl
 rcases h.2 with ⟨rfl, h0⟩ | ⟨g, cap, cur, rfl, hb, hg, hn, hm, hs, ht⟩
 ·have hnil : l = [] := List.length_eq_zero_iff.1 h0
  subst hnil
  refine (AnyF.slices_SortFunc_none { Tryz.sortH with } none 0 (.func (.func 32) #[] #[]) w).mono ?_
  rintro e w' ⟨he, rfl⟩
  exact ⟨he, by rw [show flatH (sortH []) = [] from by simp [sortH, flatH]]; exact World.ownsRow_nil _ _ _ _, ⟨rfl, rfl, rfl, Nat.le_refl _, fun _ _ _ => rfl⟩⟩
 ·have hlt : g < w.heap.size := (Array.getElem?_eq_some_iff.1 hg).1
  have hr := ownsRow_range h
  have hH : HoldsK (fun h : Hdr => h.cs.toList) 11 w g 0 l.toArray := by
   intro j hj
   have hj' : j < l.length * 11 := by simpa using hj
   refine ⟨?_, by simp [World.frozen?, hg]⟩
   refine hr j _ ?_
   have e1 : (flatK (fun h : Hdr => h.cs.toList) 11 l.toArray).toList[j]? = (flatH l)[j]? := by rw [flatK_toList Hdr.len_cs]; rfl
   rw [← e1, Array.getElem?_toList, getElem!_pos _ j hj]
   exact Array.getElem?_eq_getElem hj
  have hcon := AnyQ.slices_SortFunc_total Tryz.sortH 11 (fun w => by kernel_rfl) (fun w => by kernel_rfl) (fun h : Hdr => h.cs.toList) Hdr.len_cs Hdr.one cmpH swoH 32 #[] g 0 cap l.toArray w eg
   (cmpLaysH g 0 _ w) hH hlt (by simpa using hl) (fun x y h h' => ltH_conn h h')
  refine (show Calls Tryz.prog 31 #[.slice (some ⟨g, 0, none⟩) l.length cap, .func (.func 32) #[] #[]] w _ from hcon).mono ?_
  rintro e w' ⟨he, n, os, rfl⟩
  have hlen : (sortH l).length = l.length := List.length_mergeSort _
  have e2 : (l.toArray.toList.mergeSort fun x y => !(ltOf cmpH) y x).toArray = (sortH l).toArray := rfl
  rw [e2]
  refine ⟨he, ?_, grown_put w g n _ os⟩
  have := ownsRow_put (q := n) (F := flatK (fun h : Hdr => h.cs.toList) 11 (sortH l).toArray) h (by simp [hlen]) os
  rw [flatK_toList Hdr.len_cs] at this
  exact this
end Go.Proofs.YtjjbdbklbghlhaaGreatDoor
/- Settings in order of their fields: Clone, SortFunc, sorted. -/
namespace Go.Proofs.YtjjbdbklbghlhaaGreatDoor
open Go.RowKit Go.Sort Go.Maps Go.Lib
set_option linter.unusedSimpArgs false

def cmpF (a b : AcD) : Int := cmp1 a.f b.f
theorem cmp1_neg {a b : Int} : cmp1 a b < 0 ↔ a < b := by
 unfold cmp1
 repeat' split
 all_goals omega
theorem ltF (a b : AcD) : ltOf cmpF a b = decide (a.f < b.f) := by
 unfold ltOf cmpF
 exact decide_eq_decide.2 cmp1_neg
theorem swoF : SWO (ltOf cmpF) where
 irrefl x := by rw [ltF]; simp
 trans x y z h h' := by
  rw [ltF, decide_eq_true_eq] at *
  omega
 ntrans x y z h h' := by
  rw [ltF, decide_eq_false_iff_not] at *
  omega
theorem Ext.grownV {w a c : World} {v : Value} (h : Ext w a) (g : a.grownBy c v.ownBlock) (hb : ∀ i, v.ownBlock = some i → w.heap.size ≤ i) : Ext w c :=
 h.trans' ⟨g.os, g.tape, g.output, g.size, fun i hi => g.block i (Nat.lt_of_lt_of_le hi h.size) (fun e => by have := hb i e.symm; omega)⟩

set_option maxHeartbeats 2000000 in
theorem cloneA_any {B : Nat → Prop} (r : RowD) (v : Value) (w : World) (h : RowOn B w r v) (hl : r.length ≤ 8796093021952) :
  Calls Tryz.prog 30 #[v] w fun e w' => ∃ u, e = .returned u ∧ (w'.ownsRow w.heap.size 81 3 u r.length (flatA r) ∧ Ext w w') := by
 obtain ⟨p, len, cap, rfl, hlen, hlc, hcm, -, hr⟩ := h
 have hq1 := Lib.run_eql_slice_nil (P := Tryz.prog)
 have HL := Hd hlen
 have hl2 : len ≤ 8796093021952 := by omega
 cases p with
 | none =>
  have h0 := hr.resolve_right (by rintro ⟨b, o, h, -⟩; cases h)
  subst h0
  go_enter Tryz.func30, Tryz.ntmps30
  go_wp2_with fail
  go_ret
  exact ⟨_, rfl, World.ownsRow_nil _ _ _ _, Ext.refl _⟩
 | some a =>
  have HN := Hd (fun (W : World) (hW : Ext w W) => show len = 0 ∨ ∃ a', some a = some a' ∧ ∀ j u, (flatA r)[j]? = some u → W.cell? (a'.add j) = some u from by
   rcases hr with rfl | ⟨b, o, he, -, -, hr⟩
   ·exact .inl (by simpa using hlen)
   ·cases he
    exact .inr ⟨_, rfl, fun j u hu => by rw [Addr.add_mid]; exact World.rangeAt.later hW.later hr j u hu⟩)
  have HO := Hd (owns_empty (e := 81) (k := 3) w)
  have HF := Hd (show (flatA r).length = len * 3 from by rw [flatA_len, hlen])
  have H1 := Hd (show ∀ u ∈ flatA r, u.oneCell' = true from fun u hu => by
   obtain ⟨x, -, hx⟩ := List.mem_flatMap.1 hu
   exact x.one u hx)
  have hsz : w.heap.size ≤ (w.alloc (.cells #[] 81)).heap.size := by simp
  clear hr hlen
  go_enter Tryz.func30, Tryz.ntmps30
  go_wp2_with (at_builtin; refine wpList_append_E elemA rfl _ _ rfl w.heap.size _ 0 [] rfl HO.out (some a) len cap (flatA r) rfl HF.out (HN.out _ (Ext.alloc _ _)) H1.out (by omega) (by omega) hsz ?_; intro v' w' o1 g1 t1)
  go_ret
  refine ⟨_, rfl, ?_, (Ext.alloc w (.cells #[] 81)).grownV g1 (fun i hi => by cases hi; exact Nat.le_refl _)⟩
  rw [← HL.out]
  simpa using o1

/-- in order of the fields: some such row -/
def FSorted (r s : RowD) : Prop := s.Perm r ∧ s.Pairwise fun a b => a.f ≤ b.f

theorem sortA_any (r : RowD) (v : Value) (base : Nat) (w : World) (h : w.ownsRow base 81 3 v r.length (flatA r)) (hl : r.length ≤ 8796093021952) :
  Calls Tryz.prog 137 #[v, .func (.func 126) #[] #[]] w fun e w' => e = .returned (.tuple #[]) ∧ ∃ s, FSorted r s ∧ w'.ownsRow base 81 3 v r.length (flatA s) ∧ w.grownBy w' v.ownBlock := by
 have eg : ∀ args w, (callFunc 126 args).run Tryz.prog w = .ok (.enter 126 args) w := enters_of Tryz.func126 (by kernel_rfl) rfl
 by_cases hnil : r = []
 ·subst hnil
  obtain ⟨p, c, rfl, -⟩ := owns_form h
  refine (AnyF.slices_SortFunc_none { Tryz.sortA with } p c (.func (.func 126) #[] #[]) w).mono ?_
  rintro e w' ⟨he, rfl⟩
  exact ⟨he, [], ⟨List.Perm.refl _, List.Pairwise.nil⟩, h, ⟨rfl, rfl, rfl, Nat.le_refl _, fun _ _ _ => rfl⟩⟩
 rcases h.2 with ⟨rfl, h0⟩ | ⟨g, cap, cur, rfl, hb, hg, hn, hm, hs, ht⟩
 ·exact absurd (List.length_eq_zero_iff.1 h0) hnil
 have hlt : g < w.heap.size := (Array.getElem?_eq_some_iff.1 hg).1
 have hr := ownsRow_range h
 have hH : HoldsK AcD.cs 3 w g 0 r.toArray := by
  intro j hj
  refine ⟨?_, by simp [World.frozen?, hg]⟩
  refine hr j _ ?_
  have e1 : (flatK AcD.cs 3 r.toArray).toList[j]? = (flatA r)[j]? := by rw [flatK_toList AcD.len_cs]; rfl
  rw [← e1, Array.getElem?_toList, getElem!_pos _ j hj]
  exact Array.getElem?_eq_getElem hj
 have hcl : CmpLays Tryz.prog 126 #[] AcD.cs 3 cmpF g 0 r.toArray.size w := fun m os dk _ x y =>
  (rows1_any x y (sortWorldK AcD.cs 3 w g 0 m dk os)).mono fun e w' ⟨he, q, os', hw⟩ => ⟨he, q, os', hw⟩
 have hcon := AnyQ.slices_SortFunc Tryz.sortA 3 (fun w => by kernel_rfl) (fun w => by kernel_rfl) AcD.cs AcD.len_cs AcD.one cmpF swoF 126 #[] g 0 cap r.toArray w eg
  hcl hH hlt (by simp; omega)
 refine (show Calls Tryz.prog 137 #[.slice (some ⟨g, 0, none⟩) r.length cap, .func (.func 126) #[] #[]] w _ from hcon).mono ?_
 rintro e w' ⟨he, d', n, os, hp, hso, rfl⟩
 have hsz : d'.size = r.length := by simpa using hp.1
 have hpm : d'.toList.Perm r := by
  have := hp.2.2
  have e1 : (d'.extract 0 r.toArray.size) = d' := by rw [show r.toArray.size = d'.size by simpa using hsz.symm]; simp
  rw [e1] at this
  simpa using this
 refine ⟨he, d'.toList, ⟨hpm, ?_⟩, ?_, grown_put w g n _ os⟩
 ·rw [List.pairwise_iff_getElem]
  intro i j hi hj hij
  have hi' : i < d'.size := by simpa using hi
  have hj' : j < d'.size := by simpa using hj
  have := hso i j (Nat.zero_le _) hij (by simp; omega)
  rw [getElem!_pos d' i hi', getElem!_pos d' j hj'] at this
  rw [ltF, decide_eq_false_iff_not] at this
  have h3 : (d'[i]).f ≤ (d'[j]).f := by omega
  simpa using h3
 ·have := ownsRow_put (q := n) (F := flatK AcD.cs 3 d') h (by simp [hsz]) os
  have e2 : (flatK AcD.cs 3 d').toList = flatA d'.toList := by
   have := flatK_toList AcD.len_cs d'.toList
   rw [Array.toArray_toList] at this
   exact this
  rw [e2] at this
  exact this

theorem sortedA_any {B : Nat → Prop} (r : RowD) (v : Value) (w : World) (h : RowOn B w r v) (hl : r.length ≤ 8796093021952) :
  Calls Tryz.prog 125 #[v, .func (.func 126) #[] #[]] w fun e w' => ∃ u, e = .returned u ∧ ∃ s, FSorted r s ∧ w'.ownsRow w.heap.size 81 3 u s.length (flatA s) ∧ Ext w w' := by
 have HC := Hd (cloneA_any r v w h hl)
 obtain ⟨p, cap, rfl, -⟩ := h.form
 go_enter Tryz.func125, Tryz.ntmps125
 go_wp2_with fail
 refine HC.out.mono ?_
 rintro e w1 ⟨u, rfl, hown, hx⟩
 have HS := Hd (sortA_any r u _ w1 hown hl)
 have HB := Hd (fun i (hi : u.ownBlock = some i) => (owns_lt hown i hi).1)
 have HX := Hd hx
 clear hown hx
 go_wp2_with fail
 refine HS.out.mono ?_
 rintro e w2 ⟨rfl, s, hs, hown2, hg⟩
 have HP := Hd (show ∃ s, FSorted r s ∧ w2.ownsRow w.heap.size 81 3 u s.length (flatA s) ∧ Ext w w2 from ⟨s, hs, by rw [hs.1.length_eq]; exact hown2, HX.out.grownV hg HB.out⟩)
 clear hs hown2 hg
 go_wp2_with fail
 go_ret
 exact ⟨_, rfl, HP.out⟩
end Go.Proofs.YtjjbdbklbghlhaaGreatDoor
/- Rows of settings in plain words: their order, their normal form. -/
namespace Go.Proofs.YtjjbdbklbghlhaaGreatDoor
open Go.RowKit Go.Sort Go.Lib
set_option linter.unusedSimpArgs false

section
variable {α : Type} (q : α → α → Bool)
/-- of neighbours that q takes for one the first -/
def ddGo : α → List α → List α
 | _, [] => []
 | x, y :: l => if q y x then ddGo y l else y :: ddGo y l
def ddG : List α → List α
 | [] => []
 | x :: l => x :: ddGo q x l
theorem ddGo_snoc (y : α) : ∀ (l : List α) (x : α), ddGo q x (l ++ [y]) = if q y ((x :: l).getLast (by simp)) then ddGo q x l else ddGo q x l ++ [y]
 | [], x => by by_cases h : q y x = true <;> simp [ddGo, h]
 | z :: l, x => by
  rw [List.cons_append, ddGo, ddGo, ddGo_snoc y l z]
  have e : (x :: z :: l).getLast (by simp) = (z :: l).getLast (by simp) := by simp
  rw [e]
  by_cases h1 : q z x = true <;> by_cases h2 : q y ((z :: l).getLast (by simp)) = true <;> simp [h1, h2]
theorem ddG_take {l : List α} {i : Nat} (h0 : 0 < i) (hi : i < l.length) : ddG q (l.take (i + 1)) = if q (l[i]) (l[i - 1]) then ddG q (l.take i) else ddG q (l.take i) ++ [l[i]] := by
 obtain ⟨k, rfl⟩ : ∃ k, i = k + 1 := ⟨i - 1, by omega⟩
 cases l with
 | nil => simp at hi
 | cons x l =>
  have hk : k < l.length := by simpa using hi
  rw [List.take_succ_cons, List.take_succ_cons, List.take_succ_eq_append_getElem hk, ddG, ddG, ddGo_snoc]
  have e : (x :: l.take k).getLast (by simp) = (x :: l)[k + 1 - 1] := by
   rw [List.getLast_eq_getElem]
   simp only [Nat.add_sub_cancel, List.length_cons, List.length_take, show min k l.length = k from by omega]
   cases k with
   | zero => rfl
   | succ k => simp
  simp only [e, List.getElem_cons_succ]
  split <;> simp
theorem ddG_rises {l : List α} : ∀ (k : Nat), k ≤ l.length → (∀ m (h : m < l.length), 0 < m → m < k → q (l[m]) (l[m - 1]) = false) → ddG q (l.take k) = l.take k
 | 0, _, _ => by simp [ddG]
 | k + 1, hk, h => by
  have ih := ddG_rises k (by omega) (fun m hm h0 hmk => h m hm h0 (by omega))
  rcases Nat.eq_zero_or_pos k with rfl | hkp
  ·rw [List.take_succ_eq_append_getElem hk]; simp [ddG, ddGo]
  ·rw [ddG_take q hkp hk, if_neg (by rw [h k hk hkp (by omega)]; simp), ih, List.take_succ_eq_append_getElem hk]
theorem ddGo_map {β : Type} (f : β → α) : ∀ (l : List β) (x : β), (ddGo (fun a b => q (f a) (f b)) x l).map f = ddGo q (f x) (l.map f)
 | [], x => rfl
 | y :: l, x => by
  rw [List.map_cons, ddGo, ddGo]
  by_cases h : q (f y) (f x) = true
  ·simp only [h, if_true]; exact ddGo_map f l y
  ·simp only [h, Bool.false_eq_true, if_false, List.map_cons]; rw [ddGo_map f l y]
theorem ddG_map {β : Type} (f : β → α) : ∀ (l : List β), (ddG (fun a b => q (f a) (f b)) l).map f = ddG q (l.map f)
 | [] => rfl
 | x :: l => by rw [ddG, List.map_cons, List.map_cons, ddG, ddGo_map]
theorem ddGo_mem : ∀ (l : List α) (x z : α), z ∈ ddGo q x l → z ∈ l
 | [], _, _, h => by simp [ddGo] at h
 | y :: l, x, z, h => by
  rw [ddGo] at h
  split at h
  ·exact List.mem_cons_of_mem _ (ddGo_mem l y z h)
  ·rcases List.mem_cons.1 h with rfl | h
   ·exact List.mem_cons_self
   ·exact List.mem_cons_of_mem _ (ddGo_mem l y z h)
theorem ddG_mem : ∀ (l : List α) (z : α), z ∈ ddG q l → z ∈ l
 | [], _, h => by simp [ddG] at h
 | x :: l, z, h => by
  rcases List.mem_cons.1 h with rfl | h
  ·exact List.mem_cons_self
  ·exact List.mem_cons_of_mem _ (ddGo_mem q l x z h)
end

def rkey (r : RowD) : List Int := r.flatMap fun a => [a.f, a.n]
theorem rkey_cons (a : AcD) (r : RowD) : rkey (a :: r) = a.f :: a.n :: rkey r := by simp [rkey]
theorem cmpA_neg {a b : AcD} : cmpA a b < 0 ↔ a.f < b.f ∨ (a.f = b.f ∧ a.n < b.n) := by
 unfold cmpA orI cmp1
 repeat' split
 all_goals omega
theorem cmpA_zero {a b : AcD} : cmpA a b = 0 ↔ a.f = b.f ∧ a.n = b.n := by
 unfold cmpA orI cmp1
 repeat' split
 all_goals omega
theorem cmpR_neg : ∀ {r s : RowD}, cmpR r s < 0 ↔ rkey r < rkey s
 | [], [] => by simp [cmpR, rkey]
 | [], b :: m => by simp [cmpR, rkey]
 | a :: l, [] => by simp [cmpR, rkey]
 | a :: l, b :: m => by
  rw [cmpR, rkey_cons, rkey_cons, List.cons_lt_cons_iff, List.cons_lt_cons_iff]
  by_cases h : cmpA a b = 0
  ·rw [if_pos h, cmpR_neg]
   obtain ⟨h1, h2⟩ := cmpA_zero.1 h
   rw [h1, h2]
   simp
  ·rw [if_neg h, cmpA_neg]
   have h2 : ¬ (a.f = b.f ∧ a.n = b.n) := fun h2 => h (cmpA_zero.2 h2)
   constructor
   ·rintro (h3 | ⟨h3, h4⟩)
    ·exact .inl h3
    ·exact .inr ⟨h3, .inl h4⟩
   ·rintro (h3 | ⟨h3, h4 | ⟨h4, -⟩⟩)
    ·exact .inl h3
    ·exact .inr ⟨h3, h4⟩
    ·exact absurd ⟨h3, h4⟩ h2
theorem cmpR_zero : ∀ {r s : RowD}, cmpR r s = 0 ↔ rkey r = rkey s
 | [], [] => by simp [cmpR, rkey]
 | [], b :: m => by simp [cmpR, rkey]
 | a :: l, [] => by simp [cmpR, rkey]
 | a :: l, b :: m => by
  rw [cmpR, rkey_cons, rkey_cons, List.cons.injEq, List.cons.injEq]
  by_cases h : cmpA a b = 0
  ·rw [if_pos h, cmpR_zero]
   obtain ⟨h1, h2⟩ := cmpA_zero.1 h
   simp [h1, h2]
  ·rw [if_neg h]
   exact ⟨fun h2 => absurd h2 h, fun ⟨h1, h2, _⟩ => absurd (cmpA_zero.2 ⟨h1, h2⟩) h⟩
theorem swoRk : SWO (ltOf cmpR) where
 irrefl x := by
  unfold ltOf
  rw [decide_eq_false_iff_not, cmpR_neg]
  exact List.lt_irrefl _
 trans x y z h h' := by
  unfold ltOf at *
  rw [decide_eq_true_eq, cmpR_neg] at *
  exact List.lt_trans h h'
 ntrans x y z h h' := by
  unfold ltOf at *
  rw [decide_eq_false_iff_not, cmpR_neg, List.not_lt] at *
  exact List.le_trans h' h
/-- settings that may stand -/
def okA (a : AcD) : Bool := a.d == 0 && fitsB a.f a.n
def okR (r : RowD) : Bool := r.all okA
theorem rkey_inj : ∀ {r s : RowD}, okR r = true → okR s = true → rkey r = rkey s → r = s
 | [], [], _, _, _ => rfl
 | [], b :: m, _, _, h => by simp [rkey] at h
 | a :: l, [], _, _, h => by simp [rkey] at h
 | a :: l, b :: m, h1, h2, h => by
  simp only [okR, List.all_cons, Bool.and_eq_true] at h1 h2
  rw [rkey_cons, rkey_cons, List.cons.injEq, List.cons.injEq] at h
  have d1 : a.d = 0 := by have := h1.1; simp [okA] at this; exact this.1
  have d2 : b.d = 0 := by have := h2.1; simp [okA] at this; exact this.1
  have e : a = b := by
   cases a; cases b
   simp only [AcD.mk.injEq] at *
   exact ⟨d1.trans d2.symm, h.1, h.2.1⟩
  rw [e, rkey_inj h1.2 h2.2 h.2.2]
def sortF (r : RowD) : RowD := r.mergeSort fun a b => decide (a.f ≤ b.f)
def rowP (r : RowD) : Option RowD := if okR r = true ∧ (r.map AcD.f).Nodup then some (sortF r) else none
def leR (r s : RowD) : Bool := !decide (rkey s < rkey r)
def sortR (l : List RowD) : List RowD := l.mergeSort leR
def ddR : List RowD → List RowD := ddG fun r s => cmpR r s == 0
def rowsP (l : List RowD) : Option (List RowD) := (l.mapM rowP).map fun m => ddR (sortR m)
theorem sortF_perm (r : RowD) : (sortF r).Perm r := List.mergeSort_perm _ _
theorem sortF_sorted (r : RowD) : (sortF r).Pairwise fun a b => a.f ≤ b.f := by
 have := List.pairwise_mergeSort (le := fun (a b : AcD) => decide (a.f ≤ b.f)) (fun a b c h1 h2 => by simp at *; omega) (fun a b => by simp; omega) r
 exact this.imp fun h => by simpa using h
/-- sorted by different fields: there is but one way -/
theorem fsorted_eq {r s t : RowD} (hn : (r.map AcD.f).Nodup) (hs : s.Perm r) (hs' : s.Pairwise fun a b => a.f ≤ b.f) (ht : t.Perm r) (ht' : t.Pairwise fun a b => a.f ≤ b.f) : s = t := by
 refine List.Perm.eq_of_pairwise (le := fun a b : AcD => a.f ≤ b.f) (fun a b ha hb h1 h2 => ?_) hs' ht' (hs.trans ht.symm)
 have ha' : a ∈ r := hs.mem_iff.1 ha
 have hb' : b ∈ r := ht.mem_iff.1 hb
 have he : a.f = b.f := by omega
 obtain ⟨i, hi, rfl⟩ := List.getElem_of_mem ha'
 obtain ⟨j, hj, rfl⟩ := List.getElem_of_mem hb'
 have := (List.nodup_iff_pairwise_ne.1 hn)
 rw [List.pairwise_iff_getElem] at this
 rcases Nat.lt_trichotomy i j with h | h | h
 ·exact absurd (by rw [List.getElem_map, List.getElem_map]; exact he) (this i j (by simpa using hi) (by simpa using hj) h)
 ·subst h; rfl
 ·exact absurd (by rw [List.getElem_map, List.getElem_map]; exact he.symm) (this j i (by simpa using hj) (by simpa using hi) h)
theorem leR_trans (a b c : RowD) (h1 : leR a b = true) (h2 : leR b c = true) : leR a c = true := by
 simp only [leR, Bool.not_eq_true', decide_eq_false_iff_not, List.not_lt] at *
 exact List.le_trans h1 h2
theorem leR_total (a b : RowD) : (leR a b || leR b a) = true := by
 simp only [leR, Bool.or_eq_true, Bool.not_eq_true', decide_eq_false_iff_not, List.not_lt]
 exact List.le_total _ _
theorem sortR_perm (l : List RowD) : (sortR l).Perm l := List.mergeSort_perm _ _
theorem sortR_sorted (l : List RowD) : (sortR l).Pairwise fun a b => leR a b = true := List.pairwise_mergeSort leR_trans leR_total l
theorem rsorted_eq {l s t : List RowD} (hn : ∀ r ∈ l, okR r = true) (hs : s.Perm l) (hs' : s.Pairwise fun a b => leR a b = true) (ht : t.Perm l) (ht' : t.Pairwise fun a b => leR a b = true) : s = t := by
 refine List.Perm.eq_of_pairwise (le := fun a b : RowD => leR a b = true) (fun a b ha hb h1 h2 => ?_) hs' ht' (hs.trans ht.symm)
 refine rkey_inj (hn a (hs.mem_iff.1 ha)) (hn b (ht.mem_iff.1 hb)) ?_
 simp only [leR, Bool.not_eq_true', decide_eq_false_iff_not, List.not_lt] at h1 h2
 exact List.le_antisymm h1 h2
theorem okR_sortF {r : RowD} (h : okR r = true) : okR (sortF r) = true := by
 unfold okR at *
 rw [List.all_eq_true] at *
 exact fun x hx => h x ((sortF_perm r).mem_iff.1 hx)
theorem rowP_ok {r s : RowD} (h : rowP r = some s) : okR s = true := by
 unfold rowP at h
 split at h
 ·rename_i h1
  cases h
  exact okR_sortF h1.1
 ·cases h
theorem mapM_none {α β : Type} {f : α → Option β} : ∀ {l : List α} {x : α}, x ∈ l → f x = none → l.mapM f = none
 | y :: l, x, h, hx => by
  rw [List.mapM_cons]
  rcases List.mem_cons.1 h with rfl | h
  ·rw [hx]; rfl
  ·rw [mapM_none h hx]
   cases f y <;> rfl
theorem mapM_snoc {α β : Type} {f : α → Option β} {x : α} {y : β} (hx : f x = some y) : ∀ {l : List α} {m : List β}, l.mapM f = some m → (l ++ [x]).mapM f = some (m ++ [y])
 | [], m, h => by
  cases h
  rw [List.nil_append, List.mapM_cons, hx]; rfl
 | z :: l, m, h => by
  rw [List.cons_append, List.mapM_cons]
  rw [List.mapM_cons] at h
  cases hz : f z with
  | none => rw [hz] at h; cases h
  | some u =>
   rw [hz] at h
   cases hl : l.mapM f with
   | none => rw [hl] at h; cases h
   | some m' =>
    rw [hl] at h
    have h : some (u :: m') = some m := h
    cases h
    rw [mapM_snoc hx hl]; rfl
theorem mapM_ok : ∀ {l m : List RowD}, l.mapM rowP = some m → ∀ r ∈ m, okR r = true
 | [], m, h, r, hr => by cases h; cases hr
 | z :: l, m, h, r, hr => by
  rw [List.mapM_cons] at h
  cases hz : rowP z with
  | none => rw [hz] at h; cases h
  | some u =>
   rw [hz] at h
   cases hl : l.mapM rowP with
   | none => rw [hl] at h; cases h
   | some m' =>
    rw [hl] at h
    have h : some (u :: m') = some m := h
    cases h
    rcases List.mem_cons.1 hr with rfl | hr
    ·exact rowP_ok hz
    ·exact mapM_ok hl r hr
theorem mapM_len {α β : Type} {f : α → Option β} : ∀ {l : List α} {m : List β}, l.mapM f = some m → m.length = l.length
 | [], m, h => by cases h; rfl
 | z :: l, m, h => by
  rw [List.mapM_cons] at h
  cases hz : f z with
  | none => rw [hz] at h; cases h
  | some u =>
   rw [hz] at h
   cases hl : l.mapM f with
   | none => rw [hl] at h; cases h
   | some m' =>
    rw [hl] at h
    have h : some (u :: m') = some m := h
    cases h
    simp [mapM_len hl]
/-- neighbours unlike: all unlike -/
theorem nodup_of_steps {s : RowD} (hs : s.Pairwise fun a b => a.f ≤ b.f) (h : ∀ m (h : m < s.length), 0 < m → (s[m - 1]).f ≠ (s[m]).f) : (s.map AcD.f).Nodup := by
 rw [List.nodup_iff_pairwise_ne, List.pairwise_map, List.pairwise_iff_getElem]
 rw [List.pairwise_iff_getElem] at hs
 intro i j hi hj hij he
 have h1 := h (i + 1) (by omega) (by omega)
 have h2 := hs i (i + 1) hi (by omega) (by omega)
 simp only [Nat.add_sub_cancel] at h1
 have h3 : (s[i + 1]).f ≤ (s[j]).f := by
  rcases Nat.lt_or_ge (i + 1) j with hlt | hge
  ·exact hs (i + 1) j (by omega) hj hlt
  ·have : j = i + 1 := by omega
   subst this; exact Int.le_refl _
 omega
theorem not_nodup {s : RowD} {m : Nat} (hm : m + 1 < s.length) (h : (s[m]).f = (s[m + 1]).f) : ¬ (s.map AcD.f).Nodup := by
 intro hn
 rw [List.nodup_iff_pairwise_ne, List.pairwise_map, List.pairwise_iff_getElem] at hn
 exact hn m (m + 1) (by omega) hm (by omega) h
end Go.Proofs.YtjjbdbklbghlhaaGreatDoor
/- Rows in order: Clone, SortFunc, sorted. -/
namespace Go.Proofs.YtjjbdbklbghlhaaGreatDoor
open Go.RowKit Go.Sort Go.Maps Go.Lib
set_option linter.unusedSimpArgs false

/-- the cells vs read as the rows l -/
def RowsV (B : Nat → Prop) (w : World) (l : List RowD) (vs : List Value) : Prop := vs.length = l.length ∧ ∀ i (h : i < l.length) (h' : i < vs.length), RowOn B w (l[i]) (vs[i])
theorem RowsV.keep {B : Nat → Prop} {w w' : World} {l : List RowD} {vs : List Value} (h : RowsV B w l vs) (hs : w.heap.size ≤ w'.heap.size) (hk : ∀ b, B b → b < w.heap.size → w'.heap[b]? = w.heap[b]?) : RowsV B w' l vs := ⟨h.1, fun i a b => (h.2 i a b).keep hs hk⟩
theorem RowsV.ext {B : Nat → Prop} {w w' : World} {l : List RowD} {vs : List Value} (h : RowsV B w l vs) (hx : Ext w w') : RowsV B w' l vs := ⟨h.1, fun i a b => (h.2 i a b).ext hx⟩
theorem RowsV.mono {B C : Nat → Prop} {w : World} {l : List RowD} {vs : List Value} (h : RowsV B w l vs) (hBC : ∀ b, b < w.heap.size → B b → C b) : RowsV C w l vs := ⟨h.1, fun i a b => (h.2 i a b).mono hBC⟩
theorem RowsV.one {B : Nat → Prop} {w : World} {l : List RowD} {vs : List Value} (h : RowsV B w l vs) : ∀ u ∈ vs, u.oneCell' = true := by
 intro u hu
 obtain ⟨i, hi, rfl⟩ := List.getElem_of_mem hu
 obtain ⟨p, cap, he, -⟩ := (h.2 i (by rw [← h.1]; exact hi) hi).form
 rw [he]; rfl
theorem RowsV.nil {B : Nat → Prop} {w : World} : RowsV B w [] [] := ⟨rfl, fun i h => by simp at h⟩
theorem RowsV.snoc {B : Nat → Prop} {w : World} {l : List RowD} {vs : List Value} (h : RowsV B w l vs) {r : RowD} {v : Value} (hr : RowOn B w r v) : RowsV B w (l ++ [r]) (vs ++ [v]) := by
 refine ⟨by rw [List.length_append, List.length_append, h.1]; rfl, fun i a b => ?_⟩
 by_cases hi : i < l.length
 ·rw [List.getElem_append_left hi, List.getElem_append_left (by rw [h.1]; exact hi)]
  exact h.2 i hi _
 ·have hl : i = l.length := by simp at a; omega
  subst hl
  rw [List.getElem_append_right (Nat.le_refl _), List.getElem_append_right (by rw [h.1]; exact Nat.le_refl _)]
  simpa using hr
theorem RowsOn.of_owns {B : Nat → Prop} {w : World} {base : Nat} {l : List RowD} {v : Value} {vs : List Value} (h : w.ownsRow base 78 1 v l.length vs) (hv : RowsV B w l vs) (hB : ∀ b, v.ownBlock = some b → B b) : RowsOn B w l v := by
 obtain ⟨p, c, rfl, hc, hcm⟩ := owns_form h
 refine ⟨p, l.length, c, rfl, rfl, hc, hcm, ?_⟩
 rcases owns_range h with ⟨h0, -⟩ | ⟨g, c', he, hb, hlt, hr⟩
 ·exact .inl (List.length_eq_zero_iff.1 h0)
 ·cases he
  exact .inr ⟨g, 0, vs, rfl, hB g rfl, hlt, hv.1, hr, hv.2⟩

theorem putRow_map {α : Type} [Inhabited α] (enc : α → Value) (w : World) (blk off : Nat) (d : Array α) : putRow enc w blk off d = putRow id w blk off (d.map enc) := by
 unfold putRow
 congr 1
 funext c
 unfold putCells
 congr 1
 funext k x
 by_cases h : off ≤ k ∧ k < off + d.size
 ·have h1 : k - off < d.size := by omega
  rw [if_pos h, if_pos (by simpa using h), getElem!_pos d _ h1, getElem!_pos (d.map enc) _ (by simpa using h1)]
  simp
 ·rw [if_neg h, if_neg (by simpa using h)]
theorem sortWorld_map {α : Type} [Inhabited α] (enc : α → Value) (w : World) (blk off m : Nat) (d : Array α) (os : Array Obj) : sortWorld enc w blk off m d os = grow (putRow id (Sort.ahead w m) blk off (d.map enc)) os := by
 unfold sortWorld
 rw [putRow_map]

set_option maxHeartbeats 2000000 in
theorem cloneR_any {B : Nat → Prop} (l : List RowD) (v : Value) (w : World) (h : RowsOn B w l v) (hl : l.length ≤ 5864062014634) :
  Calls Tryz.prog 138 #[v] w fun e w' => ∃ u, e = .returned u ∧ ((∃ vs, w'.ownsRow w.heap.size 78 1 u l.length vs ∧ RowsV B w' l vs) ∧ Ext w w') := by
 obtain ⟨p, len, cap, rfl, hlen, hlc, hcm, hr⟩ := h
 have hq1 := Lib.run_eql_slice_nil (P := Tryz.prog)
 have HL := Hd hlen
 have hl2 : len ≤ 5864062014634 := by omega
 cases p with
 | none =>
  have h0 := hr.resolve_right (by rintro ⟨b, o, vs, h, -⟩; cases h)
  subst h0
  go_enter Tryz.func138, Tryz.ntmps138
  go_wp2_with fail
  go_ret
  exact ⟨_, rfl, ⟨[], World.ownsRow_nil _ _ _ _, RowsV.nil⟩, Ext.refl _⟩
 | some a =>
  obtain ⟨vs, hvs, HN0⟩ : ∃ vs, RowsV B w l vs ∧ Hid (∀ (W : World) (hW : Ext w W), len = 0 ∨ ∃ a', some a = some a' ∧ ∀ j u, vs[j]? = some u → W.cell? (a'.add j) = some u) := by
   rcases hr with rfl | ⟨b, o, vs, he, hB, hlt, hvl, hr, hrow⟩
   ·exact ⟨[], RowsV.nil, fun _ _ => .inl (by simpa using hlen)⟩
   ·cases he
    exact ⟨vs, ⟨hvl, hrow⟩, fun W hW => .inr ⟨_, rfl, fun j u hu => by rw [Addr.add_mid]; exact World.rangeAt.later hW.later hr j u hu⟩⟩
  have HO := Hd (owns_empty (e := 78) (k := 1) w)
  have HF := Hd (show vs.length = len * 1 from by rw [hvs.1, hlen, Nat.mul_one])
  have H1 := Hd hvs.one
  have HVS := Hd hvs
  have hsz : w.heap.size ≤ (w.alloc (.cells #[] 78)).heap.size := by simp
  clear hr hlen hvs
  go_enter Tryz.func138, Tryz.ntmps138
  go_wp2_with (at_builtin; refine wpList_append_E elemR rfl _ _ rfl w.heap.size _ 0 [] rfl HO.out (some a) len cap vs rfl HF.out (HN0.out _ (Ext.alloc _ _)) H1.out (by omega) (by omega) hsz ?_; intro v' w' o1 g1 t1)
  go_ret
  have hxe := (Ext.alloc w (.cells #[] 78)).grownV g1 (fun i hi => by cases hi; exact Nat.le_refl _)
  refine ⟨_, rfl, ⟨vs, ?_, HVS.out.ext hxe⟩, hxe⟩
  rw [← HL.out]
  simpa using o1

theorem sortRows_any {B : Nat → Prop} (l : List RowD) (v : Value) (base : Nat) (vs : List Value) (w : World) (h : w.ownsRow base 78 1 v l.length vs) (hv : RowsV B w l vs) (hB : ∀ b, B b → v.ownBlock ≠ some b) (hl : l.length ≤ 5864062014634) :
  Calls Tryz.prog 139 #[v, .func (.func 128) #[] #[]] w fun e w' => e = .returned (.tuple #[]) ∧ ∃ l' vs', (l'.Perm l ∧ l'.Pairwise (fun a b => leR a b = true)) ∧ w'.ownsRow base 78 1 v l.length vs' ∧ RowsV B w' l' vs' ∧ w.grownBy w' v.ownBlock := by
 have eg : ∀ args w, (callFunc 128 args).run Tryz.prog w = .ok (.enter 128 args) w := enters_of Tryz.func128 (by kernel_rfl) rfl
 by_cases hnil : l = []
 ·subst hnil
  obtain ⟨p, c, rfl, -⟩ := owns_form h
  refine (AnyF.slices_SortFunc_none { Tryz.sortR with } p c (.func (.func 128) #[] #[]) w).mono ?_
  rintro e w' ⟨he, rfl⟩
  exact ⟨he, [], vs, ⟨List.Perm.refl _, List.Pairwise.nil⟩, h, hv, ⟨rfl, rfl, rfl, Nat.le_refl _, fun _ _ _ => rfl⟩⟩
 rcases h.2 with ⟨rfl, h0⟩ | ⟨g, cap, cur, rfl, hb, hg, hn, hm, hs, ht⟩
 ·exact absurd (List.length_eq_zero_iff.1 h0) hnil
 have hlt : g < w.heap.size := (Array.getElem?_eq_some_iff.1 hg).1
 have hr := ownsRow_range h
 let α := {p : RowD × Value // RowOn B w p.1 p.2}
 let _ : Inhabited α := ⟨⟨([], .slice none 0 0), RowOn.nil⟩⟩
 let enc : α → Value := fun p => p.1.2
 let cf : α → α → Int := fun p q => cmpR p.1.1 q.1.1
 let d : Array α := Array.ofFn (n := l.length) fun i => ⟨(l[i.1], vs[i.1]'(by rw [hv.1]; exact i.2)), hv.2 i.1 i.2 _⟩
 have hd : d.size = l.length := by simp [d]
 have hone : OneCell enc := fun x => by
  obtain ⟨p, cap, he, -⟩ := x.2.form
  show x.1.2.oneCell' = true
  rw [he]; rfl
 have hO : SWO (ltOf cf) := ⟨fun x => swoRk.irrefl x.1.1, fun x y z => swoRk.trans x.1.1 y.1.1 z.1.1, fun x y z => swoRk.ntrans x.1.1 y.1.1 z.1.1⟩
 have keepW : ∀ m (dk : Array α) os, w.grownBy (sortWorld enc w g 0 m dk os) (some g) := fun m dk os => by
  rw [sortWorld_map]; exact grown_put w g m _ os
 have hBg : ∀ b, B b → b ≠ g := fun b hb e => hB b hb (by rw [e]; rfl)
 have keepR : ∀ m (dk : Array α) os (x : α), RowOn B (sortWorld enc w g 0 m dk os) x.1.1 x.1.2 := fun m dk os x =>
  x.2.keep (keepW m dk os).size fun b hb hlt => (keepW m dk os).block b hlt (fun e => hBg b hb (by injection e))
 have hcl : CmpLays1 Tryz.prog 128 #[] enc cf g 0 d.size w := fun m os dk _ x y =>
  (order_any x.1.1 y.1.1 x.1.2 y.1.2 (sortWorld enc w g 0 m dk os) (keepR m dk os x) (keepR m dk os y)).mono fun e w' ⟨he, q, os', hw⟩ => ⟨he, q, os', hw⟩
 have hH : Holds enc w g 0 d := by
  intro j hj
  have hj1 : j < l.length := by rw [← hd]; exact hj
  have hj2 : j < vs.length := by rw [hv.1]; exact hj1
  refine ⟨?_, by simp [World.frozen?, hg]⟩
  rw [getElem!_pos d j hj]
  have e1 : enc d[j] = vs[j] := by simp [d, enc]
  rw [e1]
  exact hr j _ (List.getElem?_eq_getElem hj2)
 have hcon := Any.slices_SortFunc Tryz.sortR enc hone cf hO 128 #[] g 0 cap d w eg hcl hH hlt (by rw [hd]; omega)
 rw [hd] at hcon
 refine (show Calls Tryz.prog 139 #[.slice (some ⟨g, 0, none⟩) l.length cap, .func (.func 128) #[] #[]] w _ from hcon).mono ?_
 rintro e w' ⟨he, d', n, os, hp, hso, rfl⟩
 have hsz : d'.size = l.length := by rw [hp.1]; exact hd
 have hpm : d'.toList.Perm d.toList := by
  have := hp.2.2
  rw [show d'.extract 0 l.length = d' by rw [← hsz]; simp, show d.extract 0 l.length = d by rw [← hd]; simp] at this
  exact this
 have hdl : d.toList.map (fun p : α => p.1.1) = l := by
  apply List.ext_getElem
  ·simp [hd]
  ·intro i h1 h2
   simp [d]
 refine ⟨he, d'.toList.map (fun p : α => p.1.1), d'.toList.map enc, ⟨?_, ?_⟩, ?_, ⟨by simp, fun i h1 h2 => ?_⟩, keepW n d' os⟩
 ·have := hpm.map (fun p : α => p.1.1)
  rwa [hdl] at this
 ·rw [List.pairwise_map, List.pairwise_iff_getElem]
  intro i j hi hj hij
  have hi' : i < d'.size := by simpa using hi
  have hj' : j < d'.size := by simpa using hj
  have := hso i j (Nat.zero_le _) hij (by omega)
  rw [getElem!_pos d' i hi', getElem!_pos d' j hj'] at this
  have h3 : ¬ cmpR (d'[j]).1.1 (d'[i]).1.1 < 0 := by simpa [ltOf, cf] using this
  rw [cmpR_neg] at h3
  simpa [leR] using h3
 ·rw [sortWorld_map]
  have := ownsRow_put (q := n) (F := d'.map enc) h (by simp [hsz]) os
  simpa using this
 ·have := keepR n d' os (d'.toList[i]'(by simpa using h1))
  simpa [enc] using this

theorem sortedR_any {B : Nat → Prop} (l : List RowD) (v : Value) (w : World) (h : RowsOn B w l v) (hl : l.length ≤ 5864062014634) (hBw : ∀ b, B b → b < w.heap.size) :
  Calls Tryz.prog 127 #[v, .func (.func 128) #[] #[]] w fun e w' => ∃ u, e = .returned u ∧ ∃ l' vs', (l'.Perm l ∧ l'.Pairwise (fun a b => leR a b = true)) ∧ w'.ownsRow w.heap.size 78 1 u l'.length vs' ∧ RowsV B w' l' vs' ∧ Ext w w' := by
 have HC := Hd (cloneR_any l v w h hl)
 have hv : ∃ p len cap, v = .slice p len cap := by obtain ⟨p, len, cap, he, -⟩ := h; exact ⟨p, len, cap, he⟩
 obtain ⟨p, len, cap, rfl⟩ := hv
 go_enter Tryz.func127, Tryz.ntmps127
 go_wp2_with fail
 refine HC.out.mono ?_
 rintro e w1 ⟨u, rfl, ⟨vs, hown, hvs⟩, hx⟩
 have HB := Hd (fun i (hi : u.ownBlock = some i) => (owns_lt hown i hi).1)
 have HS := Hd (sortRows_any l u _ vs w1 hown hvs (fun b hb e => by have := (owns_lt hown b e).1; have := hBw b hb; omega) hl)
 have HX := Hd hx
 clear hown hx hvs
 go_wp2_with fail
 refine HS.out.mono ?_
 rintro e w2 ⟨rfl, l', vs', hs, hown2, hvs2, hg⟩
 have HP := Hd (show ∃ l' vs', (l'.Perm l ∧ l'.Pairwise (fun a b => leR a b = true)) ∧ w2.ownsRow w.heap.size 78 1 u l'.length vs' ∧ RowsV B w2 l' vs' ∧ Ext w w2 from ⟨l', vs', hs, by rw [hs.1.length_eq]; exact hown2, hvs2, HX.out.grownV hg HB.out⟩)
 clear hs hown2 hg hvs2
 go_wp2_with fail
 go_ret
 exact ⟨_, rfl, HP.out⟩
end Go.Proofs.YtjjbdbklbghlhaaGreatDoor
/- slices.CompactFunc of rows. -/
namespace Go.Proofs.YtjjbdbklbghlhaaGreatDoor
open Go.RowKit Go.Sort Go.Maps Go.Lib
set_option linter.unusedSimpArgs false

theorem run_clear_R (w : World) (b o n c : Nat) (ht : ∀ j, j < n → (w.cell? ⟨b, o + j, none⟩).isSome = true ∧ w.frozen? ⟨b, o + j, none⟩ = false) :
  ∃ vs : List Value, vs.length = n ∧ ∀ ty : TypeId, (Builtin.clear_ #[40] ty #[.slice (some ⟨b, o, none⟩) n c]).run Tryz.prog w = .ok (.tuple #[]) (w.setCells b o vs) := by
 have hz : ∀ w : World, (zeroValue 78).run Tryz.prog w = .ok (.slice none 0 0) w := fun w => by kernel_rfl
 rcases Nat.eq_zero_or_pos n with rfl | hn
 ·exact ⟨[], by simp, fun ty => by simp [Builtin.clear_, run_underlying Tryz.underlying40]; rfl⟩
 refine ⟨(Builtin.zeroCells (Value.slice none 0 0).cells n).toList, by simp [Builtin.zeroCells, Value.cells], fun ty => ?_⟩
 have hl : (Builtin.zeroCells (Value.slice none 0 0).cells n).toList.length = n := by simp [Builtin.zeroCells, Value.cells]
 have h1 : ∀ v ∈ (Builtin.zeroCells (Value.slice none 0 0).cells n).toList, v.oneCell' = true := by
  intro v hv
  simp only [Builtin.zeroCells, Value.cells, Array.toList_map, List.mem_map] at hv
  obtain ⟨i, -, rfl⟩ := hv
  simp [Nat.mod_one]
  rfl
 have hst := run_storeCells_cells (P := Tryz.prog) b o (Builtin.zeroCells (Value.slice none 0 0).cells n).toList 0 w (fun j hj => (ht j (by rw [← hl]; exact hj)).1) (fun j hj => (ht j (by rw [← hl]; exact hj)).2) h1
 simp only [Nat.add_zero] at hst
 obtain ⟨m, rfl⟩ : ∃ m, n = m + 1 := ⟨n - 1, by omega⟩
 simp [Builtin.clear_, run_underlying Tryz.underlying40, hz, hst]
theorem keep_setCells {w : World} (g o : Nat) (vs : List Value) : Keep (· = g) w (w.setCells g o vs) :=
  ⟨World.os_setCells _ _ _ _, by
    have : ∀ (vs : List Value) (o : Nat) (w : World), (w.setCells g o vs).tape = w.tape := by
      intro vs
      induction vs with
      | nil => intros; rfl
      | cons v r ih => intro o w; exact (ih (o + 1) _).trans rfl
    exact this vs o w, World.output_setCells _ _ _ _, by simp, fun i hi hs => World.heap_setCells_other w g o vs hi hs⟩

abbrev rowsFn : Value := .func (.func 130) #[] #[]
abbrev PairR := RowD × Value
def qP (x y : PairR) : Bool := cmpR x.1 y.1 == 0
/-- the cells of block g hold the values, and may be written -/
def Cells1 (w : World) (g : Nat) (M : List PairR) : Prop := (∀ i (h : i < M.length), w.cell? ⟨g, i, none⟩ = some (M[i]).2) ∧ ∀ i, i < M.length → w.frozen? ⟨g, i, none⟩ = false
theorem Cells1.ext {w w' : World} {g : Nat} {M : List PairR} (h : Cells1 w g M) (hx : Ext w w') : Cells1 w' g M :=
 ⟨fun i hi => hx.later _ _ (h.1 i hi), fun i hi => by rw [Below.frozen hx (World.block_lt_of_cell? w _ (h.1 i hi))]; exact h.2 i hi⟩
theorem Cells1.set {w : World} {g : Nat} {M : List PairR} (h : Cells1 w g M) (k : Nat) (hk : k < M.length) (x : PairR) : Cells1 (w.setCell ⟨g, k, none⟩ x.2) g (M.set k x) := by
 refine ⟨fun i hi => ?_, fun i hi => ?_⟩
 ·have hi' : i < M.length := by simpa using hi
  by_cases he : i = k
  ·subst he
   rw [List.getElem_set_self]
   exact World.cell?_setCell_same w ⟨g, i, none⟩ _ (h.1 i hi')
  ·rw [List.getElem_set_ne (by omega), World.cell?_setCell_other _ _ _ _ (fun e => by injection e with _ e2; omega)]
   exact h.1 i hi'
 ·rw [World.frozen?_setCell]
  exact h.2 i (by simpa using hi)

set_option maxHeartbeats 4000000 in
set_option maxRecDepth 100000 in
theorem compactRows_any {B : Nat → Prop} (L : List PairR) (g len cap : Nat) (w : World) (hlen : len = L.length) (hcap : len ≤ cap) (hmax : cap ≤ 9223372036854775807) (hc : Cells1 w g L) (hB : ¬ B g) (hrow : ∀ p ∈ L, RowOn B w p.1 p.2) :
    Calls Tryz.prog 129 #[.slice (some ⟨g, 0, none⟩) len cap, rowsFn] w fun e w' => e = .returned (.slice (some ⟨g, 0, none⟩) (ddG qP L).length cap) ∧ (∀ i (h : i < (ddG qP L).length), w'.cell? ⟨g, i, none⟩ = some ((ddG qP L)[i]).2) ∧ Keep (· = g) w w' := by
  have HL := Hd hlen
  have HC := Hd hc
  have HRO := Hd (fun W (hW : Keep (· = g) w W) p (hp : p ∈ L) => (hrow p hp).keep hW.size fun b hb hlt => hW.block b hlt (fun e => hB (e ▸ hb)))
  have eg : ∀ args w, (callFunc 130 args).run Tryz.prog w = .ok (.enter 130 args) w := enters_of Tryz.func130 (by kernel_rfl) rfl
  clear hlen hc hrow
  by_cases h2 : len < 2
  · have HF := Hd (show ddG qP L = L from by
      have hll : L.length < 2 := by rw [← HL.out]; exact h2
      match L, hll with
      | [], _ => rfl
      | [x], _ => rfl)
    go_enter Tryz.func129, Tryz.ntmps129
    go_wp2_with fail
    go_ret
    exact ⟨by rw [HF.out, ← HL.out]; rfl, by rw [HF.out]; exact HC.out.1, Keep.refl _ _⟩
  go_enter Tryz.func129, Tryz.ntmps129
  go_wp2_with fail
  go_loopw [5] (fun i wr => ∃ k : Nat, k + 1 ≤ len ∧ i = .int .i64 (k + 1 : Nat) ∧ Hid (∀ m (h : m < L.length), 0 < m → m < k + 1 → qP (L[m]) (L[m - 1]) = false) ∧ Hid (Ext w wr)) (fun i _ => len - (intOf i).toNat)
  case atStart => exact ⟨0, by omega, rfl, fun m h h0 h1 => by omega, Ext.refl _⟩
  case round =>
    obtain ⟨wo, rfl⟩ : ∃ wo : World, wo = wr := ⟨_, rfl⟩
    obtain ⟨k, hk, rfl, hd, hx⟩ := hrel
    by_cases hlt : k + 1 < len
    case neg =>
      have HF := Hd (show ddG qP L = L from by
        have := ddG_rises qP (l := L) L.length (Nat.le_refl _) (fun m h h0 h1 => hd.out m h h0 (by have := HL.out; omega))
        rwa [List.take_length] at this)
      have HCo := Hd (HC.out.ext hx.out)
      clear hd
      go_wp2_with fail
      go_ret
      exact ⟨by rw [HF.out, ← HL.out]; rfl, by rw [HF.out]; exact HCo.out.1, hx.out.keep _⟩
    have hkl : k + 1 < L.length := by rw [← HL.out]; exact hlt
    obtain ⟨x, hxe⟩ : ∃ x, x = L[k + 1] := ⟨_, rfl⟩
    obtain ⟨y, hye⟩ : ∃ y, y = L[k]'(by omega) := ⟨_, rfl⟩
    have hcx : ∀ W, Ext wo W → W.cell? ⟨g, k + 1, none⟩ = some x.2 := fun W hW => by rw [hxe]; exact (HC.out.ext (hx.out.trans hW)).1 (k + 1) hkl
    have hcy : ∀ W, Ext wo W → W.cell? ⟨g, k, none⟩ = some y.2 := fun W hW => by rw [hye]; exact (HC.out.ext (hx.out.trans hW)).1 k (by omega)
    have HXE := Hd hxe
    have HYE := Hd hye
    have HSS := Hd (fun W (hW : Ext wo W) => (show (fun W => W.cell? ⟨g, k + 1, none⟩ = some x.2 ∧ W.cell? ⟨g, k, none⟩ = some y.2) W from ⟨hcx W hW, hcy W hW⟩))
    have HEQ := Hd (fun W (hW : Ext wo W) => rows2_any x.1 y.1 x.2 y.2 W (HRO.out W ((hx.out.trans hW).keep _) x (by rw [hxe]; exact List.getElem_mem _)) (HRO.out W ((hx.out.trans hW).keep _) y (by rw [hye]; exact List.getElem_mem _)))
    have hxd := Ext.drew wo
    have hadd : ((k : Int) + 1 - 1) = k := by omega
    have HQ := Hd (show (cmpR x.1 y.1 == 0) = qP (L[k + 1]) (L[k]'(by omega)) from by rw [← hxe, ← hye]; rfl)
    obtain ⟨xv, hxv⟩ : ∃ xv, xv = x.2 := ⟨_, rfl⟩
    obtain ⟨yv, hyv⟩ : ∃ yv, yv = y.2 := ⟨_, rfl⟩
    rw [← hxv, ← hyv] at HSS HEQ
    generalize (cmpR x.1 y.1 == 0) = qq at *
    clear hcx hcy hxe hye hxv hyv
    go_upto_region 6 with fail
    refine wp_region_noPanic ?_
    refine wp_region_held_drew (S := (fun W => W.cell? ⟨g, k + 1, none⟩ = some xv ∧ W.cell? ⟨g, k, none⟩ = some yv)) (by kernel_rfl) (HSS.out _ hxd) (fun hHeld => ?_)
    refine tk 0 rowsFn ?_
    try simp only [tkN]
    refine tk 1 (.slice (some ⟨g, 0, none⟩) len cap) ?_
    try simp only [tkN]
    refine tk 2 (.int .i64 (k + 1 : Nat)) ?_
    try simp only [tkN]
    refine tk 3 (.pointer (some ⟨g, k + 1, none⟩)) ?_
    try simp only [tkN]
    refine tk 4 xv ?_
    try simp only [tkN]
    refine tk 5 (.slice (some ⟨g, 0, none⟩) len cap) ?_
    try simp only [tkN]
    refine tk 6 (.int .i64 (k + 1 : Nat)) ?_
    try simp only [tkN]
    refine tk 7 (.int .i64 k) ?_
    try simp only [tkN]
    refine tk 8 (.pointer (some ⟨g, k, none⟩)) ?_
    try simp only [tkN]
    refine tk 9 yv ?_
    try simp only [tkN]
    refine tk1 10 rfl (AllReadyH.cons rfl (fun K hK => ?_) AllReadyH.nil)
    go_simp
    refine (HEQ.out _ hxd).mono ?_
    rintro e w5 ⟨rfl, hx5⟩
    refine hK.out _ _ (HSS.out _ (hxd.trans hx5.ext)) (fun hHeld2 => ?_)
    clear hK K hHeld
    try simp only [tkN]
    refine wpAnyH_done (by kernel_rfl) ?_ _
    refine NoPanic.normal ?_
    have HX5 := Hd (hx.out.trans (hxd.trans hx5.ext))
    cases qq with
    | false =>
      have HNE := HQ
      clear HQ
      go_wp2_with fail
      go_roundw
      case rel => exact ⟨k + 1, by omega, by go_num, fun m h h0 h1 => by
        rcases Nat.lt_succ_iff_lt_or_eq.1 h1 with h2 | rfl
        · exact hd.out m h h0 h2
        · exact HNE.out.symm, HX5.out⟩
      case measure => simp [intOf]; omega
    | true =>
      have HK := Hd (show ddG qP (L.take (k + 1 + 1)) = L.take (k + 1) from by
        rw [ddG_take qP (by omega) hkl, if_pos (by exact HQ.out.symm)]
        exact ddG_rises qP (k + 1) (by omega) hd.out)
      have HC5 := Hd (HC.out.ext HX5.out)
      clear hd HSS HEQ HXE HYE HQ
      go_wp2_with fail
      go_loopw [5, 7] (fun i j wr => ∃ (kk k2 : Nat) (M : List PairR), k + 1 + (k2 + 1) ≤ len ∧ kk ≤ k + 1 + k2 ∧ i = .int .i64 kk ∧ j = .int .i64 (k2 + 1 : Nat) ∧ Hid (kk = (ddG qP (L.take (k + 1 + (k2 + 1)))).length) ∧ M.length = len ∧ Hid (M.take kk = ddG qP (L.take (k + 1 + (k2 + 1)))) ∧ Hid (∀ i (h : i < L.length) (h' : i < M.length), k + 1 + k2 ≤ i → M[i] = L[i]) ∧ Hid (Cells1 wr g M) ∧ Hid (Keep (· = g) w wr)) (fun _ j _ => len - (intOf j).toNat)
      case atStart => exact ⟨k + 1, 0, L, by omega, by omega, rfl, rfl, by show k + 1 = (ddG qP (L.take (k + 1 + 1))).length; rw [HK.out, List.length_take]; omega, HL.out.symm, HK.out.symm, fun i h h' hi => rfl, HC5.out, HX5.out.keep _⟩
      case round =>
        obtain ⟨wi, rfl⟩ : ∃ wi : World, wi = wr := ⟨_, rfl⟩
        obtain ⟨kk, k2, M, hk2, hkk, rfl, rfl, hkl2, hML, hMt, hMi, hMc, hMk⟩ := hrel
        by_cases hlt2 : k + 1 + (k2 + 1) < len
        case neg =>
          have hfull : k + 1 + (k2 + 1) = L.length := by have := HL.out; omega
          have HDL := Hd (show ddG qP (L.take (k + 1 + (k2 + 1))) = ddG qP L from by rw [hfull, List.take_length])
          have HKL := Hd (show (ddG qP L).length = kk from by rw [← HDL.out]; exact hkl2.out.symm)
          obtain ⟨vs, hvs, hcl⟩ := run_clear_R wi g kk (len - kk) (cap - kk) (fun j hj => ⟨by rw [hMc.out.1 (kk + j) (by omega)]; rfl, hMc.out.2 (kk + j) (by omega)⟩)
          have HF1 := Hd (show ∀ i (h : i < (ddG qP L).length), (wi.setCells g kk vs).cell? ⟨g, i, none⟩ = some ((ddG qP L)[i]).2 from fun i h => by
            have hik : i < kk := by rw [← HKL.out]; exact h
            have hc0 := hMc.out.1 i (by omega)
            have e1 : M[i]'(by omega) = (ddG qP L)[i] := by
              have e2 : ddG qP L = M.take kk := by rw [hMt.out, HDL.out]
              simp only [e2, List.getElem_take]
            rw [← e1, ← hc0]
            have hra : wi.rangeAt g i [(M[i]'(by omega)).2] := fun j u hu => by
              cases j with
              | zero => simp at hu; subst hu; simpa using hc0
              | succ j => simp at hu
            have := World.rangeAt_setCells_apart hra g kk vs (.inr (.inl (by simp; omega))) 0 _ rfl
            simpa [hc0] using this)
          have HF2 := Hd (hMk.out.trans (keep_setCells g kk vs))
          clear hMc hMk hMt hMi hvs hkl2
          go_wp2_with fail
          go_ret
          exact ⟨by rw [HKL.out]; rfl, HF1.out, HF2.out⟩
        have hil : k + 1 + (k2 + 1) < L.length := by rw [← HL.out]; exact hlt2
        obtain ⟨x, hxe⟩ : ∃ x, x = M[k + 1 + (k2 + 1)]'(by omega) := ⟨_, rfl⟩
        obtain ⟨y, hye⟩ : ∃ y, y = M[k + 1 + k2]'(by omega) := ⟨_, rfl⟩
        have hcx : ∀ W, Ext wi W → W.cell? ⟨g, k + 1 + (k2 + 1), none⟩ = some x.2 := fun W hW => by rw [hxe]; exact (hMc.out.ext hW).1 (k + 1 + (k2 + 1)) (by omega)
        have hcy : ∀ W, Ext wi W → W.cell? ⟨g, k + 1 + k2, none⟩ = some y.2 := fun W hW => by rw [hye]; exact (hMc.out.ext hW).1 (k + 1 + k2) (by omega)
        have HXE := Hd (show x = L[k + 1 + (k2 + 1)] from by rw [hxe]; exact hMi.out _ hil (by omega) (by omega))
        have HYE := Hd (show y = L[k + 1 + k2]'(by omega) from by rw [hye]; exact hMi.out _ (by omega) (by omega) (by omega))
        have HSS := Hd (fun W (hW : Ext wi W) => (show (fun W => W.cell? ⟨g, k + 1 + (k2 + 1), none⟩ = some x.2 ∧ W.cell? ⟨g, k + 1 + k2, none⟩ = some y.2) W from ⟨hcx W hW, hcy W hW⟩))
        have HEQ := Hd (fun W (hW : Ext wi W) => rows2_any x.1 y.1 x.2 y.2 W (HRO.out W (hMk.out.trans (hW.keep _)) x (by rw [HXE.out]; exact List.getElem_mem _)) (HRO.out W (hMk.out.trans (hW.keep _)) y (by rw [HYE.out]; exact List.getElem_mem _)))
        have hxd := Ext.drew wi
        have hadd : ((k2 : Int) + 1 - 1) = k2 := by omega
        have HQ := Hd (show (cmpR x.1 y.1 == 0) = qP (L[k + 1 + (k2 + 1)]) (L[k + 1 + k2]'(by omega)) from by rw [← HXE.out, ← HYE.out]; rfl)
        obtain ⟨xv, hxv⟩ : ∃ xv, xv = x.2 := ⟨_, rfl⟩
        obtain ⟨yv, hyv⟩ : ∃ yv, yv = y.2 := ⟨_, rfl⟩
        rw [← hxv, ← hyv] at HSS HEQ
        have HXV := Hd hxv
        generalize (cmpR x.1 y.1 == 0) = qq at *
        clear hcx hcy hxe hye hxv hyv
        go_upto_region 11 with fail
        refine wp_region_noPanic ?_
        refine wp_region_held_drew (S := (fun W => W.cell? ⟨g, k + 1 + (k2 + 1), none⟩ = some xv ∧ W.cell? ⟨g, k + 1 + k2, none⟩ = some yv)) (by kernel_rfl) (HSS.out _ hxd) (fun hHeld => ?_)
        refine tk 0 rowsFn ?_
        try simp only [tkN]
        refine tk 1 (.slice (some ⟨g, k + 1, none⟩) (len - (k + 1)) (cap - (k + 1))) ?_
        try simp only [tkN]
        refine tk 2 (.int .i64 (k2 + 1 : Nat)) ?_
        try simp only [tkN]
        refine tk 3 (.pointer (some ⟨g, k + 1 + (k2 + 1), none⟩)) ?_
        try simp only [tkN]
        refine tk 4 xv ?_
        try simp only [tkN]
        refine tk 5 (.slice (some ⟨g, k + 1, none⟩) (len - (k + 1)) (cap - (k + 1))) ?_
        try simp only [tkN]
        refine tk 6 (.int .i64 (k2 + 1 : Nat)) ?_
        try simp only [tkN]
        refine tk 7 (.int .i64 k2) ?_
        try simp only [tkN]
        refine tk 8 (.pointer (some ⟨g, k + 1 + k2, none⟩)) ?_
        try simp only [tkN]
        refine tk 9 yv ?_
        try simp only [tkN]
        refine tk1 10 rfl (AllReadyH.cons rfl (fun K hK => ?_) AllReadyH.nil)
        go_simp
        refine (HEQ.out _ hxd).mono ?_
        rintro e w5 ⟨rfl, hx5⟩
        refine hK.out _ _ (HSS.out _ (hxd.trans hx5.ext)) (fun hHeld2 => ?_)
        clear hK K hHeld
        try simp only [tkN]
        refine tk 11 (.bool (!qq)) ?_
        try simp only [tkN]
        refine wpAnyH_done (by kernel_rfl) ?_ _
        refine NoPanic.normal ?_
        have hx5' : Ext wi w5 := hxd.trans hx5.ext
        have HMC5 := Hd (hMc.out.ext hx5')
        have HMK5 := Hd (hMk.out.trans (hx5'.keep _))
        have HS5 := Hd (HSS.out w5 hx5')
        cases qq with
        | true =>
          have HDT := Hd (show ddG qP (L.take (k + 1 + (k2 + 1 + 1))) = ddG qP (L.take (k + 1 + (k2 + 1))) from by
            have := ddG_take qP (l := L) (i := k + 1 + (k2 + 1)) (by omega) hil
            rw [show k + 1 + (k2 + 1) + 1 = k + 1 + (k2 + 1 + 1) from by omega, if_pos (by exact HQ.out.symm)] at this
            exact this)
          clear HSS HEQ HXE HYE hMc hMk HQ
          go_wp2_with fail
          go_roundw
          case rel => exact ⟨kk, k2 + 1, M, by omega, by omega, rfl, by go_num, by rw [HDT.out]; exact hkl2.out, hML, by rw [HDT.out]; exact hMt.out, fun i h h' hi => hMi.out i h h' (by omega), HMC5.out, HMK5.out⟩
          case measure => simp [intOf]; omega
        | false =>
          have HDT := Hd (show ddG qP (L.take (k + 1 + (k2 + 1 + 1))) = ddG qP (L.take (k + 1 + (k2 + 1))) ++ [x] from by
            have := ddG_take qP (l := L) (i := k + 1 + (k2 + 1)) (by omega) hil
            rw [show k + 1 + (k2 + 1) + 1 = k + 1 + (k2 + 1 + 1) from by omega, if_neg (by
              have h := HQ.out
              intro h2
              have h3 : qP (L[k + 1 + (k2 + 1)]) (L[k + 1 + k2]'(by omega)) = true := h2
              rw [← h] at h3; cases h3), ← HXE.out] at this
            exact this)
          have hkM : kk < M.length := by omega
          have HMC6 := Hd (show Cells1 (w5.setCell ⟨g, kk, none⟩ xv) g (M.set kk x) from by rw [HXV.out]; exact HMC5.out.set kk hkM x)
          have hfz := HMC5.out.2 kk hkM
          have hck := HMC5.out.1 kk hkM
          have HMK6 := Hd (HMK5.out.trans (Keep.set (S := (· = g)) w5 ⟨g, kk, none⟩ xv rfl))
          have HMt6 := Hd (show (M.set kk x).take (kk + 1) = ddG qP (L.take (k + 1 + (k2 + 1 + 1))) from by
            rw [HDT.out, ← hMt.out, List.take_succ_eq_append_getElem (by rw [List.length_set]; exact hkM), List.getElem_set_self, List.take_set_of_le (Nat.le_refl _)])
          have HMi6 := Hd (show ∀ i (h : i < L.length) (h' : i < (M.set kk x).length), k + 1 + (k2 + 1) ≤ i → (M.set kk x)[i] = L[i] from fun i h h' hi => by
            rw [List.getElem_set_ne (by omega)]
            exact hMi.out i h (by rw [List.length_set] at h'; exact h') (by omega))
          obtain ⟨s1, s2⟩ := HS5.out
          obtain ⟨pf, nf, cf, hf⟩ : ∃ p n c, xv = .slice p n c := by
            rw [HXV.out]
            obtain ⟨p, c, he, -⟩ := (HRO.out wi hMk.out x (by rw [HXE.out]; exact List.getElem_mem _)).form
            exact ⟨p, _, c, he⟩
          subst hf
          obtain ⟨ov, hov⟩ : ∃ ov, ov = (M[kk]).2 := ⟨_, rfl⟩
          rw [← hov] at hck
          clear HSS HEQ HXE HYE hMc hMk hMt hMi s2 hov
          go_wp2_with fail
          go_roundw
          case rel => exact ⟨kk + 1, k2 + 1, M.set kk x, by omega, by omega, by go_num, by go_num, by rw [HDT.out, List.length_append, ← hkl2.out]; rfl, by rw [List.length_set]; exact hML, HMt6.out, HMi6.out, HMC6.out, HMK6.out⟩
          case measure => simp [intOf]; omega
end Go.Proofs.YtjjbdbklbghlhaaGreatDoor
