/- Rows of elements of several cells; slices.SortFunc of headers by header.Compare. -/
import Derived.Test.YtehdddilcakmlaaDoorCmp
import Derived.Test.YtehdddilcakmlaaDoorShelf
import Derived.Shelf.SlSortCmp.NoneTotal
namespace Go.Proofs.YtehdddilcakmlaaDoor
open Go.RowKit Go.Sort Go.Lib

section
variable {α : Type} {enc : α → List Value} {k : Nat}
theorem flatMap_length (hk : ∀ x, (enc x).length = k) : ∀ l : List α, (l.flatMap enc).length = l.length * k
  | [] => by simp
  | x :: r => by
    rw [List.flatMap_cons, List.length_append, hk, flatMap_length hk r, List.length_cons, Nat.add_mul]
    omega
theorem flatMap_get (hk : ∀ x, (enc x).length = k) : ∀ (l : List α) (i j : Nat) (hi : i < l.length), j < k → (l.flatMap enc)[i * k + j]? = (enc (l[i]))[j]?
  | x :: r, 0, j, _, hj => by
    rw [List.flatMap_cons, Nat.zero_mul, Nat.zero_add, List.getElem?_append_left (by rw [hk]; exact hj), List.getElem_cons_zero]
  | x :: r, i + 1, j, hi, hj => by
    rw [List.flatMap_cons, List.getElem?_append_right (by rw [hk, Nat.add_mul]; omega), hk, show (i + 1) * k + j - k = i * k + j from by rw [Nat.add_mul]; omega, flatMap_get hk r i j (by simpa using hi) hj, List.getElem_cons_succ]

theorem flatK_toList [Inhabited α] (hk : ∀ x, (enc x).length = k) (l : List α) : (flatK enc k l.toArray).toList = l.flatMap enc := by
  apply List.ext_getElem?
  intro t
  by_cases ht : t < l.length * k
  · have k0 : 0 < k := by rcases Nat.eq_zero_or_pos k with h | h; · subst h; simp at ht
                          · exact h
    have h1 : t / k < l.length := (Nat.div_lt_iff_lt_mul k0).2 ht
    have h2 : t % k < k := Nat.mod_lt _ k0
    have e : t = t / k * k + t % k := by have := Nat.div_add_mod t k; rw [Nat.mul_comm] at this; omega
    have hg := flatMap_get hk l (t / k) (t % k) h1 h2
    rw [← e] at hg
    rw [hg]
    have h3 : t % k < (enc (l[t / k])).length := by rw [hk]; exact h2
    simp [flatK, ht, h1, h3]
  · rw [List.getElem?_eq_none (by simp [flatK]; omega), List.getElem?_eq_none (by rw [flatMap_length hk]; omega)]

/-- an element's cells, out of the row that holds all -/
theorem rangeAt_get (hk : ∀ x, (enc x).length = k) {w : World} {b o : Nat} {l : List α} (h : w.rangeAt b o (l.flatMap enc)) (i : Nat) (hi : i < l.length) : w.rangeAt b (o + i * k) (enc (l[i])) := fun j v hv => by
  have hj : j < k := by rw [← hk (l[i])]; exact (List.getElem?_eq_some_iff.1 hv).1
  rw [Nat.add_assoc]
  exact h _ _ ((flatMap_get hk l i j hi hj).trans hv)
end

theorem ownsRow_range {w : World} {base : Nat} {e : TypeId} {size : Nat} {g n cap : Nat} {xs : List Value} (h : w.ownsRow base e size (.slice (some ⟨g, 0, none⟩) n cap) n xs) : w.rangeAt g 0 xs := fun j v hv => by
  have := h.cells (g := g) rfl j v hv
  rwa [Addr.add_mid] at this

/-- behind a sort in the sort's own words -/
theorem ownsRow_put {w : World} {base : Nat} {e : TypeId} {size g n cap q : Nat} {xs : List Value} {F : Array Value} (h : w.ownsRow base e size (.slice (some ⟨g, 0, none⟩) n cap) n xs) (hF : F.size = n * size) (os : Array Obj) :
    (grow (putRow id (Sort.ahead w q) g 0 F) os).ownsRow base e size (.slice (some ⟨g, 0, none⟩) n cap) n F.toList := by
  rcases h.2 with ⟨e0, _⟩ | ⟨g', cap', cur, e0, hb, hg, hn, hm, hs, ht⟩
  · cases e0
  · injection e0 with e1 _ e3
    injection e1 with e1
    injection e1 with e1
    subst e1; subst e3
    have hlt : g < w.heap.size := (Array.getElem?_eq_some_iff.1 hg).1
    have hle : n * size ≤ cap * size := Nat.mul_le_mul_right _ hn
    refine ⟨by simpa using hF, .inr ⟨g, cap, putCells id 0 F cur, rfl, hb, ?_, hn, hm, by simpa [putCells] using hs, ?_⟩⟩
    · rw [heap_grow_old _ _ (by simp [Sort.ahead]; exact hlt)]
      simp [putRow, mapBlock, Sort.ahead, Array.getElem?_modify, hg, onCells]
    · apply List.ext_getElem?
      intro j
      rw [List.getElem?_take, Array.getElem?_toList]
      by_cases hj : j < n * size
      · have hjc : j < cur.size := by omega
        have hjF : j < F.size := by omega
        simp only [if_pos hj, putCells, Array.getElem?_mapIdx, Array.getElem?_eq_getElem hjc, Option.map_some]
        rw [if_pos (by omega)]
        simp [hjF]
      · rw [if_neg hj, List.getElem?_eq_none (by simp; omega)]

theorem grown_put (w : World) (g q : Nat) (F : Array Value) (os : Array Obj) : w.grownBy (grow (putRow id (Sort.ahead w q) g 0 F) os) (some g) :=
  ⟨rfl, rfl, rfl, by simp [grow, Sort.ahead, putRow, mapBlock], fun i hi hne => by
    have hgi : g ≠ i := fun e => hne (by rw [e])
    rw [heap_grow_old _ _ (by simp [Sort.ahead]; exact hi)]
    simp [putRow, mapBlock, Sort.ahead, Array.getElem?_modify, hgi]⟩

/-! the order of headers -/
theorem cmpL_range : ∀ l m : List Int, cmpL l m = -1 ∨ cmpL l m = 0 ∨ cmpL l m = 1
  | [], _ => by simp [cmpL]
  | _ :: _, [] => by simp [cmpL]
  | x :: xs, y :: ys => by
    unfold cmpL
    split
    · simp
    · split
      · simp
      · exact cmpL_range xs ys
theorem cmpL_neg_iff : ∀ {l m : List Int}, l.length = m.length → (cmpL l m < 0 ↔ l < m)
  | [], [], _ => by simp [cmpL]
  | x :: xs, y :: ys, h => by
    have ih := cmpL_neg_iff (l := xs) (m := ys) (by simpa using h)
    rw [List.cons_lt_cons_iff]
    unfold cmpL
    split
    · rename_i h1; simp [h1]
    · split
      · rename_i h1 h2
        have : x ≠ y := by omega
        simp [h1, this]
      · have : x = y := by omega
        subst this
        simp [ih]
theorem cmpL_swap : ∀ (l m : List Int), cmpL m l = - cmpL l m
  | [], [] => by simp [cmpL]
  | [], _ :: _ => by simp [cmpL]
  | _ :: _, [] => by simp [cmpL]
  | x :: xs, y :: ys => by
    unfold cmpL
    by_cases h1 : x < y
    · have : ¬ y < x := by omega
      simp [h1, this]
    · by_cases h2 : y < x
      · simp [h1, h2]
      · simp [h1, h2, cmpL_swap xs ys]
theorem cmpL_zero : ∀ {l m : List Int}, l.length = m.length → cmpL l m = 0 → l = m
  | [], [], _, _ => rfl
  | x :: xs, y :: ys, h, h0 => by
    unfold cmpL at h0
    split at h0
    · simp at h0
    · split at h0
      · simp at h0
      · have : x = y := by omega
        rw [this, cmpL_zero (by simpa using h) h0]
theorem cmpL_trans : ∀ {l m n : List Int}, l.length = m.length → m.length = n.length → cmpL l m < 0 → cmpL m n < 0 → cmpL l n < 0
  | [], [], [], _, _, h, _ => by simp [cmpL] at h
  | x :: xs, y :: ys, z :: zs, h1, h2, h3, h4 => by
    have ih := cmpL_trans (l := xs) (m := ys) (n := zs) (by simpa using h1) (by simpa using h2)
    unfold cmpL at h3 h4 ⊢
    by_cases a : x < y
    · by_cases b : y < z
      · rw [if_pos (by omega)]; omega
      · rw [if_neg b] at h4
        by_cases c : z < y
        · rw [if_pos c] at h4; omega
        · rw [if_pos (by omega)]; omega
    · rw [if_neg a] at h3
      by_cases a' : y < x
      · rw [if_pos a'] at h3; omega
      · rw [if_neg a'] at h3
        by_cases b : y < z
        · rw [if_pos (by omega)]; omega
        · rw [if_neg b] at h4
          by_cases c : z < y
          · rw [if_pos c] at h4; omega
          · rw [if_neg c] at h4
            rw [if_neg (by omega), if_neg (by omega)]
            exact ih h3 h4

def ltH (a b : Hdr) : Bool := decide (cmpH a b < 0)
theorem ltH_irrefl (a : Hdr) : ltH a a = false := by simp [ltH, cmpH, cmpL_self]
theorem cmpH_swap (a b : Hdr) : cmpH b a = - cmpH a b := cmpL_swap _ _
theorem cmpH_zero {a b : Hdr} (h : cmpH a b = 0) : a = b := Hdr.l_inj (cmpL_zero (by rw [a.length_l, b.length_l]) h)
theorem ltH_trans {a b c : Hdr} (h : ltH a b = true) (h' : ltH b c = true) : ltH a c = true := by
  simp only [ltH, decide_eq_true_eq] at *
  exact cmpL_trans (by rw [a.length_l, b.length_l]) (by rw [b.length_l, c.length_l]) h h'
theorem ltH_conn {a b : Hdr} (h : ltH a b = false) (h' : ltH b a = false) : a = b := by
  simp only [ltH, decide_eq_false_iff_not] at *
  rw [cmpH_swap] at h'
  exact cmpH_zero (by omega)
theorem ltH_asymm {a b : Hdr} (h : ltH a b = true) : ltH b a = false := by
  simp only [ltH, decide_eq_true_eq, decide_eq_false_iff_not] at *
  rw [cmpH_swap]
  omega
theorem swoH : SWO (ltOf cmpH) where
  irrefl x := ltH_irrefl x
  trans x y z h h' := ltH_trans h h'
  ntrans x y z h h' := by
    show ltH x z = false
    have h1 : ltH x y = false := h
    have h2 : ltH y z = false := h'
    cases hxz : ltH x z with
    | false => rfl
    | true =>
      cases hyx : ltH y x with
      | true => exact absurd (ltH_trans hyx hxz) (by simp [h2])
      | false =>
        have := ltH_conn h1 hyx
        subst this
        rw [hxz] at h2; cases h2

instance : Inhabited Hdr := ⟨Vector.replicate 11 0⟩
def sortH (l : List Hdr) : List Hdr := l.mergeSort fun x y => !ltH y x
def flatH (l : List Hdr) : List Value := l.flatMap fun h => h.cs.toList
theorem Hdr.len_cs (h : Hdr) : h.cs.toList.length = 11 := by simpa using h.size_cs

end Go.Proofs.YtehdddilcakmlaaDoor
