/- policy.deep, size, big, Pred: whether terms are too many or too deep. -/
import Derived.Test.YtddeelepaiklgaaRight
namespace Go.Proofs.Ytddeelepaiklgaa
open Go.RowKit

mutual
def Tm.deep : Tm → Nat → Bool
  | _, 0 => true
  | .mk _ _ _ ks, k + 1 => Tm.deepAny ks k
def Tm.deepAny : List Tm → Nat → Bool
  | [], _ => false
  | t :: ts, k => t.deep k || Tm.deepAny ts k
end

theorem Tm.deepAny_true {k : Nat} : ∀ {ks : List Tm} (j : Nat) (h : j < ks.length), (ks[j]).deep k = true → Tm.deepAny ks k = true
  | t :: ts, 0, _, hv => by simp at hv; simp [Tm.deepAny, hv]
  | t :: ts, j + 1, h, hv => by simp [Tm.deepAny, Tm.deepAny_true j (by simpa using h) (by simpa using hv)]
theorem Tm.deepAny_false {k : Nat} : ∀ {ks : List Tm}, (∀ m (h : m < ks.length), (ks[m]).deep k = false) → Tm.deepAny ks k = false
  | [], _ => rfl
  | t :: ts, hv => by
    have h0 := hv 0 (by simp)
    have h1 := Tm.deepAny_false (k := k) (ks := ts) (fun m h => by have := hv (m + 1) (by simpa using h); rwa [List.getElem_cons_succ] at this)
    simp only [Tm.deepAny, h1, Bool.or_false]
    exact h0

set_option maxHeartbeats 400000 in
theorem deep_any (k : Nat) : ∀ (t : Tm) (w : World) (b o : Nat), k ≤ 128 → t.At w b o →
    Calls Try.prog 57 #[.pointer (some ⟨b, o, none⟩), .int .i64 k] w fun e w' => e = .returned (.bool (t.deep k)) ∧ w = w' := by
  induction k with
  | zero =>
    intro t w b o _ h
    go_enter Try.func57, Try.ntmps57
    go_wp2_with fail
    go_ret
    exact ⟨by simp [Tm.deep], rfl⟩
  | succ k ih =>
    intro t w b o hk h
    cases t with | mk op f n ks =>
    obtain ⟨_, _, _, _, _, _, p, len, cap, hc, hlen, hlc, hcm, hks⟩ := h
    obtain ⟨l, hl⟩ : ∃ l : Int, ((k + 1 : Nat) : Int) = l := ⟨_, rfl⟩
    rw [hl]
    have hl1 : 1 ≤ l := by omega
    have hl2 : l ≤ 128 := by omega
    have hz : (l == 0) = false := by simp; omega
    have Hl := Lib.hid hl
    clear hl
    have HL := Lib.hid hlen
    clear hlen
    go_enter Try.func57, Try.ntmps57
    go_wp2_with fail
    go_loop [13] (fun i => ∃ j : Nat, j ≤ len ∧ i = .int .i64 j ∧ Hid (∀ m (h : m < ks.length), m < j → (ks[m]).deep k = false)) (fun i => len - (intOf i).toNat)
    case atStart => exact ⟨0, Nat.zero_le _, rfl, fun m h hm => by omega⟩
    case round =>
      obtain ⟨j, hj, rfl, hd⟩ := hrel
      by_cases hlt : j < len
      · rcases hks with hks | ⟨b', o', rfl, hall⟩
        · exfalso; have := HL.out; subst hks; simp at this; omega
        have hjl : j < ks.length := by rw [← HL.out]; exact hlt
        have hat := Tm.AllAt_get hall j hjl
        have IH := Lib.hid (ih (ks[j]) w b' (o' + j * 4) (by omega) hat)
        rw [show ((k : Nat) : Int) = l - 1 from by have := Hl.out; omega] at IH
        go_wp2_with fail
        refine IH.out.mono ?_
        rintro e w' ⟨rfl, rfl⟩
        cases hv : (ks[j]).deep k with
        | true =>
          have HF := Lib.hid (Tm.deepAny_true j hjl hv)
          clear hv
          go_wp2_with fail
          go_ret
          exact ⟨by simp [Tm.deep, HF.out], rfl⟩
        | false =>
          have HF := Lib.hid hv
          clear hv
          go_wp2_with fail
          go_round
          case rel => exact ⟨j + 1, by omega, by go_num, fun m h hm => by
            rcases Nat.lt_succ_iff_lt_or_eq.1 hm with h1 | rfl
            · exact hd.out m h h1
            · exact HF.out⟩
          case measure => simp [intOf]; omega
      · have HF := Lib.hid (Tm.deepAny_false (fun m h => hd.out m h (by have := HL.out; omega)))
        go_wp2_with fail
        go_ret
        exact ⟨by simp [Tm.deep, HF.out], rfl⟩

mutual
def Tm.down : Tm → Int → Int
  | .mk _ _ _ ks, l => Tm.downAll ks (l - 1)
def Tm.downAll : List Tm → Int → Int
  | [], l => l
  | t :: ts, l => if l < 0 then l else Tm.downAll ts (t.down l)
end
mutual
theorem Tm.down_eq : ∀ (t : Tm) (l : Int), 0 ≤ l → t.down l = max (l - t.sz) (-1)
  | .mk op f n ks, l, hl => by
    rw [Tm.down, Tm.downAll_eq ks (l - 1) (by omega)]
    simp only [Tm.sz, Int.natCast_add]
    omega
theorem Tm.downAll_eq : ∀ (ks : List Tm) (l : Int), -1 ≤ l → Tm.downAll ks l = max (l - Tm.szAll ks) (-1)
  | [], l, hl => by
    simp only [Tm.downAll, Tm.szAll]
    omega
  | t :: ts, l, hl => by
    have hp := t.sz_pos
    simp only [Tm.szAll, Int.natCast_add]
    by_cases h : l < 0
    · rw [Tm.downAll, if_pos h]
      omega
    · rw [Tm.downAll, if_neg h, Tm.down_eq t l (by omega), Tm.downAll_eq ts _ (by omega)]
      omega
end
theorem Tm.down_ge (t : Tm) (l : Int) (hl : 0 ≤ l) : -1 ≤ t.down l ∧ t.down l ≤ l := by
  rw [t.down_eq l hl]
  omega
theorem Tm.downAll_take : ∀ (ks : List Tm) (l : Int) (j : Nat) (h : j < ks.length), 0 ≤ Tm.downAll (ks.take j) l → Tm.downAll (ks.take (j + 1)) l = (ks[j]).down (Tm.downAll (ks.take j) l)
  | t :: ts, l, 0, _, h0 => by
    rw [List.getElem_cons_zero]
    simp only [List.take_zero, Tm.downAll] at h0
    simp only [List.take_succ_cons, List.take_zero, Tm.downAll]
    rw [if_neg (by omega)]
  | t :: ts, l, j + 1, hj, h0 => by
    rw [List.getElem_cons_succ]
    simp only [List.take_succ_cons, Tm.downAll] at h0 ⊢
    split
    · rename_i hl; rw [if_pos hl] at h0; omega
    · rename_i hl; rw [if_neg hl] at h0
      exact Tm.downAll_take ts _ j (by simpa using hj) h0
theorem Tm.downAll_stop : ∀ (ks : List Tm) (l : Int) (j : Nat), Tm.downAll (ks.take j) l < 0 → Tm.downAll ks l = Tm.downAll (ks.take j) l
  | [], l, j, _ => by simp
  | t :: ts, l, 0, h => by simp only [List.take_zero, Tm.downAll] at h ⊢; rw [if_pos h]
  | t :: ts, l, j + 1, h => by
    simp only [List.take_succ_cons, Tm.downAll] at h ⊢
    split
    · rfl
    · rename_i hl; rw [if_neg hl] at h
      exact Tm.downAll_stop ts _ j h
theorem Tm.downAll_le (ks : List Tm) (l : Int) (hl : -1 ≤ l) : -1 ≤ Tm.downAll ks l ∧ Tm.downAll ks l ≤ l := by
  rw [Tm.downAll_eq ks l hl]
  omega

def downF (lb db : Nat) : Value := .func (.func 76) #[] #[.pointer (some ⟨lb, 0, none⟩), .pointer (some ⟨db, 0, none⟩)]

set_option maxHeartbeats 1000000 in
theorem down_aux (m : Nat) : ∀ (t : Tm) (l : Int) (b o lb db : Nat) (w0 w : World), t.sz ≤ m → 0 ≤ l → l ≤ 4096 → t.At w0 b o → Ext w0 w → w0.heap.size ≤ lb → w0.heap.size ≤ db → lb ≠ db →
    w.cell? ⟨lb, 0, none⟩ = some (.int .i64 l) → w.frozen? ⟨lb, 0, none⟩ = false → w.cell? ⟨db, 0, none⟩ = some (.func (.func 76) #[] #[.pointer (some ⟨lb, 0, none⟩), .pointer (some ⟨db, 0, none⟩)]) →
    Calls Try.prog 76 #[.pointer (some ⟨b, o, none⟩), .pointer (some ⟨lb, 0, none⟩), .pointer (some ⟨db, 0, none⟩)] w fun e w' => e = .returned (.tuple #[]) ∧ Ext w0 w' ∧
      w'.cell? ⟨lb, 0, none⟩ = some (.int .i64 (t.down l)) ∧ w'.frozen? ⟨lb, 0, none⟩ = false ∧ w'.cell? ⟨db, 0, none⟩ = some (.func (.func 76) #[] #[.pointer (some ⟨lb, 0, none⟩), .pointer (some ⟨db, 0, none⟩)]) := by
  induction m with
  | zero => intro t _ _ _ _ _ _ _ hm; have := t.sz_pos; omega
  | succ m ih =>
    intro t l b o lb db w0 w hm hl0 hl1 h hx hlb hdb hne cl fl cd
    cases t with | mk op f n ks =>
    have IH := Lib.hid ih
    have HM := Lib.hid (fun i h => Tm.sz_kid hm i h)
    clear ih hm
    obtain ⟨_, _, _, _, _, _, p, len, cap, c3, hlen, hlc, hcm, hks⟩ := h
    have HL := Lib.hid hlen
    clear hlen
    have hb := World.block_lt_of_cell? w0 _ c3
    have hbn : b ≠ lb := by simp at hb; omega
    have C3 := Lib.hid c3
    have d3 := hx.later _ _ c3
    have HX := Lib.hid hx
    go_enter Try.func76, Try.ntmps76
    go_wp2_with fail
    go_loopw [12] (fun i wr => ∃ j : Nat, j ≤ len ∧ i = .int .i64 j ∧ Ext w0 wr ∧ wr.cell? ⟨lb, 0, none⟩ = some (.int .i64 (Tm.downAll (ks.take j) (l - 1))) ∧ wr.frozen? ⟨lb, 0, none⟩ = false ∧
        wr.cell? ⟨db, 0, none⟩ = some (.func (.func 76) #[] #[.pointer (some ⟨lb, 0, none⟩), .pointer (some ⟨db, 0, none⟩)])) (fun i _ => len - (intOf i).toNat)
    case atStart => exact ⟨0, Nat.zero_le _, rfl, HX.out.andSet hlb _, by simp [Tm.downAll, World.cell?_setCell_same _ _ _ cl], by simpa using fl, by rw [World.cell?_setCell_other _ _ _ _ (by simp)]; exact cd⟩
    case round =>
      obtain ⟨j, hj, rfl, hxr, el, fl', ed⟩ := hrel
      have e3 := hxr.later _ _ C3.out
      have hle := Tm.downAll_le (ks.take j) (l - 1) (by omega)
      by_cases hlt : j < len
      · have hjl : j < ks.length := by rw [← HL.out]; exact hlt
        by_cases hneg : Tm.downAll (ks.take j) (l - 1) < 0
        · have HF := Lib.hid ((show (Tm.mk op f n ks).down l = _ from by rw [Tm.down]).trans (Tm.downAll_stop ks (l - 1) j hneg))
          generalize Tm.downAll (ks.take j) (l - 1) = x at *
          go_wp2_with fail
          refine bodyPost_ret (results_none rfl _ _ _) rfl ?_
          exact ⟨rfl, hxr, by rw [HF.out]; exact el, fl', ed⟩
        · have HT := Lib.hid (Tm.downAll_take ks (l - 1) j hjl (by omega))
          rcases hks with hks | ⟨b', o', rfl, hall⟩
          · exfalso; subst hks; simp at hjl
          have IHj := Lib.hid (IH.out (ks[j]) (Tm.downAll (ks.take j) (l - 1)) b' (o' + j * 4) lb db w0 wr.drew (HM.out j hjl) (by omega) (by omega) (Tm.AllAt_get hall j hjl) hxr.andDrew hlb hdb hne el fl' ed)
          generalize Tm.downAll (ks.take j) (l - 1) = x at *
          generalize (ks[j]).down x = y at *
          go_wp2_with fail
          go_region_held3 (fun w' => w'.cell? ⟨b, o + 3, none⟩ = some (.slice (some ⟨b', o', none⟩) len cap) ∧ w'.cell? ⟨db, 0, none⟩ = some (.func (.func 76) #[] #[.pointer (some ⟨lb, 0, none⟩), .pointer (some ⟨db, 0, none⟩)])) (first | exact ⟨hx'.later _ _ C3.out, ed'⟩ | go_keep) (first | (go_at_call 76; refine IHj.out.mono ?_; rintro e w' ⟨rfl, hx', el', fl'', ed'⟩))
          all_goals
            go_wp2_with fail
            go_roundw
            case rel => exact ⟨j + 1, by omega, by go_num, hx', by rw [HT.out]; exact el', fl'', ed'⟩
            case measure => simp [intOf]; omega
      · have HF := Lib.hid (show (Tm.mk op f n ks).down l = Tm.downAll (ks.take j) (l - 1) from by rw [Tm.down, List.take_of_length_le (by have := HL.out; omega)])
        go_wp2_with fail
        go_end0
        exact ⟨rfl, hxr, by rw [HF.out]; exact el, fl', ed⟩

theorem Tm.downAll_take' (ks : List Tm) (l : Int) (j : Nat) (h : j < ks.length) : Tm.downAll (ks.take (j + 1)) l = if 0 ≤ Tm.downAll (ks.take j) l then (ks[j]).down (Tm.downAll (ks.take j) l) else Tm.downAll (ks.take j) l := by
  split
  · exact Tm.downAll_take ks l j h (by assumption)
  · rename_i hn
    rw [← Tm.downAll_stop ks l j (by omega)]
    have : Tm.downAll ((ks.take (j + 1)).take j) l < 0 := by rw [List.take_take, Nat.min_eq_left (by omega)]; omega
    rw [Tm.downAll_stop (ks.take (j + 1)) l j this, List.take_take, Nat.min_eq_left (by omega), ← Tm.downAll_stop ks l j (by omega)]

set_option maxHeartbeats 1000000 in
theorem size_any (ks : List Tm) (v : Value) (w : World) (hv : Tms w ks v) :
    Calls Try.prog 56 #[.int .i64 4096, v] w fun e w' => e = .returned (.int .i64 (Tm.downAll ks 4096)) ∧ Ext w w' := by
  obtain ⟨p, len, cap, rfl, hlen, hlc, hcm, hks⟩ := hv
  have HL := Lib.hid hlen
  clear hlen
  go_enter Try.func56, Try.ntmps56
  go_wp2_with fail
  go_loopw [10] (fun i wr => ∃ j : Nat, j ≤ len ∧ i = .int .i64 j ∧ Ext w wr ∧ wr.cell? ⟨w.heap.size, 0, none⟩ = some (.int .i64 (Tm.downAll (ks.take j) 4096)) ∧ wr.frozen? ⟨w.heap.size, 0, none⟩ = false ∧
        wr.cell? ⟨w.heap.size + 1, 0, none⟩ = some (.func (.func 76) #[] #[.pointer (some ⟨w.heap.size, 0, none⟩), .pointer (some ⟨w.heap.size + 1, 0, none⟩)])) (fun i _ => len - (intOf i).toNat)
  case atStart => exact ⟨0, Nat.zero_le _, rfl, (Ext.alloc _ _).andAlloc _, by simp [Tm.downAll, go_sem], by simp [go_sem], by simp [go_sem]⟩
  case round =>
    obtain ⟨j, hj, rfl, hxr, el, fl, ed⟩ := hrel
    have hle := Tm.downAll_le (ks.take j) 4096 (by omega)
    by_cases hlt : j < len
    · have hjl : j < ks.length := by rw [← HL.out]; exact hlt
      rcases hks with hks | ⟨b', o', rfl, hall⟩
      · exfalso; subst hks; simp at hjl
      have HT := Lib.hid (Tm.downAll_take' ks 4096 j hjl)
      by_cases hneg : Tm.downAll (ks.take j) 4096 < 0
      · have HF := Lib.hid (HT.out.trans (if_neg (by omega)))
        generalize Tm.downAll (ks.take j) 4096 = x at *
        go_wp2_with fail
        go_roundw
        case rel => exact ⟨j + 1, by omega, by go_num, hxr, by rw [HF.out]; exact el, fl, ed⟩
        case measure => simp [intOf]; omega
      · have HF := Lib.hid (HT.out.trans (if_pos (by omega)))
        have IHj := Lib.hid (down_aux (ks[j]).sz (ks[j]) (Tm.downAll (ks.take j) 4096) b' (o' + j * 4) w.heap.size (w.heap.size + 1) w wr.drew (Nat.le_refl _) (by omega) (by omega) (Tm.AllAt_get hall j hjl) hxr.andDrew (Nat.le_refl _) (by omega) (by omega) el fl ed)
        generalize Tm.downAll (ks.take j) 4096 = x at *
        generalize (ks[j]).down x = y at *
        go_wp2_with fail
        go_region_held3 (fun w' => w'.cell? ⟨w.heap.size + 1, 0, none⟩ = some (.func (.func 76) #[] #[.pointer (some ⟨w.heap.size, 0, none⟩), .pointer (some ⟨w.heap.size + 1, 0, none⟩)])) (first | exact ed' | go_keep) (first | (go_at_call 76; refine IHj.out.mono ?_; rintro e w' ⟨rfl, hx', el', fl'', ed'⟩))
        all_goals
          go_wp2_with fail
          go_roundw
          case rel => exact ⟨j + 1, by omega, by go_num, hx', by rw [HF.out]; exact el', fl'', ed'⟩
          case measure => simp [intOf]; omega
    · have HF := Lib.hid (show Tm.downAll ks 4096 = Tm.downAll (ks.take j) 4096 from by rw [List.take_of_length_le (by have := HL.out; omega)])
      go_wp2_with fail
      go_ret
      exact ⟨by rw [HF.out]; rfl, hxr⟩

/-- are terms too many, or too deep? -/
def bigB (ks : List Tm) : Bool := decide (Tm.downAll ks 4096 < 0) || Tm.deepAny ks 128
theorem bigB_deep {ks : List Tm} (h : ¬ Tm.downAll ks 4096 < 0) : bigB ks = Tm.deepAny ks 128 := by simp [bigB, h]

set_option maxHeartbeats 1000000 in
theorem big_any (ks : List Tm) (v : Value) (w : World) (hv : Tms w ks v) :
    Calls Try.prog 37 #[v] w fun e w' => e = .returned (.bool (bigB ks)) ∧ Ext w w' := by
  have HS := Lib.hid (size_any ks v w hv)
  obtain ⟨p, len, cap, rfl, hlen, hlc, hcm, hks⟩ := hv
  have HL := Lib.hid hlen
  clear hlen
  go_enter Try.func37, Try.ntmps37
  go_wp2_with fail
  refine HS.out.mono ?_
  rintro e w1 ⟨rfl, hx⟩
  by_cases hneg : Tm.downAll ks 4096 < 0
  · have HF := Lib.hid (show bigB ks = true from by simp [bigB, hneg])
    generalize Tm.downAll ks 4096 = x at *
    go_wp2_with fail
    go_ret
    exact ⟨by rw [HF.out]; rfl, hx⟩
  have HB := Lib.hid (bigB_deep hneg)
  generalize Tm.downAll ks 4096 = x at *
  go_wp2_with fail
  go_loop [9] (fun i => ∃ j : Nat, j ≤ len ∧ i = .int .i64 j ∧ Hid (∀ m (h : m < ks.length), m < j → (ks[m]).deep 128 = false)) (fun i => len - (intOf i).toNat)
  case atStart => exact ⟨0, Nat.zero_le _, rfl, fun m h hm => by omega⟩
  case round =>
    obtain ⟨j, hj, rfl, hd⟩ := hrel
    by_cases hlt : j < len
    · have hjl : j < ks.length := by rw [← HL.out]; exact hlt
      rcases hks with hks | ⟨b', o', rfl, hall⟩
      · exfalso; subst hks; simp at hjl
      have IH := Lib.hid (deep_any 128 (ks[j]) w1 b' (o' + j * 4) (by omega) ((Tm.AllAt_get hall j hjl).later hx.later))
      go_wp2_with fail
      refine IH.out.mono ?_
      rintro e w' ⟨rfl, rfl⟩
      cases hv : (ks[j]).deep 128 with
      | true =>
        have HF := Lib.hid (HB.out.trans (Tm.deepAny_true j hjl hv))
        clear hv
        go_wp2_with fail
        go_ret
        exact ⟨by rw [HF.out]; rfl, hx⟩
      | false =>
        have HF := Lib.hid hv
        clear hv
        go_wp2_with fail
        go_round
        case rel => exact ⟨j + 1, by omega, by go_num, fun m h hm => by
          rcases Nat.lt_succ_iff_lt_or_eq.1 hm with h1 | rfl
          · exact hd.out m h h1
          · exact HF.out⟩
        case measure => simp [intOf]; omega
    · have HF := Lib.hid (HB.out.trans (Tm.deepAny_false (fun m h => hd.out m h (by have := HL.out; omega))))
      go_wp2_with fail
      go_ret
      exact ⟨by rw [HF.out]; rfl, hx⟩
end Go.Proofs.Ytddeelepaiklgaa
