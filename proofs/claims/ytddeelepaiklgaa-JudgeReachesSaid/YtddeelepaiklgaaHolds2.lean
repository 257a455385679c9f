/- meaning.holds: whether a right predicate holds of a header. -/
import Derived.Test.YtddeelepaiklgaaHolds
import Derived.Test.YtddeelepaiklgaaSet
namespace Go.Proofs.Ytddeelepaiklgaa
open Go.RowKit

mutual
/-- does a right predicate hold of a header? -/
def Tm.holds : Tm → Hdr → Bool
  | .mk op f n ks, h => if op = 1 then true else if op = 2 then h.f f.toNat == n else if op = 3 then !(Tm.holdsHead ks h) else if op = 4 then Tm.holdsAll ks h else if op = 5 then Tm.holdsAny ks h else false
def Tm.holdsHead : List Tm → Hdr → Bool
  | [], _ => false
  | t :: _, h => t.holds h
def Tm.holdsAll : List Tm → Hdr → Bool
  | [], _ => true
  | t :: ts, h => t.holds h && Tm.holdsAll ts h
def Tm.holdsAny : List Tm → Hdr → Bool
  | [], _ => false
  | t :: ts, h => t.holds h || Tm.holdsAny ts h
end
theorem Tm.holdsAll_true {x : Hdr} : ∀ {ks : List Tm}, (∀ m (h : m < ks.length), (ks[m]).holds x = true) → Tm.holdsAll ks x = true
  | [], _ => rfl
  | t :: ts, hv => by
    have h0 := hv 0 (by simp)
    have h1 := Tm.holdsAll_true (x := x) (ks := ts) (fun m h => by have := hv (m + 1) (by simpa using h); rwa [List.getElem_cons_succ] at this)
    rw [List.getElem_cons_zero] at h0
    simp only [Tm.holdsAll, h0, h1, Bool.and_self]
theorem Tm.holdsAll_false {x : Hdr} : ∀ {ks : List Tm} (j : Nat) (h : j < ks.length), (ks[j]).holds x = false → Tm.holdsAll ks x = false
  | t :: ts, 0, _, hv => by rw [List.getElem_cons_zero] at hv; simp [Tm.holdsAll, hv]
  | t :: ts, j + 1, h, hv => by rw [List.getElem_cons_succ] at hv; simp [Tm.holdsAll, Tm.holdsAll_false j (by simpa using h) hv]
theorem Tm.holdsAny_false {x : Hdr} : ∀ {ks : List Tm}, (∀ m (h : m < ks.length), (ks[m]).holds x = false) → Tm.holdsAny ks x = false
  | [], _ => rfl
  | t :: ts, hv => by
    have h0 := hv 0 (by simp)
    have h1 := Tm.holdsAny_false (x := x) (ks := ts) (fun m h => by have := hv (m + 1) (by simpa using h); rwa [List.getElem_cons_succ] at this)
    rw [List.getElem_cons_zero] at h0
    simp only [Tm.holdsAny, h0, h1, Bool.or_self]
theorem Tm.holdsAny_true {x : Hdr} : ∀ {ks : List Tm} (j : Nat) (h : j < ks.length), (ks[j]).holds x = true → Tm.holdsAny ks x = true
  | t :: ts, 0, _, hv => by rw [List.getElem_cons_zero] at hv; simp [Tm.holdsAny, hv]
  | t :: ts, j + 1, h, hv => by rw [List.getElem_cons_succ] at hv; simp [Tm.holdsAny, Tm.holdsAny_true j (by simpa using h) hv]

theorem Tm.rightAll_get {p : Bool} : ∀ {ks : List Tm}, Tm.rightAll ks p = true → ∀ i (h : i < ks.length), (ks[i]).right p = true
  | t :: ts, hr, 0, _ => by
    simp only [Tm.rightAll, Bool.and_eq_true] at hr
    rw [List.getElem_cons_zero]; exact hr.1
  | t :: ts, hr, i + 1, h => by
    simp only [Tm.rightAll, Bool.and_eq_true] at hr
    rw [List.getElem_cons_succ]; exact Tm.rightAll_get hr.2 i (by simpa using h)

/-- what a right predicate looks like -/
theorem Tm.right_pred {op f n : Int} {ks : List Tm} (h : (Tm.mk op f n ks).right true = true) :
    (op = 0 ∨ op = 1) ∨ (op = 2 ∧ 0 ≤ f ∧ f ≤ 10) ∨ ((op = 3 ∨ op = 4 ∨ op = 5) ∧ 1 ≤ ks.length ∧ Tm.rightAll ks true = true) := by
  rw [Tm.right] at h
  by_cases h0 : op < 0 ∨ 10 < op
  · rw [if_pos h0] at h; cases h
  rw [if_neg h0] at h
  obtain ⟨k, rfl⟩ := Int.eq_ofNat_of_zero_le (a := op) (by omega)
  rw [Int.toNat_natCast] at h
  have hk : k < 11 := by omega
  match k, hk with
  | 0, _ => exact .inl (.inl rfl)
  | 1, _ => exact .inl (.inr rfl)
  | 2, _ =>
    refine .inr (.inl ⟨rfl, ?_⟩)
    simp only [wantsOf, bne_self_eq_false, Bool.false_eq_true, if_false, if_true] at h
    split at h
    · cases h
    split at h
    · cases h
    have hw : widthI f ≠ 0 := fun e => by
      rw [fieldB, e] at h
      simp [fieldK] at h
    unfold widthI at hw
    constructor
    · rcases Int.lt_or_le f 0 with hl | hl
      · exfalso; revert hw; repeat rw [if_neg (by omega)]
        simp
      · exact hl
    · rcases Int.lt_or_le 10 f with hl | hl
      · exfalso; revert hw; repeat rw [if_neg (by omega)]
        simp
      · exact hl
  | 3, _ | 4, _ | 5, _ =>
    refine .inr (.inr ⟨by omega, ?_⟩)
    simp only [wantsOf, bne_self_eq_false, Bool.false_eq_true, if_false] at h
    split at h
    · cases h
    rename_i h1
    split at h
    · cases h
    split at h
    · cases h
    exact ⟨by omega, h⟩
  | 6, _ | 7, _ | 8, _ | 9, _ | 10, _ => simp [wantsOf] at h

def kindF : Nat → Nat
  | 0 => 89
  | 1 => 90
  | 2 => 91
  | 3 => 92
  | 4 => 93
  | _ => 96

set_option maxHeartbeats 2000000 in
set_option maxRecDepth 100000 in
theorem kinds_any (k : Nat) (hk : k < 6) (w : World) : Calls Try.prog 74 #[.int .i8 k] w fun e w' => e = .returned (.agg #[.func (.func (kindF k)) #[] #[]]) ∧ Ext w w' := by
  match k, hk with
  | 0, _ | 1, _ | 2, _ | 3, _ | 4, _ | 5, _ =>
    go_enter Try.func74, Try.ntmps74
    go_wp2_with fail
    exact bodyPost_ret (v := .agg #[.func (.func _) #[] #[]]) (by simp [results, Try.results74, go_sem]; rfl) rfl ⟨rfl, (Ext.alloc _ _).andAlloc _⟩
end Go.Proofs.Ytddeelepaiklgaa
