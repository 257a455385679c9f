/- What a policy makes of a header, in plain words: with the bounds on sets, rounds and work. -/
import Derived.Test.YtddeelepaiklgaaHolds2
import Derived.Test.YtddeelepaiklgaaSetp
namespace Go.Proofs.Ytddeelepaiklgaa

/-- one header more; none: too many -/
def putM (l : List Hdr) (x : Hdr) : Option (List Hdr) := if x ∈ l then some l else if l.length < 64 then some (l ++ [x]) else none
def putAll : List Hdr → List Hdr → Option (List Hdr)
  | l, [] => some l
  | l, x :: xs => (putM l x).bind fun l' => putAll l' xs
/-- what F makes of many headers, gathered -/
def gather (F : Hdr → Int → Option (List Hdr × Int)) : List Hdr → List Hdr → Int → Option (List Hdr × Int)
  | [], S, c => some (S, c)
  | x :: xs, S, c => (F x c).bind fun r => (putAll S r.1).bind fun S' => gather F xs S' r.2
def allF (F : Hdr → Int → Option (List Hdr × Int)) (l : List Hdr) (c : Int) : Option (List Hdr × Int) := (gather F l [] c).map fun r => (sortH r.1, r.2)
/-- a round's new ones -/
def starPut : List Hdr → List Hdr → List Hdr → Option (List Hdr × List Hdr)
  | S, nx, [] => some (S, nx)
  | S, nx, x :: xs => if x ∈ S then starPut S nx xs else if S.length < 64 then starPut (S ++ [x]) (nx ++ [x]) xs else none
def starF (F : Hdr → Int → Option (List Hdr × Int)) : Nat → List Hdr → List Hdr → Int → Option (List Hdr × Int)
  | 0, _, _, _ => none
  | r + 1, S, fresh, c => (allF F fresh c).bind fun a => (starPut S [] a.1).bind fun p => if p.2 = [] then some (sortH p.1, a.2) else starF F r p.1 p.2 a.2
def askM (c k : Int) : Option Int := if c + k ≤ 65536 then some (c + k) else none

mutual
def Tm.ofT : Tm → Hdr → Int → Option (List Hdr × Int)
  | .mk op f n ks, x, c =>
    if op = 6 then (askM c (Tm.szAll ks + 1 : Nat)).bind fun c' => some (if Tm.holdsHead ks x then [x] else [], c')
    else if op = 7 then (askM c 1).bind fun c' => some ([x.put f.toNat n], c')
    else if op = 9 then Tm.thenT ks [x] c
    else if op = 10 then Tm.starT ks x c
    else (Tm.unionT ks x [] c).map fun r => (sortH r.1, r.2)
def Tm.thenT : List Tm → List Hdr → Int → Option (List Hdr × Int)
  | [], l, c => some (l, c)
  | t :: ts, l, c => (allF (fun x c => t.ofT x c) l c).bind fun r => Tm.thenT ts r.1 r.2
def Tm.starT : List Tm → Hdr → Int → Option (List Hdr × Int)
  | [], _, _ => none
  | t :: _, x, c => starF (fun x c => t.ofT x c) 64 [x] [x] c
def Tm.unionT : List Tm → Hdr → List Hdr → Int → Option (List Hdr × Int)
  | [], _, S, c => some (S, c)
  | t :: ts, x, S, c => (t.ofT x c).bind fun r => (putAll S r.1).bind fun S' => Tm.unionT ts x S' r.2
end

theorem putM_len {l l' : List Hdr} {x : Hdr} (h : putM l x = some l') (hl : l.length ≤ 64) : l'.length ≤ 64 := by
  unfold putM at h
  split at h
  · cases h; exact hl
  · split at h
    · cases h; simp; omega
    · cases h

/-- what a right policy looks like -/
theorem Tm.right_pol {op f n : Int} {ks : List Tm} (h : (Tm.mk op f n ks).right false = true) :
    (op = 6 ∧ ks.length = 1 ∧ Tm.rightAll ks true = true) ∨ (op = 7 ∧ 0 ≤ f ∧ f ≤ 10) ∨ (op = 10 ∧ ks.length = 1 ∧ Tm.rightAll ks false = true) ∨ ((op = 8 ∨ op = 9) ∧ 1 ≤ ks.length ∧ Tm.rightAll ks false = true) := by
  rw [Tm.right] at h
  by_cases h0 : op < 0 ∨ 10 < op
  · rw [if_pos h0] at h; cases h
  rw [if_neg h0] at h
  obtain ⟨k, rfl⟩ := Int.eq_ofNat_of_zero_le (a := op) (by omega)
  rw [Int.toNat_natCast] at h
  have hk : k < 11 := by omega
  match k, hk with
  | 0, _ | 1, _ | 2, _ | 3, _ | 4, _ | 5, _ => simp [wantsOf] at h
  | 6, _ =>
    refine .inl ⟨rfl, ?_⟩
    simp only [wantsOf, bne_self_eq_false, Bool.false_eq_true, if_false] at h
    split at h
    · cases h
    rename_i h1
    split at h
    · cases h
    rename_i h2
    split at h
    · cases h
    exact ⟨by omega, h⟩
  | 7, _ =>
    refine .inr (.inl ⟨rfl, ?_⟩)
    simp only [wantsOf, bne_self_eq_false, Bool.false_eq_true, if_false, if_true] at h
    split at h
    · cases h
    split at h
    · cases h
    have hw : widthI f ≠ 0 := fun e => by
      rw [fieldB, e] at h
      simp [fieldK] at h
    unfold widthI at hw
    constructor
    · rcases Int.lt_or_le f 0 with hl | hl
      · exfalso; revert hw; repeat rw [if_neg (by omega)]
        simp
      · exact hl
    · rcases Int.lt_or_le 10 f with hl | hl
      · exfalso; revert hw; repeat rw [if_neg (by omega)]
        simp
      · exact hl
  | 8, _ | 9, _ =>
    refine .inr (.inr (.inr ⟨by omega, ?_⟩))
    simp only [wantsOf, bne_self_eq_false, Bool.false_eq_true, if_false] at h
    split at h
    · cases h
    rename_i h1
    split at h
    · cases h
    split at h
    · cases h
    exact ⟨by omega, h⟩
  | 10, _ =>
    refine .inr (.inr (.inl ⟨rfl, ?_⟩))
    simp only [wantsOf, bne_self_eq_false, Bool.false_eq_true, if_false] at h
    split at h
    · cases h
    rename_i h1
    split at h
    · cases h
    rename_i h2
    split at h
    · cases h
    exact ⟨by omega, h⟩
end Go.Proofs.Ytddeelepaiklgaa
