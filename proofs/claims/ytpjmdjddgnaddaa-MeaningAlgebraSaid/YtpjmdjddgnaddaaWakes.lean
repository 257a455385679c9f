/- wakes: what the document says of a short star. -/
import Derived.Test.YtpjmdjddgnaddaaTwo
namespace Go.Proofs.Ytpjmdjddgnaddaa
open Go.RowKit Go.Maps

def insH (x : Hdr) : List Hdr → List Hdr
  | [] => [x]
  | y :: ys => if ltH y x then y :: insH x ys else x :: y :: ys
def isortH : List Hdr → List Hdr
  | [] => []
  | x :: xs => insH x (isortH xs)
theorem insH_perm (x : Hdr) : ∀ l, (insH x l).Perm (x :: l)
  | [] => .refl _
  | y :: ys => by
    unfold insH
    split
    · exact ((insH_perm x ys).cons y).trans (.swap x y ys)
    · exact .refl _
theorem isortH_perm : ∀ l, (isortH l).Perm l
  | [] => .refl _
  | x :: xs => (insH_perm x _).trans ((isortH_perm xs).cons x)
theorem insH_sorted (x : Hdr) : ∀ l, l.Pairwise (fun a b => (!ltH b a) = true) → (insH x l).Pairwise fun a b => (!ltH b a) = true
  | [], _ => by simp [insH]
  | y :: ys, h => by
    unfold insH
    have hy := List.pairwise_cons.1 h
    split
    · rename_i hlt
      refine List.pairwise_cons.2 ⟨fun z hz => ?_, insH_sorted x ys hy.2⟩
      rcases List.mem_cons.1 ((insH_perm x ys).mem_iff.1 hz) with rfl | hz
      · simp [ltH_asymm hlt]
      · exact hy.1 z hz
    · rename_i hlt
      refine List.pairwise_cons.2 ⟨fun z hz => ?_, h⟩
      rcases List.mem_cons.1 hz with rfl | hz
      · simpa using hlt
      · exact leH_trans _ _ _ (by simpa using hlt) (hy.1 z hz)
theorem isortH_sorted : ∀ l, (isortH l).Pairwise fun a b => (!ltH b a) = true
  | [] => List.Pairwise.nil
  | x :: xs => insH_sorted x _ (isortH_sorted xs)
theorem sortH_eq : sortH = isortH := funext fun l => eq_of_sorted (sortH_sorted l) (isortH_sorted l) ((sortH_perm l).trans (isortH_perm l).symm)

/-- the plain meaning over any way to sort -/
def allS (S : List Hdr → List Hdr) (F : Hdr → Int → Option (List Hdr × Int)) (l : List Hdr) (c : Int) : Option (List Hdr × Int) := (gather F l [] c).map fun r => (S r.1, r.2)
def starS (S : List Hdr → List Hdr) (F : Hdr → Int → Option (List Hdr × Int)) : Nat → List Hdr → List Hdr → Int → Option (List Hdr × Int)
  | 0, _, _, _ => none
  | r + 1, S', fresh, c => (allS S F fresh c).bind fun a => (starPut S' [] a.1).bind fun p => if p.2 = [] then some (S p.1, a.2) else starS S F r p.1 p.2 a.2
mutual
def Tm.ofS (S : List Hdr → List Hdr) : Tm → Hdr → Int → Option (List Hdr × Int)
  | .mk op f n ks, x, c =>
    if op = 6 then (askM c (Tm.szAll ks + 1 : Nat)).bind fun c' => some (if Tm.holdsHead ks x then [x] else [], c')
    else if op = 7 then (askM c 1).bind fun c' => some ([x.put f.toNat n], c')
    else if op = 9 then Tm.thenS S ks [x] c
    else if op = 10 then Tm.starsS S ks x c
    else (Tm.unionS S ks x [] c).map fun r => (S r.1, r.2)
def Tm.thenS (S : List Hdr → List Hdr) : List Tm → List Hdr → Int → Option (List Hdr × Int)
  | [], l, c => some (l, c)
  | t :: ts, l, c => (allS S (fun x c => t.ofS S x c) l c).bind fun r => Tm.thenS S ts r.1 r.2
def Tm.starsS (S : List Hdr → List Hdr) : List Tm → Hdr → Int → Option (List Hdr × Int)
  | [], _, _ => none
  | t :: _, x, c => starS S (fun x c => t.ofS S x c) 64 [x] [x] c
def Tm.unionS (S : List Hdr → List Hdr) : List Tm → Hdr → List Hdr → Int → Option (List Hdr × Int)
  | [], _, T, c => some (T, c)
  | t :: ts, x, T, c => (t.ofS S x c).bind fun r => (putAll T r.1).bind fun S' => Tm.unionS S ts x S' r.2
end
theorem starS_eq (F : Hdr → Int → Option (List Hdr × Int)) : ∀ r l f c, starS sortH F r l f c = starF F r l f c
  | 0, _, _, _ => rfl
  | r + 1, l, f, c => by simp only [starS, starF, allS, allF, starS_eq F r]
mutual
theorem Tm.ofS_eq : ∀ (t : Tm) x c, t.ofS sortH x c = t.ofT x c
  | .mk op f n ks, x, c => by simp only [Tm.ofS, Tm.ofT, Tm.thenS_eq ks, Tm.starsS_eq ks, Tm.unionS_eq ks]
theorem Tm.thenS_eq : ∀ (ks : List Tm) l c, Tm.thenS sortH ks l c = Tm.thenT ks l c
  | [], _, _ => by simp only [Tm.thenS, Tm.thenT]
  | t :: ts, l, c => by simp only [Tm.thenS, Tm.thenT, allS, allF, Tm.ofS_eq t, Tm.thenS_eq ts]
theorem Tm.starsS_eq : ∀ (ks : List Tm) x c, Tm.starsS sortH ks x c = Tm.starT ks x c
  | [], _, _ => by simp only [Tm.starsS, Tm.starT]
  | t :: ts, l, c => by simp only [Tm.starsS, Tm.starT, starS_eq, Tm.ofS_eq t]
theorem Tm.unionS_eq : ∀ (ks : List Tm) x T c, Tm.unionS sortH ks x T c = Tm.unionT ks x T c
  | [], _, _, _ => by simp only [Tm.unionS, Tm.unionT]
  | t :: ts, x, T, c => by simp only [Tm.unionS, Tm.unionT, Tm.ofS_eq t, Tm.unionS_eq ts]
end

def stepT (a b : Int) : Tm := .mk 9 0 0 [.mk 6 0 0 [.mk 2 9 a []], .mk 7 9 b []]
def wakesT : Tm := .mk 10 0 0 [.mk 8 0 0 [stepT 1 2, stepT 2 3]]
def hz : Hdr := Vector.replicate 11 0
def wakesL : List Hdr := [hz.put 9 1, hz.put 9 2, hz.put 9 3]
theorem wakesT_check : checkT wakesT = 0 := by kernel_rfl
theorem wakesT_of : (wakesT.ofS isortH (hz.put 9 1) 0).map (·.1) = some wakesL := by kernel_rfl
theorem ofC_wakes : ofC wakesT (hz.put 9 1) = (0, wakesL) := by
  unfold ofC
  rw [if_pos wakesT_check, ← Tm.ofS_eq, sortH_eq]
  have := wakesT_of
  cases h : wakesT.ofS isortH (hz.put 9 1) 0 with
  | none => rw [h] at this; cases this
  | some r => rw [h] at this; simp at this; show (0, r.1) = _; rw [this]
theorem hz1 : (hz.put 9 1).cs = #[.int .u64 0, .int .u64 0, .int .u64 0, .int .u64 0, .int .u64 0, .int .u64 0, .int .u64 0, .int .u64 0, .int .u64 0, .int .u64 1, .int .u64 0] := by kernel_rfl
theorem hz0 : hz.cs = #[.int .u64 0, .int .u64 0, .int .u64 0, .int .u64 0, .int .u64 0, .int .u64 0, .int .u64 0, .int .u64 0, .int .u64 0, .int .u64 0, .int .u64 0] := by kernel_rfl
theorem yes_holds : holdsT (.mk 1 0 0 []) hz = true := by kernel_rfl

set_option maxRecDepth 100000 in
set_option maxHeartbeats 4000000 in
theorem wakes_any (w : World) : Calls Try.prog 13 #[] w fun e w' => e = .returned (.bool true) ∧ Ext w w' := by
  go_enter Try.func13, Try.ntmps13
  go_wp2_with fail
  refine (show Calls Try.prog 29 #[.int .u64 1, .int .u64 2] w fun e w' => ∃ v, e = .returned v ∧ (stepT 1 2).Val w' v ∧ Ext w w' from step_any 1 2 w (by omega) (by omega)).mono ?_
  rintro e w1 ⟨v1, rfl, hv1, hx1⟩
  have HV1 := Lib.hid hv1
  obtain ⟨p1, l1, c1, rfl⟩ := hv1.cs
  clear hv1
  go_wp2_with fail
  refine (show Calls Try.prog 29 #[.int .u64 2, .int .u64 3] w1 fun e w' => ∃ v, e = .returned v ∧ (stepT 2 3).Val w' v ∧ Ext w1 w' from step_any 2 3 w1 (by omega) (by omega)).mono ?_
  rintro e w2 ⟨v2, rfl, hv2, hx2⟩
  have HV2 := Lib.hid hv2
  obtain ⟨p2, l2, c2, rfl⟩ := hv2.cs
  clear hv2
  have hu := val_mk (op := 8) (f := 0) (n := 0) (by omega) (by omega) (by omega) _ 2 2 rfl (by omega) (by omega) (allAt_two (HV1.out.later hx2.later) HV2.out 26)
  have hs := val_mk (op := 10) (f := 0) (n := 0) (by omega) (by omega) (by omega) _ 1 1 rfl (by omega) (by omega) (allAt_one hu 26)
  rw [World.size_alloc] at hs
  have hC := meaningOf_any wakesT _ (hz.put 9 1) _ hs
  rw [ofC_wakes, hz1] at hC
  have HC := Lib.hid hC
  clear hu hs hC
  go_wp2_with fail
  refine HC.out.mono ?_
  rintro e w3 ⟨hx3, -, s3, rfl, hown⟩
  rcases hown.2 with ⟨rfl, h0⟩ | ⟨g, cap, cur, rfl, _⟩
  · cases h0
  have hr := ownsRow_range hown
  have hc9 : w3.cell? ⟨g, 9, none⟩ = some (.int .u64 1) := hr 9 _ (by kernel_rfl)
  have hc31 : w3.cell? ⟨g, 31, none⟩ = some (.int .u64 3) := hr 31 _ (by kernel_rfl)
  have hH := Holds_any (.mk 1 0 0 []) _ hz w3 (val_leaf (by omega) (by omega) (by omega))
  rw [yes_holds, hz0] at hH
  have HH := Lib.hid hH
  have hl3 : wakesL.length = 3 := rfl
  rw [hl3]
  clear hown hr hH hl3
  go_wp2_with fail
  refine HH.out.mono ?_
  rintro e w4 ⟨rfl, hx4⟩
  go_wp2_with fail
  go_ret
  exact ⟨rfl, (((hx1.trans hx2).andAlloc _).andAlloc _ |>.trans hx3).trans hx4⟩
end Go.Proofs.Ytpjmdjddgnaddaa
