/- The plain law of NodesAgain: what was made is found again. -/
import Derived.Test.YtehdddilcakmlaaDoorNOnceP
namespace Go.Proofs.YtehdddilcakmlaaDoor
open Go.RowKit Go.Sort Go.Maps Go.Lib
set_option linter.unusedSimpArgs false

def actP (L : List NdD) (x : ActD) : (Int × Int) × List NdD := if x.d = 0 then leafP L x.rows else testP L x.f x.n x.hi x.lo
theorem findN_app {L M : List NdD} {x : NdD} {i : Nat} (h : findN L x = some i) : findN (L ++ M) x = some i := by
  unfold findN at *
  rw [List.findIdx?_append, h]
  rfl
theorem findN_snoc {L : List NdD} {x : NdD} (h : findN L x = none) : findN (L ++ [x]) x = some L.length := by
  unfold findN at *
  rw [List.findIdx?_append, h]
  simp [List.findIdx?_cons]
theorem putN_pre (L : List NdD) (x : NdD) : L <+: (putN L x).2 := by
  rcases putN_cases L x with e | e <;> rw [e]
  · exact List.prefix_refl _
  · exact List.prefix_append _ _
theorem putN_again {L M : List NdD} {x : NdD} {a : Int} (h : (putN L x).1 = (a, 0)) (hp : (putN L x).2 <+: M) : putN M x = ((a, 0), M) := by
  have key : ∀ i : Nat, findN M x = some i → (i : Int) = a → putN M x = ((a, 0), M) := fun i hi e => by
    unfold putN; rw [hi, ← e]
  unfold putN at h hp
  cases hf : findN L x with
  | some i =>
    rw [hf] at h hp
    obtain ⟨t, rfl⟩ := hp
    exact key i (findN_app hf) (Prod.mk.inj h).1
  | none =>
    rw [hf] at h hp
    dsimp only at h hp
    unfold addN at h hp
    split at h
    · exact absurd (Prod.mk.inj h).2 (by decide)
    · rename_i hb
      rw [if_neg hb] at hp
      obtain ⟨t, rfl⟩ := hp
      exact key L.length (findN_app (findN_snoc hf)) (Prod.mk.inj h).1
theorem leafP_pre (L : List NdD) (r : List RowD) : L <+: (leafP L r).2 := by
  rcases leafP_cases L r with e | ⟨s, e⟩ <;> rw [e]
  · exact List.prefix_refl _
  · exact List.prefix_append _ _
theorem testP_pre (L : List NdD) (f n hi lo : Int) : L <+: (testP L f n hi lo).2 := by
  rcases testP_cases L f n hi lo with e | ⟨e, -⟩ <;> rw [e]
  · exact List.prefix_refl _
  · exact List.prefix_append _ _
theorem leafP_again {L M : List NdD} {r : List RowD} {a : Int} (h : (leafP L r).1 = (a, 0)) (hp : (leafP L r).2 <+: M) : leafP M r = ((a, 0), M) := by
  unfold leafP at *
  cases hr : rowsP r with
  | none => rw [hr] at h; exact absurd (Prod.mk.inj h).2 (by decide)
  | some s =>
    rw [hr] at h hp
    dsimp only at h hp ⊢
    split at h
    · exact absurd (Prod.mk.inj h).2 (by decide)
    · rename_i hb
      rw [if_neg hb] at hp ⊢
      exact putN_again h hp
theorem pre_get {L M : List NdD} (hp : L <+: M) {i : Nat} {x : NdD} (h : L[i]? = some x) : M[i]? = some x := by
  obtain ⟨t, rfl⟩ := hp
  rw [List.getElem?_append_left (List.getElem?_eq_some_iff.1 h).1]
  exact h
theorem testP_again {L M : List NdD} {f n hi lo : Int} {a : Int} (h : (testP L f n hi lo).1 = (a, 0)) (hp : (testP L f n hi lo).2 <+: M) : testP M f n hi lo = ((a, 0), M) := by
  have hLM := (testP_pre L f n hi lo).trans hp
  have hlen := hLM.length_le
  unfold testP at *
  split at h
  · rename_i hc
    rw [if_pos hc] at hp
    rw [if_pos ⟨hc.1, ⟨hc.2.1.1, by omega⟩, ⟨hc.2.2.1, by omega⟩⟩]
    split at h
    · rename_i hh ll h1 h2
      rw [h1, h2] at hp
      rw [pre_get hLM h1, pre_get hLM h2]
      dsimp only at hp ⊢
      split at h
      · exact absurd (Prod.mk.inj h).2 (by decide)
      · rename_i hb
        rw [if_neg hb] at hp ⊢
        split at h
        · rename_i he
          rw [if_pos he]
          rw [(Prod.mk.inj h).1]
        · rename_i he
          rw [if_neg he] at hp ⊢
          exact putN_again h hp
    · exact absurd (Prod.mk.inj h).2 (by decide)
  · exact absurd (Prod.mk.inj h).2 (by decide)
theorem actP_pre (L : List NdD) (x : ActD) : L <+: (actP L x).2 := by
  unfold actP
  split
  · exact leafP_pre _ _
  · exact testP_pre _ _ _ _ _
theorem actP_again {L M : List NdD} {x : ActD} {a : Int} (h : (actP L x).1 = (a, 0)) (hp : (actP L x).2 <+: M) : actP M x = ((a, 0), M) := by
  unfold actP at *
  split at h
  · rename_i hd
    rw [if_pos hd] at hp ⊢
    exact leafP_again h hp
  · rename_i hd
    rw [if_neg hd] at hp ⊢
    exact testP_again h hp
/-- the answers of acts, and the store behind them -/
def runS (S : List (Int × Int) × List NdD) (x : ActD) : List (Int × Int) × List NdD := (S.1 ++ [(actP S.2 x).1], (actP S.2 x).2)
def runA (l : List ActD) : List (Int × Int) × List NdD := l.foldl runS ([], [])
theorem run_inv : ∀ (l : List ActD) (S : List (Int × Int) × List NdD) (pre : List ActD), S.1.length = pre.length →
    (∀ (k : Nat) (a : Int), S.1[k]? = some (a, 0) → ∀ x, pre[k]? = some x → ∀ M, S.2 <+: M → actP M x = ((a, 0), M)) →
    (l.foldl runS S).1.length = pre.length + l.length ∧ ∀ (k : Nat) (a : Int), (l.foldl runS S).1[k]? = some (a, 0) → ∀ x, (pre ++ l)[k]? = some x → ∀ M, (l.foldl runS S).2 <+: M → actP M x = ((a, 0), M)
  | [], S, pre, hl, h => ⟨by simpa using hl, fun k a hk x hx M hM => h k a hk x (by simpa using hx) M hM⟩
  | y :: l, S, pre, hl, h => by
    have := run_inv l (runS S y) (pre ++ [y]) (by simp [runS, hl]) (fun k a hk x hx M hM => by
      have hpre : S.2 <+: M := (actP_pre S.2 y).trans hM
      rcases Nat.lt_trichotomy k pre.length with h1 | h1 | h1
      · rw [runS, List.getElem?_append_left (by omega)] at hk
        rw [List.getElem?_append_left h1] at hx
        exact h k a hk x hx M hpre
      · rw [runS, List.getElem?_append_right (by omega), hl, h1] at hk
        rw [List.getElem?_append_right (by omega), h1] at hx
        simp at hk hx
        subst hx
        exact actP_again hk hM
      · rw [List.getElem?_eq_none (by simp; omega)] at hx
        cases hx)
    refine ⟨by rw [List.foldl_cons, this.1]; simp; omega, fun k a hk x hx M hM => this.2 k a hk x (by simpa using hx) M hM⟩
theorem runA_again (l : List ActD) : (runA l).1.length = l.length ∧ ∀ (k : Nat) (a : Int), (runA l).1[k]? = some (a, 0) → ∀ x, l[k]? = some x → actP (runA l).2 x = ((a, 0), (runA l).2) := by
  have := run_inv l ([], []) [] rfl (fun k a h => by simp at h)
  exact ⟨by have h := this.1; simpa [runA] using h, fun k a hk x hx => this.2 k a hk x (by simpa using hx) _ (List.prefix_refl _)⟩
theorem runA_take (l : List ActD) (i : Nat) (h : i < l.length) : runA (l.take (i + 1)) = runS (runA (l.take i)) l[i] := take_step _ _ _ _ h
theorem runA_len (l : List ActD) : (runA l).1.length = l.length := (runA_again l).1
end Go.Proofs.YtehdddilcakmlaaDoor
