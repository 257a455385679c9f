/- slices.CompactFunc of headers, by equality. -/
import Derived.Test.YtddeelepaiklgaaJCmp
namespace Go.Proofs.Ytddeelepaiklgaa
open Go.RowKit Go.Maps Go.Sort

/-- equal neighbours once -/
def dd : List Hdr → List Hdr
  | [] => []
  | [x] => [x]
  | x :: y :: r => if x = y then dd (y :: r) else x :: dd (y :: r)
theorem dd_cons (x y : Hdr) (r : List Hdr) : dd (x :: y :: r) = if x = y then dd (y :: r) else x :: dd (y :: r) := by rw [dd]
theorem dd_snoc (z : Hdr) : ∀ (l : List Hdr) (y : Hdr), dd ((l ++ [y]) ++ [z]) = if y = z then dd (l ++ [y]) else dd (l ++ [y]) ++ [z]
  | [], y => by
    show dd [y, z] = _
    rw [dd]
    split <;> simp_all [dd]
  | [x], y => by
    have ih := dd_snoc z [] y
    show dd (x :: y :: [z]) = if y = z then dd (x :: y :: []) else dd (x :: y :: []) ++ [z]
    rw [dd_cons x y [z], dd_cons x y []]
    have ih' : dd [y, z] = if y = z then dd [y] else dd [y] ++ [z] := ih
    by_cases hxy : x = y
    · rw [if_pos hxy, if_pos hxy]; exact ih'
    · rw [if_neg hxy, if_neg hxy, ih']
      split <;> rfl
  | x :: w :: r, y => by
    have ih := dd_snoc z (w :: r) y
    show dd (x :: w :: ((r ++ [y]) ++ [z])) = if y = z then dd (x :: w :: (r ++ [y])) else dd (x :: w :: (r ++ [y])) ++ [z]
    rw [dd_cons, dd_cons]
    have ih' : dd (w :: ((r ++ [y]) ++ [z])) = if y = z then dd (w :: (r ++ [y])) else dd (w :: (r ++ [y])) ++ [z] := ih
    by_cases hxw : x = w
    · rw [if_pos hxw, if_pos hxw]; exact ih'
    · rw [if_neg hxw, if_neg hxw, ih']
      split <;> rfl
theorem dd_take {l : List Hdr} {i : Nat} (h0 : 0 < i) (hi : i < l.length) : dd (l.take (i + 1)) = if l[i - 1] = l[i] then dd (l.take i) else dd (l.take i) ++ [l[i]] := by
  obtain ⟨k, rfl⟩ : ∃ k, i = k + 1 := ⟨i - 1, by omega⟩
  have e1 : l.take (k + 1) = l.take k ++ [l[k]] := List.take_succ_eq_append_getElem (by omega)
  have e2 : l.take (k + 1 + 1) = l.take (k + 1) ++ [l[k + 1]] := List.take_succ_eq_append_getElem hi
  rw [e2, e1, dd_snoc]
  rfl
theorem dd_rises {l : List Hdr} : ∀ (k : Nat), k ≤ l.length → (∀ m (h : m < l.length), 0 < m → m < k → l[m - 1] ≠ l[m]) → dd (l.take k) = l.take k
  | 0, _, _ => by simp [dd]
  | k + 1, hk, h => by
    have ih := dd_rises k (by omega) (fun m hm h0 hmk => h m hm h0 (by omega))
    rcases Nat.eq_zero_or_pos k with rfl | hkp
    · rw [List.take_succ_eq_append_getElem hk]; simp [dd]
    · rw [dd_take hkp hk, if_neg (h k hk hkp (by omega)), ih, List.take_succ_eq_append_getElem hk]

theorem run_clear_H (w : World) (b o n c : Nat) (ht : w.there b o (n * 11)) :
    ∃ vs : List Value, vs.length = n * 11 ∧ ∀ ty : TypeId, (Builtin.clear_ #[25] ty #[.slice (some ⟨b, o, none⟩) n c]).run Try.prog w = .ok (.tuple #[]) (w.setCells b o vs) := by
  have hz : ∀ w : World, (zeroValue 24).run Try.prog w = .ok (.agg (Array.replicate 11 (.int .u64 0))) w := fun w => by kernel_rfl
  rcases Nat.eq_zero_or_pos n with rfl | hn
  · exact ⟨[], by simp, fun ty => by simp [Builtin.clear_, run_underlying Try.underlying25]; rfl⟩
  refine ⟨(Builtin.zeroCells (Value.agg (Array.replicate 11 (.int .u64 0))).cells n).toList, by simp [Builtin.zeroCells, Value.cells], fun ty => ?_⟩
  have hl : (Builtin.zeroCells (Value.agg (Array.replicate 11 (.int .u64 0))).cells n).toList.length = n * 11 := by simp [Builtin.zeroCells, Value.cells]
  have h1 : ∀ v ∈ (Builtin.zeroCells (Value.agg (Array.replicate 11 (.int .u64 0))).cells n).toList, v.oneCell' = true := by
    intro v hv
    simp only [Builtin.zeroCells, Value.cells, Array.toList_map, List.mem_map] at hv
    obtain ⟨i, -, rfl⟩ := hv
    have : i % 11 < 11 := Nat.mod_lt _ (by omega)
    simp [getElem!_pos, this]
    rfl
  have hst := run_storeCells_cells (P := Try.prog) b o (Builtin.zeroCells (Value.agg (Array.replicate 11 (.int .u64 0))).cells n).toList 0 w (fun j hj => (ht j (by rw [← hl]; exact hj)).1) (fun j hj => (ht j (by rw [← hl]; exact hj)).2) h1
  simp only [Nat.add_zero] at hst
  obtain ⟨m, rfl⟩ : ∃ m, n = m + 1 := ⟨n - 1, by omega⟩
  simp [Builtin.clear_, run_underlying Try.underlying25, hz, hst]

/-- the equality that CompactFunc is handed -/
abbrev eqFun (p : Nat) : Value := .func (.func 47) #[] #[.pointer (some ⟨p, 0, none⟩)]
abbrev ordFun : Value := .func (.func 29) #[] #[]
theorem cmpH_eq {a b : Hdr} : (cmpH a b = 0) ↔ a = b := ⟨cmpH_zero, fun h => by rw [h]; exact cmpH_same (fun _ _ => rfl)⟩

set_option maxHeartbeats 1000000 in
set_option maxRecDepth 100000 in
theorem eqR_any (a b : Hdr) (p : Nat) (w : World) (hp : w.cell? ⟨p, 0, none⟩ = some ordFun) :
    Calls Try.prog 47 #[.agg a.cs, .agg b.cs, .pointer (some ⟨p, 0, none⟩)] w fun e w' => e = .returned (.bool (decide (a = b))) ∧ Ext w w' := by
  have eg : ∀ args w, (callFunc 29 args).run Try.prog w = .ok (.enter 29 args) w := enters_of Try.func29 (by kernel_rfl) rfl
  have ra := World.rangeAt.later (Ext.alloc (w.alloc (.cells a.cs 24)) (.cells b.cs 24)).later (rangeAt_new w a.cs 24)
  have rb := rangeAt_new (w.alloc (.cells a.cs 24)) b.cs 24
  rw [World.size_alloc] at rb
  have HRA := Lib.hid ra
  have HRB := Lib.hid rb
  have hp2 : ((w.alloc (.cells a.cs 24)).alloc (.cells b.cs 24)).cell? ⟨p, 0, none⟩ = some (.func (.func 29) #[] #[]) := ((Ext.alloc _ _).andAlloc _).later _ _ hp
  clear ra rb hp
  go_enter Try.func47, Try.ntmps47
  go_wp2_with (first | (refine wpList_load_H rfl _ rfl _ _ rfl a HRA.out ?_) | (refine wpList_load_H rfl _ rfl _ _ rfl b HRB.out ?_))
  refine (reachCmp_any a b _).mono ?_
  rintro e w1 ⟨rfl, n, rfl⟩
  have HE := Lib.hid (show decide (a = b) = (cmpH a b == 0) from by
    rw [Bool.eq_iff_iff]; simp [cmpH_eq])
  clear hp2
  generalize cmpH a b = c at *
  go_wp2_with fail
  go_ret
  exact ⟨by rw [HE.out]; rfl, ((((Ext.alloc _ _).andAlloc _).andAlloc _).andAlloc _).andDrewN _⟩
end Go.Proofs.Ytddeelepaiklgaa
