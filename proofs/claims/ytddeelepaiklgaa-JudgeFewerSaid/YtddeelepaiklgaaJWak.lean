/- law 30's at, set. -/
import Derived.Test.YtddeelepaiklgaaJReach
import Derived.Laws.Rows
namespace Go.Proofs.Ytddeelepaiklgaa
open Go.RowKit Go.Maps Go.Sort Go.Lib

def hz30 : Hdr := Vector.replicate 11 0
def atH (a b : Int) : Hdr := ((hz30.put 2 2048).put 10 a).put 9 b
theorem atH_cs (a b : Int) (ha : 0 ≤ a ∧ a ≤ 100) (hb : 0 ≤ b ∧ b ≤ 100) : (atH a b).cs = #[.int .u64 0, .int .u64 0, .int .u64 2048, .int .u64 0, .int .u64 0, .int .u64 0, .int .u64 0, .int .u64 0, .int .u64 0, .int .u64 b, .int .u64 a] := by
  unfold atH
  rw [Hdr.cs_put _ _ _ ⟨hb.1, by omega⟩, Hdr.cs_put _ _ _ ⟨ha.1, by omega⟩, Hdr.cs_put _ _ _ ⟨by omega, by omega⟩]
  rfl
def setT (n : Int) : Tm := .mk 7 9 n []

set_option maxHeartbeats 1000000 in
set_option maxRecDepth 100000 in
theorem set_any (n : Int) (w : World) : Calls Try.prog 24 #[.int .u64 n] w fun e w' => e = .returned (.agg #[.int .i8 7, .int .i8 9, .int .u64 n, .slice none 0 0, .slice none 0 0]) ∧ Ext w w' := by
  go_enter Try.func24, Try.ntmps24
  go_wp2_with fail
  refine bodyPost_ret_by (v := .agg #[.int .i8 7, .int .i8 9, .int .u64 n, .slice none 0 0, .slice none 0 0]) ?_ rfl ⟨rfl, Ext.alloc _ _⟩
  exact results_cell_row rfl _ _ w.heap.size 34 _ _ _ rfl (heap_alloc_new w _) Try.underlying34 rfl (by kernel_rfl)
set_option maxHeartbeats 1000000 in
set_option maxRecDepth 100000 in
theorem at_any (a b : Int) (w : World) (ha : 0 ≤ a ∧ a ≤ 100) (hb : 0 ≤ b ∧ b ≤ 100) : Calls Try.prog 23 #[.int .u64 a, .int .u64 b] w fun e w' => e = .returned (.agg (atH a b).cs) ∧ Ext w w' := by
  rw [atH_cs a b ha hb]
  go_enter Try.func23, Try.ntmps23
  go_wp2_with fail
  refine bodyPost_ret_by (v := .agg #[.int .u64 0, .int .u64 0, .int .u64 2048, .int .u64 0, .int .u64 0, .int .u64 0, .int .u64 0, .int .u64 0, .int .u64 0, .int .u64 b, .int .u64 a]) ?_ rfl ⟨rfl, (Ext.alloc _ _).andAlloc _⟩
  exact results_cell_row rfl _ _ w.heap.size 24 _ (0, 0) _ rfl ((heap_alloc_old _ _ (by simp)).trans (heap_alloc_new w _)) Try.underlying24 rfl (by kernel_rfl)

theorem wk_hop1 : hopP (setT 2) [] (atH 1 1) [atH 1 2] = true := by kernel_rfl
theorem wk_hop2 : hopP (setT 3) [] (atH 1 1) [atH 1 2] = false := by kernel_rfl
theorem wk_hop3 : hopP (setT 2) [] (atH 1 1) [atH 1 2, atH 1 2] = false := by kernel_rfl
theorem wk_reach0 : reachN (setT 2) [⟨1, 2, 2, 1⟩] 1025 0 [atH 1 1] [] = (0, [atH 2 2]) := by kernel_rfl
theorem wk_check : checkP (setT 2) [] = 0 ∧ headE (atH 1 1) = 0 ∧ (atH 1 1).f 3 = 0 := by decide +kernel
theorem wk_trace : traceP [⟨0, 1, atH 1 1, [atH 1 2]⟩] [(setT 2, [])] = true := by kernel_rfl
theorem wk_reach : reachP (setT 2) [] [⟨1, 2, 2, 1⟩] (atH 1 1) = (0, [atH 2 2]) := by
  unfold reachP
  rw [if_pos wk_check.1, if_pos wk_check.2, wk_reach0, if_pos rfl, show sortH (0, [atH 2 2]).2 = [atH 2 2] from List.perm_singleton.1 (sortH_perm [atH 2 2])]
  rfl
theorem setT_val (n : Int) (hn : 0 ≤ n ∧ n ≤ 100) (W : World) : PVal W (setT n) [] (.agg #[.int .i8 7, .int .i8 9, .int .u64 n, .slice none 0 0, .slice none 0 0]) :=
  ⟨none, 0, 0, _, rfl, val_leaf (by omega) (by omega) (by omega), ⟨none, 0, 0, rfl, rfl, by omega, by omega, .inl rfl⟩⟩
end Go.Proofs.Ytddeelepaiklgaa
