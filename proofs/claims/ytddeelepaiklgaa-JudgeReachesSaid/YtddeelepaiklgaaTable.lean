/- policy.table: what each Op wants. -/
import Derived.Test.YtddeelepaiklgaaField
import Derived.StillTailTactics
import Derived.Deep.RegionWith
namespace Go.Proofs.Ytddeelepaiklgaa
open Go.RowKit

/-- what an Op wants: least, most, predicates as kids, a predicate itself, a field -/
structure Wants where
  least : Int
  most : Int
  preds : Bool
  pred : Bool
  field : Bool
def wantsOf (op : Nat) : Wants :=
  match op with
  | 0 | 1 => ⟨0, 0, false, true, false⟩
  | 2 => ⟨0, 0, false, true, true⟩
  | 3 => ⟨1, 1, true, true, false⟩
  | 4 | 5 => ⟨1, -1, true, true, false⟩
  | 6 => ⟨1, 1, true, false, false⟩
  | 7 => ⟨0, 0, false, false, true⟩
  | 8 | 9 => ⟨1, -1, false, false, false⟩
  | _ => ⟨1, 1, false, false, false⟩
def Wants.cs (x : Wants) : Array Value := #[.int .i64 x.least, .int .i64 x.most, .bool x.preds, .bool x.pred, .bool x.field]
def tabA : Array Value := #[.int .i64 0, .int .i64 (0), .bool false, .bool true, .bool false, .int .i64 0, .int .i64 (0), .bool false, .bool true, .bool false, .int .i64 0, .int .i64 (0), .bool false, .bool true, .bool true, .int .i64 1, .int .i64 (1), .bool true, .bool true, .bool false, .int .i64 1, .int .i64 (-1), .bool true, .bool true, .bool false, .int .i64 1, .int .i64 (-1), .bool true, .bool true, .bool false, .int .i64 1, .int .i64 (1), .bool true, .bool false, .bool false, .int .i64 0, .int .i64 (0), .bool false, .bool false, .bool true, .int .i64 1, .int .i64 (-1), .bool false, .bool false, .bool false, .int .i64 1, .int .i64 (-1), .bool false, .bool false, .bool false, .int .i64 1, .int .i64 (1), .bool false, .bool false, .bool false]
theorem table_build (w : World) : (Instr.build 109 #[(0, .agg (tabA.extract 0 5)), (1, .agg (tabA.extract 5 10)), (2, .agg (tabA.extract 10 15)), (3, .agg (tabA.extract 15 20)), (4, .agg (tabA.extract 20 25)), (5, .agg (tabA.extract 25 30)), (6, .agg (tabA.extract 30 35)), (7, .agg (tabA.extract 35 40)), (8, .agg (tabA.extract 40 45)), (9, .agg (tabA.extract 45 50)), (10, .agg (tabA.extract 50 55))]).run Try.prog w = .ok (.agg tabA) w := by kernel_rfl
set_option maxHeartbeats 1000000 in
set_option maxRecDepth 100000 in
theorem table_any (w : World) : Calls Try.prog 58 #[] w fun e w' => e = .returned (.agg tabA) ∧ w.alloc (.cells tabA 109) = w' := by
  go_enter Try.func58, Try.ntmps58
  go_wp2_with (first | (refine wpList_by rfl (.build 109 _) rfl (.agg tabA) _ (table_build _) ?_) | (refine wpList_store_new rfl 109 _ _ rfl _ tabA rfl rfl (by kernel_rfl) (by kernel_rfl) (by kernel_rfl) ?_))
  exact bodyPost_ret (v := .agg tabA) (results_cell_row rfl _ _ w.heap.size 109 tabA (0, 0) _ rfl (heap_alloc_last w _) Try.underlying109 rfl (by kernel_rfl)) rfl ⟨rfl, rfl⟩

end Go.Proofs.Ytddeelepaiklgaa
