/- The tied card of NodesNil. -/
import Derived.Test.YtehdddilcakmlaaDoorNRNil
import Derived.Test.YtehdddilcakmlaaDoorCards
import Derived.Test.YtehdddilcakmlaaDoorTie
import Derived.SevenTiedAt
namespace Go.Proofs.YtehdddilcakmlaaDoor
open Go
theorem NodesNil_card : Rows.NodesNilCardSaid :=
  Claim7.holds_tied_plain_at .later [] [.data, .data, .data] true (true, "63fa9edb3eca7390a7232eef0cdf06a3b1cdecc528b32b9dcf59a93e21928276") false
    NodesNil_holds (fun _ h => by cases h) (by kernel_rfl) (fun _ h => by cases h) nodesNil_row_tie rfl ⟨rfl, rfl⟩ (by kernel_rfl) rfl
    (fun f fn hf hfn => by
      obtain rfl : f = 4 := Option.some.inj ((show Tryd.prog.funcNamed "tollbridge/tollbridgelaw20.NodesNil" = some 4 by kernel_rfl).symm.trans hf) |>.symm
      obtain rfl : fn = Tryd.f4 := (Option.some.inj (Tryd.func4.symm.trans hfn)).symm
      exact ⟨by kernel_rfl, fun j t ht => by
        rw [Tryd.params4] at ht
        have hm : t ∈ ([31, 32, 33, 3] : List TypeId) := by simpa using Array.mem_of_getElem? ht
        have hall : (([31, 32, 33, 3] : List TypeId).all fun u => !Tryd.prog.wantsStandIn u) = true := by kernel_rfl
        exact (show Tryd.prog.wantsStandIn t = false by simpa using List.all_eq_true.1 hall t hm)⟩)
    (by kernel_rfl)
#print axioms NodesNil_card
end Go.Proofs.YtehdddilcakmlaaDoor
