/- The tied card of NodesPlays. -/
import Derived.Test.YtehdddilcakmlaaDoorNRPlays
import Derived.Test.YtehdddilcakmlaaDoorCards
import Derived.Test.YtehdddilcakmlaaDoorTie
import Derived.SevenTiedAt
namespace Go.Proofs.YtehdddilcakmlaaDoor
open Go
theorem NodesPlays_card : Rows.NodesPlaysCardSaid :=
  Claim7.holds_tied_plain_at .later [] [.data, .data, .data] true (true, "63fa9edb3eca7390a7232eef0cdf06a3b1cdecc528b32b9dcf59a93e21928276") false
    NodesPlays_holds (fun _ h => by cases h) (by kernel_rfl) (fun _ h => by cases h) nodesPlays_row_tie rfl ⟨rfl, rfl⟩ (by kernel_rfl) rfl
    (fun f fn hf hfn => by
      obtain rfl : f = 3 := Option.some.inj ((show Tryd.prog.funcNamed "tollbridge/tollbridgelaw20.NodesPlays" = some 3 by kernel_rfl).symm.trans hf) |>.symm
      obtain rfl : fn = Tryd.f3 := (Option.some.inj (Tryd.func3.symm.trans hfn)).symm
      exact ⟨by kernel_rfl, fun j t ht => by
        rw [Tryd.params3] at ht
        have hm : t ∈ ([22] : List TypeId) := by simpa using Array.mem_of_getElem? ht
        have hall : (([22] : List TypeId).all fun u => !Tryd.prog.wantsStandIn u) = true := by kernel_rfl
        exact (show Tryd.prog.wantsStandIn t = false by simpa using List.all_eq_true.1 hall t hm)⟩)
    (by kernel_rfl)
#print axioms NodesPlays_card
end Go.Proofs.YtehdddilcakmlaaDoor
