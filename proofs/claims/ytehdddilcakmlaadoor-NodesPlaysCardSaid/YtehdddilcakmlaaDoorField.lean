/- policy.field and the reference's fits: whether a field and a number may stand in a term. -/
import Derived.Test.YtehdddilcakmlaaDoorWid
namespace Go.Proofs.YtehdddilcakmlaaDoor
open Go.RowKit

def fieldK (k : Nat) (op f n : Int) : Bool :=
  if (k : Int) == 0 then false else if n / 2 ^ k != 0 then false else if f == 3 then false else if f == 2 then op == 2 else if f == 6 then op == 2 else if f == 10 then op == 2
  else if f == 9 then (op == 2 || n != 0) else true
def fieldB (op f n : Int) : Bool := fieldK (widthI f).toNat op f n
def fitsK (k : Nat) (n : Int) : Bool := if (k : Int) == 0 then false else n / 2 ^ k == 0
def fitsB (f n : Int) : Bool := fitsK (widthI f).toNat n

theorem widthI_le (f : Int) : ∃ k : Nat, widthI f = k ∧ k ≤ 48 := by
  unfold widthI
  repeat' split
  all_goals first | exact ⟨48, rfl, by omega⟩ | exact ⟨16, rfl, by omega⟩ | exact ⟨12, rfl, by omega⟩ | exact ⟨32, rfl, by omega⟩ | exact ⟨8, rfl, by omega⟩ | exact ⟨0, rfl, by omega⟩

end Go.Proofs.YtehdddilcakmlaaDoor
