/- work.of, all kinds together. -/
import Derived.Test.YtddeelepaiklgaaOf
import Derived.Test.YtddeelepaiklgaaOf2
import Derived.Test.YtddeelepaiklgaaOf3
import Derived.Test.YtddeelepaiklgaaOf4
namespace Go.Proofs.Ytddeelepaiklgaa
open Go.RowKit

theorem of_any (t : Tm) : OfOf t := by
  match t with
  | .mk op f n ks =>
    intro x wb c b o w0 w hpre
    have hkid : ∀ i (h : i < ks.length), OfOf (ks[i]) := fun i h => of_any (ks[i])
    rcases Tm.right_pol hpre.right with ⟨rfl, h1, _⟩ | ⟨rfl, h1⟩ | ⟨rfl, h1, _⟩ | ⟨rfl | rfl, h1, _⟩
    · exact of_filter f n ks x wb c b o w0 w hpre
    · exact of_set f n ks x wb c b o w0 w hpre
    · obtain ⟨k, rfl⟩ := List.length_eq_one_iff.1 h1
      exact of_star f n k (all_of k (hkid 0 (by simp))) x wb c b o w0 w hpre
    · exact of_union f n ks hkid x wb c b o w0 w hpre
    · exact of_then f n ks (fun i h => all_of _ (hkid i h)) x wb c b o w0 w hpre
termination_by SizeOf.sizeOf t
decreasing_by
  have := List.sizeOf_lt_of_mem (List.getElem_mem h)
  simp; omega
end Go.Proofs.Ytddeelepaiklgaa
