/- The law's own function sets, walked: does a term set a field to a number? -/
import Derived.Test.YtjjbdbklbghlhaaGreatDoorMN
import Derived.Test.YtjjbdbklbghlhaaGreatDoorMA
import Derived.Laws.MakeOwn
import Derived.OwnWalk
namespace Go.Proofs.YtjjbdbklbghlhaaGreatDoor
open Go.RowKit Go.Maps
set_option linter.unusedSimpArgs false

theorem Tm.Val.cs' {w : World} {t : Tm} {v : Value} (h : t.Val w v) : ∃ p len cap, v = .agg #[.int .i8 t.op, .int .i8 t.fld, .int .u64 t.n, .slice p len cap] := by
 obtain ⟨cs, rfl, s, rfl, -, -, -, p, len, cap, rfl, -⟩ := h
 exact ⟨p, len, cap, rfl⟩
end Go.Proofs.YtjjbdbklbghlhaaGreatDoor
/- The document's holds and terms. -/
namespace Go.Proofs.YtjjbdbklbghlhaaGreatDoor
open Go.RowKit Go.Maps
set_option linter.unusedSimpArgs false

end Go.Proofs.YtjjbdbklbghlhaaGreatDoor
/- The document's terms, Add, both. -/
namespace Go.Proofs.YtjjbdbklbghlhaaGreatDoor
open Go.RowKit Go.Maps
set_option linter.unusedSimpArgs false

theorem Ext.grown {w a c : World} {v : Value} (h : Ext w a) (g : a.grownBy c v.ownBlock) (hb : ∀ i, v.ownBlock = some i → w.heap.size ≤ i) : Ext w c :=
 h.trans' ⟨g.os, g.tape, g.output, g.size, fun i hi => g.block i (Nat.lt_of_lt_of_le hi h.size) (fun e => by have := hb i e.symm; omega)⟩
end Go.Proofs.YtjjbdbklbghlhaaGreatDoor
/- The document's Size, Deep, Big. -/
namespace Go.Proofs.YtjjbdbklbghlhaaGreatDoor
open Go.RowKit
set_option linter.unusedSimpArgs false

end Go.Proofs.YtjjbdbklbghlhaaGreatDoor
/- The document's Big, right, all, Check, Pred. -/
namespace Go.Proofs.YtjjbdbklbghlhaaGreatDoor
open Go.RowKit
set_option linter.unusedSimpArgs false

end Go.Proofs.YtjjbdbklbghlhaaGreatDoor
/- The document's right and all, walked. -/
namespace Go.Proofs.YtjjbdbklbghlhaaGreatDoor
open Go.RowKit
set_option linter.unusedSimpArgs false

end Go.Proofs.YtjjbdbklbghlhaaGreatDoor
/- The document's Big, Check, Pred (of a policy without queries). -/
namespace Go.Proofs.YtjjbdbklbghlhaaGreatDoor
open Go.RowKit
set_option linter.unusedSimpArgs false

end Go.Proofs.YtjjbdbklbghlhaaGreatDoor
/- The document's Holds, both. -/
namespace Go.Proofs.YtjjbdbklbghlhaaGreatDoor
open Go.RowKit Go.Maps
set_option linter.unusedSimpArgs false

end Go.Proofs.YtjjbdbklbghlhaaGreatDoor
/- The document's sets, in order, are the program's sets put in order. -/
namespace Go.Proofs.YtjjbdbklbghlhaaGreatDoor
set_option linter.unusedSimpArgs false

end Go.Proofs.YtjjbdbklbghlhaaGreatDoor
