/- Closed facts on the whole program, shared by the rows' proofs: each alone, for the kernel's memory. -/
import Derived.Test.YtedckelfdkfkoaaRows
import Derived.WalkKit
import Derived.ProofKit
import Derived.OpenShut
namespace Go.Proofs.Ytedckelfdkfkoaa
open Go.ChangeShapes Go.WideShapes Go.ChangeAt Go.RowKit
theorem heardT : Try.pinned.checked.prog.stopsHeard = true := by kernel_rfl
theorem enterT : Try.pinned.checked.prog.mayEnter = true := by kernel_rfl
theorem liftT : Try.pinned.checked.prog.liftsFinal = Rows.tileMovesRow.lifted := by kernel_rfl
theorem makeT : Try.pinned.checked.prog.make = some Rows.tileMovesRow.make := by kernel_rfl
theorem laidT : laidOutB Try.pinned.checked.prog = true := by kernel_rfl
theorem mapsT : mapsRowed Try.pinned.checked.prog = true := by kernel_rfl
theorem keysT : Try.pinned.checked.prog.plainKeys = Rows.tileMovesRow.plainKeys := by kernel_rfl
end Go.Proofs.Ytedckelfdkfkoaa
