/-
  A start for the witnesses: the heap that the door's own run leaves meets the rows' list.
-/
import Derived.Test.YtnjgcjgfnjcgdaaDoorOpen
import Derived.Deep.DeepHandedRow
namespace Go.Proofs.YtnjgcjgfnjcgdaaDoor
open Go.RowKit Go.ChangeShapes Go.WideShapes Go.ChangeAt
set_option maxRecDepth 100000 in
theorem door_met (os : Os) (args : Array Value) : laidMetH Tryd.prog laidList ((World.doorLaid Tryd.prog 3000 os).forCall (fun _ _ => 0) ⟨#[], args, []⟩).memory :=
  laidMetH_of_parts3 (fuel := 8) (laidMet_of_run' 8 (by kernel_rfl) (by kernel_rfl)) (by kernel_rfl) (by kernel_rfl)
end Go.Proofs.YtnjgcjgfnjcgdaaDoor
