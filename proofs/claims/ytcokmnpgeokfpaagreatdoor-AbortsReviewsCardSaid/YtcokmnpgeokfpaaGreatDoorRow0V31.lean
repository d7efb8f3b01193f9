/-
  What the rows over the laid variables share: the condition, the door's own heap, what the examples' run needs.
-/
import Derived.Test.YtcokmnpgeokfpaaGreatDoorRows
import Derived.Test.YtcokmnpgeokfpaaGreatDoorLvV31
import Derived.Test.YtcokmnpgeokfpaaGreatDoorVxD
import Derived.ProofKit
import Derived.LaidMore
import Derived.OpenShut
import Derived.Stop.Joined
import Derived.SizedLaws
set_option linter.unusedVariables false
set_option linter.unusedSimpArgs false
namespace Go.Proofs.YtcokmnpgeokfpaaGreatDoor
open Go.ChangeShapes Go.WideShapes Go.ChangeAt Go.RowKit

noncomputable def laid5 : List (String × DataW Unit) := Rows.abortsReviewsRow.laid

theorem door_met (os : Os) (args : Array Value) : laidMetH Tryz.prog laid5 ((World.doorLaid Tryz.prog 400 os).forCall (fun _ _ => 0) ⟨#[], args, []⟩).memory :=
  laidMetH_of_parts3 (fuel := 8) (laidMet_of_run' 8 (by kernel_rfl) (by kernel_rfl)) (by kernel_rfl) (by kernel_rfl)

end Go.Proofs.YtcokmnpgeokfpaaGreatDoor
