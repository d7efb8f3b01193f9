/-
  What each row of layer 13 needs.
-/
import Derived.Test.YtpfcoeenblmifaaRows
import Derived.Test.YtpfcoeenblmifaaOpN
namespace Go.Proofs.Ytpfcoeenblmifaa
open Go.ChangeShapes Go.WideShapes Go.ChangeAt Go.RowKit Go.PC

theorem below_of_only {w w' : World} (h : Only (fun _ => False) w w') : Below w.heap.size w w' := h.below fun _ hi => ⟨hi, fun h => h⟩
theorem own : ownKnob Try.prog.godebug = none := by kernel_rfl
theorem laidOut : laidOutB Try.prog = true := by kernel_rfl

end Go.Proofs.Ytpfcoeenblmifaa
