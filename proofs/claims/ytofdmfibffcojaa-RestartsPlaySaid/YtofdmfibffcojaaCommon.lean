/-
  What each row of layer 18 needs.
-/
import Derived.Test.YtofdmfibffcojaaRows
import Derived.Test.YtofdmfibffcojaaLives
import Derived.Test.YtofdmfibffcojaaLawRow
namespace Go.Proofs.Ytofdmfibffcojaa
open Go.ChangeShapes Go.WideShapes Go.ChangeAt Go.RowKit Go.PC

theorem below_of_only {w w' : World} (h : Only (fun _ => False) w w') : Below w.heap.size w w' := h.below fun _ hi => ⟨hi, fun h => h⟩
theorem own : ownKnob Try.prog.godebug = none := by kernel_rfl
theorem laidOut : laidOutB Try.prog = true := by kernel_rfl
theorem bounds_u16 {z : Int} (h : (Lit.int .u16 z).wf = true) : 0 ≤ z ∧ z ≤ 65535 := by
  have e1 : IntKind.u16.min = 0 := by decide
  have e2 : IntKind.u16.max = 65535 := by decide
  simp [Lit.wf, e1, e2] at h
  omega

end Go.Proofs.Ytofdmfibffcojaa
