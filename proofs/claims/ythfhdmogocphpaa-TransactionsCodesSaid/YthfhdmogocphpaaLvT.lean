import Derived.Test.YthfhdmogocphpaaProg
import Derived.Test.YthfhdmogocphpaaVxD
/-
  The chapter's examples hold (closed run), as a contract.
-/
namespace Vf
open Go Go.Vx Go.RowKit Go.Proofs
def goodLv : Res (AEnd × AW) → Bool
  | .ok (.returned (.bool true), _) => true
  | _ => false
noncomputable def runLv : Res (AEnd × AW) := Vx.call Try.prog .none Ext.none 100000 8 #[] { objs := .leaf, next := 0 }
set_option maxHeartbeats 0 in
theorem runLv_good : goodLv runLv = true := by kernel_rfl
theorem lives_calls (w : World) : Calls Try.prog 8 #[] w fun e w' => e = .returned (.bool true) ∧ Below w.heap.size w w' := by
  have h := runLv_good
  generalize hr : runLv = r at h
  unfold goodLv at h
  split at h
  · exact calls_closed hr rfl w
  · exact absurd h (by simp)
theorem lives_pto (W : World) : PTo Try.prog W 8 #[] (.returned (.bool true)) := PTo.closed fun w _ => lives_calls w
end Vf
