/-
  No cell of these rows narrows 'for every input' (looked for: loops, veiled, ifaces, maps, wideKeys, modest, calm, conditions, laid).
  DERIVED. THE GIVEN ROWS OF THIS SEAT. 6 by the template 'for every input the law returns true; each argument reads behind the call as it read before'; 0 by the template 'total and deterministic' (their statements: YtpfcoeenblmifaaTotals.lean).
  GIVEN WITH THE SEED: the statements are not yours to turn. If you find one false, say at which input.
  Laid BY PROGRAM, IN A SANDBOX (cutbox-rows.mjs): the forced cells as the released guide's own fill.sh prints them over the translation 0f1aaac7350d79bb… (all of the seat's roots in one cut). By AI agents, Wed Nov 11 2026. No macro, syntax, notation, axiom, sorry.
-/
import Derived.Test.YtpfcoeenblmifaaChecked
import GoSem.Claim
import GoSem.ClaimJoined
import GoSem.ClaimMapViews
import Derived.JoinedTies
import Derived.KernelRfl
namespace Go.Proofs.Ytpfcoeenblmifaa
/- THE CELL 'sum', in the pinned program and in every row, IS THE sha256 OF THE DUMP (.gsa) THAT YtpfcoeenblmifaaProg.lean LOADS. Nothing in Lean hashes anything: it is a label: what it is worth is what the hold of that sum in a sandbox is worth. -/
noncomputable def Try.pinned : Pinned := { name := "ytpfcoeenblmifaa", sum := "0f1aaac7350d79bb31dd52b8b2c9b857653a3038188b86a58809d09b2f44982a", checked := Try.checked }
namespace Rows
def none {H : Type} : Left H := { results := [], args := [] }

/-- 'pointcodelaw13.PlansDistances': WHATEVER THE INPUT: true; the input reads as it did. -/
def plansDistancesSpec : ChangeSpec := { name := "plansDistances", fn := fun _ => fun
  | [d1, d2] => { results := [.lit (.bool true)], args := [d1, d2] }
  | _ => none }
def plansDistancesRow : OpenClaim := { program := "ytpfcoeenblmifaa", sum := "0f1aaac7350d79bb31dd52b8b2c9b857653a3038188b86a58809d09b2f44982a", func := "pointcode/pointcodelaw13.PlansDistances", spec := "plansDistances", unfollowed := true, recurses := true, apart := false }
def PlansDistancesSaid : Prop := plansDistancesRow.holds Try.pinned (OpenSpec.ofChange plansDistancesSpec)

/-- ITS FALSE NEIGHBOUR: 'it returns false'. Refute it at one input. -/
def plansDistancesWrong : ChangeSpec := { name := "plansDistances", fn := fun _ => fun
  | [d1, d2] => { results := [.lit (.bool false)], args := [d1, d2] }
  | _ => none }
def PlansDistancesWrongFalsely : Prop := plansDistancesRow.holds Try.pinned (OpenSpec.ofChange plansDistancesWrong)

/-- 'pointcodelaw13.PlansHeights': WHATEVER THE INPUT: true; the input reads as it did. -/
def plansHeightsSpec : ChangeSpec := { name := "plansHeights", fn := fun _ => fun
  | [d1, d2] => { results := [.lit (.bool true)], args := [d1, d2] }
  | _ => none }
def plansHeightsRow : OpenClaim := { program := "ytpfcoeenblmifaa", sum := "0f1aaac7350d79bb31dd52b8b2c9b857653a3038188b86a58809d09b2f44982a", func := "pointcode/pointcodelaw13.PlansHeights", spec := "plansHeights", unfollowed := true, recurses := true, apart := false }
def PlansHeightsSaid : Prop := plansHeightsRow.holds Try.pinned (OpenSpec.ofChange plansHeightsSpec)

/-- ITS FALSE NEIGHBOUR: 'it returns false'. Refute it at one input. -/
def plansHeightsWrong : ChangeSpec := { name := "plansHeights", fn := fun _ => fun
  | [d1, d2] => { results := [.lit (.bool false)], args := [d1, d2] }
  | _ => none }
def PlansHeightsWrongFalsely : Prop := plansHeightsRow.holds Try.pinned (OpenSpec.ofChange plansHeightsWrong)

/-- 'pointcodelaw13.PlansChoices': WHATEVER THE INPUT: true; the input reads as it did. -/
def plansChoicesSpec : ChangeSpec := { name := "plansChoices", fn := fun _ => fun
  | [d1, d2] => { results := [.lit (.bool true)], args := [d1, d2] }
  | _ => none }
def plansChoicesRow : OpenClaim := { program := "ytpfcoeenblmifaa", sum := "0f1aaac7350d79bb31dd52b8b2c9b857653a3038188b86a58809d09b2f44982a", func := "pointcode/pointcodelaw13.PlansChoices", spec := "plansChoices", unfollowed := true, recurses := true, apart := false }
def PlansChoicesSaid : Prop := plansChoicesRow.holds Try.pinned (OpenSpec.ofChange plansChoicesSpec)

/-- ITS FALSE NEIGHBOUR: 'it returns false'. Refute it at one input. -/
def plansChoicesWrong : ChangeSpec := { name := "plansChoices", fn := fun _ => fun
  | [d1, d2] => { results := [.lit (.bool false)], args := [d1, d2] }
  | _ => none }
def PlansChoicesWrongFalsely : Prop := plansChoicesRow.holds Try.pinned (OpenSpec.ofChange plansChoicesWrong)

/-- 'pointcodelaw13.PlansFall': WHATEVER THE INPUT: true; the input reads as it did. -/
def plansFallSpec : ChangeSpec := { name := "plansFall", fn := fun _ => fun
  | [d1, d2, d3] => { results := [.lit (.bool true)], args := [d1, d2, d3] }
  | _ => none }
def plansFallRow : OpenClaim := { program := "ytpfcoeenblmifaa", sum := "0f1aaac7350d79bb31dd52b8b2c9b857653a3038188b86a58809d09b2f44982a", func := "pointcode/pointcodelaw13.PlansFall", spec := "plansFall", unfollowed := true, recurses := true, apart := false }
def PlansFallSaid : Prop := plansFallRow.holds Try.pinned (OpenSpec.ofChange plansFallSpec)

/-- ITS FALSE NEIGHBOUR: 'it returns false'. Refute it at one input. -/
def plansFallWrong : ChangeSpec := { name := "plansFall", fn := fun _ => fun
  | [d1, d2, d3] => { results := [.lit (.bool false)], args := [d1, d2, d3] }
  | _ => none }
def PlansFallWrongFalsely : Prop := plansFallRow.holds Try.pinned (OpenSpec.ofChange plansFallWrong)

/-- 'pointcodelaw13.PlansTimers': WHATEVER THE INPUT: true; the input reads as it did. -/
def plansTimersSpec : ChangeSpec := { name := "plansTimers", fn := fun _ => fun
  | [d1, d2] => { results := [.lit (.bool true)], args := [d1, d2] }
  | _ => none }
def plansTimersRow : OpenClaim := { program := "ytpfcoeenblmifaa", sum := "0f1aaac7350d79bb31dd52b8b2c9b857653a3038188b86a58809d09b2f44982a", func := "pointcode/pointcodelaw13.PlansTimers", spec := "plansTimers", unfollowed := true, recurses := true, apart := false }
def PlansTimersSaid : Prop := plansTimersRow.holds Try.pinned (OpenSpec.ofChange plansTimersSpec)

/-- ITS FALSE NEIGHBOUR: 'it returns false'. Refute it at one input. -/
def plansTimersWrong : ChangeSpec := { name := "plansTimers", fn := fun _ => fun
  | [d1, d2] => { results := [.lit (.bool false)], args := [d1, d2] }
  | _ => none }
def PlansTimersWrongFalsely : Prop := plansTimersRow.holds Try.pinned (OpenSpec.ofChange plansTimersWrong)

/-- 'pointcodelaw13.PlansNear': WHATEVER THE INPUT: true; the input reads as it did. -/
def plansNearSpec : ChangeSpec := { name := "plansNear", fn := fun _ => fun
  | [d] => { results := [.lit (.bool true)], args := [d] }
  | _ => none }
def plansNearRow : OpenClaim := { program := "ytpfcoeenblmifaa", sum := "0f1aaac7350d79bb31dd52b8b2c9b857653a3038188b86a58809d09b2f44982a", func := "pointcode/pointcodelaw13.PlansNear", spec := "plansNear", unfollowed := true, recurses := true, apart := false }
def PlansNearSaid : Prop := plansNearRow.holds Try.pinned (OpenSpec.ofChange plansNearSpec)

/-- ITS FALSE NEIGHBOUR: 'it returns false'. Refute it at one input. -/
def plansNearWrong : ChangeSpec := { name := "plansNear", fn := fun _ => fun
  | [d] => { results := [.lit (.bool false)], args := [d] }
  | _ => none }
def PlansNearWrongFalsely : Prop := plansNearRow.holds Try.pinned (OpenSpec.ofChange plansNearWrong)

/- THE SECOND FORM. 'bulk': how many values and letters a reading holds, each counted each time it is reached (what is shared counts as often as it is met; a slice's spare places count too). A statement '..UptoSaid' is the law's where the arguments, and the package variables that the reading takes, are together of bulk at most 1048576: NARROWER than '..Said'. Prove '..Said' where nothing that the law and all that it calls make is longer than what came in: it says more and counts as full. Else prove '..UptoSaid'. A law counts once. -/
mutual
def uptoBulk {H : Type} : DataW H → Nat
  | .lit (.string bytes) => bytes.length + 1
  | .lit _ => 1
  | .nil => 1
  | .ptr d => uptoBulk d + 1
  | .slice elems spare => uptoBulkAll elems + uptoBulkAll spare + 1
  | .agg parts => uptoBulkAll parts + 1
  | .iface _ d => uptoBulk d + 1
  | .map entries => uptoBulkEntries entries + 1
  | .held _ => 1
def uptoBulkAll {H : Type} : List (DataW H) → Nat
  | [] => 0
  | d :: r => uptoBulk d + uptoBulkAll r
def uptoBulkEntries {H : Type} : List (Lit × DataW H) → Nat
  | [] => 0
  | x :: r => uptoBulkEntry x + uptoBulkEntries r
def uptoBulkEntry {H : Type} : Lit × DataW H → Nat
  | (.string bytes, d) => bytes.length + uptoBulk d + 1
  | (_, d) => uptoBulk d + 1
 end
def uptoSmall : (H : Type) → List (DataW H) → Bool := fun _ ds => decide (uptoBulkAll ds ≤ 1048576)
def OpenSpec.upto (s : _root_.Go.ChangeSpec) : _root_.Go.OpenSpec := { _root_.Go.OpenSpec.ofChange s with cond := some uptoSmall }

/-- 'pointcodelaw13.PlansDistances', WHERE WHAT IT READS IS OF BULK AT MOST 1048576: true; the input reads as it did. -/
def plansDistancesUptoRow : OpenClaim := { program := "ytpfcoeenblmifaa", sum := "0f1aaac7350d79bb31dd52b8b2c9b857653a3038188b86a58809d09b2f44982a", func := "pointcode/pointcodelaw13.PlansDistances", spec := "plansDistances", unfollowed := true, recurses := true, apart := false, narrowed := true }
def PlansDistancesUptoSaid : Prop := plansDistancesUptoRow.holds Try.pinned (OpenSpec.upto plansDistancesSpec)

/-- 'pointcodelaw13.PlansHeights', WHERE WHAT IT READS IS OF BULK AT MOST 1048576: true; the input reads as it did. -/
def plansHeightsUptoRow : OpenClaim := { program := "ytpfcoeenblmifaa", sum := "0f1aaac7350d79bb31dd52b8b2c9b857653a3038188b86a58809d09b2f44982a", func := "pointcode/pointcodelaw13.PlansHeights", spec := "plansHeights", unfollowed := true, recurses := true, apart := false, narrowed := true }
def PlansHeightsUptoSaid : Prop := plansHeightsUptoRow.holds Try.pinned (OpenSpec.upto plansHeightsSpec)

/-- 'pointcodelaw13.PlansChoices', WHERE WHAT IT READS IS OF BULK AT MOST 1048576: true; the input reads as it did. -/
def plansChoicesUptoRow : OpenClaim := { program := "ytpfcoeenblmifaa", sum := "0f1aaac7350d79bb31dd52b8b2c9b857653a3038188b86a58809d09b2f44982a", func := "pointcode/pointcodelaw13.PlansChoices", spec := "plansChoices", unfollowed := true, recurses := true, apart := false, narrowed := true }
def PlansChoicesUptoSaid : Prop := plansChoicesUptoRow.holds Try.pinned (OpenSpec.upto plansChoicesSpec)

/-- 'pointcodelaw13.PlansFall', WHERE WHAT IT READS IS OF BULK AT MOST 1048576: true; the input reads as it did. -/
def plansFallUptoRow : OpenClaim := { program := "ytpfcoeenblmifaa", sum := "0f1aaac7350d79bb31dd52b8b2c9b857653a3038188b86a58809d09b2f44982a", func := "pointcode/pointcodelaw13.PlansFall", spec := "plansFall", unfollowed := true, recurses := true, apart := false, narrowed := true }
def PlansFallUptoSaid : Prop := plansFallUptoRow.holds Try.pinned (OpenSpec.upto plansFallSpec)

/-- 'pointcodelaw13.PlansTimers', WHERE WHAT IT READS IS OF BULK AT MOST 1048576: true; the input reads as it did. -/
def plansTimersUptoRow : OpenClaim := { program := "ytpfcoeenblmifaa", sum := "0f1aaac7350d79bb31dd52b8b2c9b857653a3038188b86a58809d09b2f44982a", func := "pointcode/pointcodelaw13.PlansTimers", spec := "plansTimers", unfollowed := true, recurses := true, apart := false, narrowed := true }
def PlansTimersUptoSaid : Prop := plansTimersUptoRow.holds Try.pinned (OpenSpec.upto plansTimersSpec)

/-- 'pointcodelaw13.PlansNear', WHERE WHAT IT READS IS OF BULK AT MOST 1048576: true; the input reads as it did. -/
def plansNearUptoRow : OpenClaim := { program := "ytpfcoeenblmifaa", sum := "0f1aaac7350d79bb31dd52b8b2c9b857653a3038188b86a58809d09b2f44982a", func := "pointcode/pointcodelaw13.PlansNear", spec := "plansNear", unfollowed := true, recurses := true, apart := false, narrowed := true }
def PlansNearUptoSaid : Prop := plansNearUptoRow.holds Try.pinned (OpenSpec.upto plansNearSpec)

end Rows
end Go.Proofs.Ytpfcoeenblmifaa
