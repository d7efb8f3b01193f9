/-
  No cell of these rows narrows 'for every input' (looked for: loops, veiled, ifaces, maps, wideKeys, modest, calm, conditions, laid).
  DERIVED. THE GIVEN ROWS OF THIS SEAT. 4 by the template 'for every input the law returns true; each argument reads behind the call as it read before'; 0 by the template 'total and deterministic' (their statements: YtofdmfibffcojaaTotals.lean).
  GIVEN WITH THE SEED: the statements are not yours to turn. If you find one false, say at which input.
  Laid BY PROGRAM, IN A SANDBOX (cutbox-rows.mjs): the forced cells as the released guide's own fill.sh prints them over the translation 9d19470c3503ae10… (all of the seat's roots in one cut). By AI agents, Wed Nov 11 2026. No macro, syntax, notation, axiom, sorry.
-/
import Derived.Test.YtofdmfibffcojaaChecked
import GoSem.Claim
import GoSem.ClaimJoined
import GoSem.ClaimMapViews
import Derived.JoinedTies
import Derived.KernelRfl
namespace Go.Proofs.Ytofdmfibffcojaa
/- THE CELL 'sum', in the pinned program and in every row, IS THE sha256 OF THE DUMP (.gsa) THAT YtofdmfibffcojaaProg.lean LOADS. Nothing in Lean hashes anything: it is a label: what it is worth is what the hold of that sum in a sandbox is worth. -/
noncomputable def Try.pinned : Pinned := { name := "ytofdmfibffcojaa", sum := "9d19470c3503ae10b133ef1ee0f82a9e98dad40f2c6987c8382f9fa8444f14b2", checked := Try.checked }
namespace Rows
def none {H : Type} : Left H := { results := [], args := [] }

/-- 'pointcodelaw18.RestartsPlay': WHATEVER THE INPUT: true; the input reads as it did. -/
def restartsPlaySpec : ChangeSpec := { name := "restartsPlay", fn := fun _ => fun
  | [d1, d2, d3] => { results := [.lit (.bool true)], args := [d1, d2, d3] }
  | _ => none }
def restartsPlayRow : OpenClaim := { program := "ytofdmfibffcojaa", sum := "9d19470c3503ae10b133ef1ee0f82a9e98dad40f2c6987c8382f9fa8444f14b2", func := "pointcode/pointcodelaw18.RestartsPlay", spec := "restartsPlay", apart := false }
def RestartsPlaySaid : Prop := restartsPlayRow.holds Try.pinned (OpenSpec.ofChange restartsPlaySpec)

/-- ITS FALSE NEIGHBOUR: 'it returns false'. Refute it at one input. -/
def restartsPlayWrong : ChangeSpec := { name := "restartsPlay", fn := fun _ => fun
  | [d1, d2, d3] => { results := [.lit (.bool false)], args := [d1, d2, d3] }
  | _ => none }
def RestartsPlayWrongFalsely : Prop := restartsPlayRow.holds Try.pinned (OpenSpec.ofChange restartsPlayWrong)

/-- 'pointcodelaw18.RestartsEnd': WHATEVER THE INPUT: true; the input reads as it did. -/
def restartsEndSpec : ChangeSpec := { name := "restartsEnd", fn := fun _ => fun
  | [d1, d2, d3] => { results := [.lit (.bool true)], args := [d1, d2, d3] }
  | _ => none }
def restartsEndRow : OpenClaim := { program := "ytofdmfibffcojaa", sum := "9d19470c3503ae10b133ef1ee0f82a9e98dad40f2c6987c8382f9fa8444f14b2", func := "pointcode/pointcodelaw18.RestartsEnd", spec := "restartsEnd", apart := false }
def RestartsEndSaid : Prop := restartsEndRow.holds Try.pinned (OpenSpec.ofChange restartsEndSpec)

/-- ITS FALSE NEIGHBOUR: 'it returns false'. Refute it at one input. -/
def restartsEndWrong : ChangeSpec := { name := "restartsEnd", fn := fun _ => fun
  | [d1, d2, d3] => { results := [.lit (.bool false)], args := [d1, d2, d3] }
  | _ => none }
def RestartsEndWrongFalsely : Prop := restartsEndRow.holds Try.pinned (OpenSpec.ofChange restartsEndWrong)

/-- 'pointcodelaw18.RestartsTime': WHATEVER THE INPUT: true; the input reads as it did. -/
def restartsTimeSpec : ChangeSpec := { name := "restartsTime", fn := fun _ => fun
  | [d1, d2, d3] => { results := [.lit (.bool true)], args := [d1, d2, d3] }
  | _ => none }
def restartsTimeRow : OpenClaim := { program := "ytofdmfibffcojaa", sum := "9d19470c3503ae10b133ef1ee0f82a9e98dad40f2c6987c8382f9fa8444f14b2", func := "pointcode/pointcodelaw18.RestartsTime", spec := "restartsTime", apart := false }
def RestartsTimeSaid : Prop := restartsTimeRow.holds Try.pinned (OpenSpec.ofChange restartsTimeSpec)

/-- ITS FALSE NEIGHBOUR: 'it returns false'. Refute it at one input. -/
def restartsTimeWrong : ChangeSpec := { name := "restartsTime", fn := fun _ => fun
  | [d1, d2, d3] => { results := [.lit (.bool false)], args := [d1, d2, d3] }
  | _ => none }
def RestartsTimeWrongFalsely : Prop := restartsTimeRow.holds Try.pinned (OpenSpec.ofChange restartsTimeWrong)

/-- 'pointcodelaw18.RestartsErrors': WHATEVER THE INPUT: true; the input reads as it did. -/
def restartsErrorsSpec : ChangeSpec := { name := "restartsErrors", fn := fun _ => fun
  | [d1, d2, d3] => { results := [.lit (.bool true)], args := [d1, d2, d3] }
  | _ => none }
def restartsErrorsRow : OpenClaim := { program := "ytofdmfibffcojaa", sum := "9d19470c3503ae10b133ef1ee0f82a9e98dad40f2c6987c8382f9fa8444f14b2", func := "pointcode/pointcodelaw18.RestartsErrors", spec := "restartsErrors", apart := false }
def RestartsErrorsSaid : Prop := restartsErrorsRow.holds Try.pinned (OpenSpec.ofChange restartsErrorsSpec)

/-- ITS FALSE NEIGHBOUR: 'it returns false'. Refute it at one input. -/
def restartsErrorsWrong : ChangeSpec := { name := "restartsErrors", fn := fun _ => fun
  | [d1, d2, d3] => { results := [.lit (.bool false)], args := [d1, d2, d3] }
  | _ => none }
def RestartsErrorsWrongFalsely : Prop := restartsErrorsRow.holds Try.pinned (OpenSpec.ofChange restartsErrorsWrong)

/- THE SECOND FORM. 'bulk': how many values and letters a reading holds, each counted each time it is reached (what is shared counts as often as it is met; a slice's spare places count too). A statement '..UptoSaid' is the law's where the arguments, and the package variables that the reading takes, are together of bulk at most 1048576: NARROWER than '..Said'. Prove '..Said' where nothing that the law and all that it calls make is longer than what came in: it says more and counts as full. Else prove '..UptoSaid'. A law counts once. -/
mutual
def uptoBulk {H : Type} : DataW H → Nat
  | .lit (.string bytes) => bytes.length + 1
  | .lit _ => 1
  | .nil => 1
  | .ptr d => uptoBulk d + 1
  | .slice elems spare => uptoBulkAll elems + uptoBulkAll spare + 1
  | .agg parts => uptoBulkAll parts + 1
  | .iface _ d => uptoBulk d + 1
  | .map entries => uptoBulkEntries entries + 1
  | .held _ => 1
def uptoBulkAll {H : Type} : List (DataW H) → Nat
  | [] => 0
  | d :: r => uptoBulk d + uptoBulkAll r
def uptoBulkEntries {H : Type} : List (Lit × DataW H) → Nat
  | [] => 0
  | x :: r => uptoBulkEntry x + uptoBulkEntries r
def uptoBulkEntry {H : Type} : Lit × DataW H → Nat
  | (.string bytes, d) => bytes.length + uptoBulk d + 1
  | (_, d) => uptoBulk d + 1
 end
def uptoSmall : (H : Type) → List (DataW H) → Bool := fun _ ds => decide (uptoBulkAll ds ≤ 1048576)
def OpenSpec.upto (s : _root_.Go.ChangeSpec) : _root_.Go.OpenSpec := { _root_.Go.OpenSpec.ofChange s with cond := some uptoSmall }

/-- 'pointcodelaw18.RestartsPlay', WHERE WHAT IT READS IS OF BULK AT MOST 1048576: true; the input reads as it did. -/
def restartsPlayUptoRow : OpenClaim := { program := "ytofdmfibffcojaa", sum := "9d19470c3503ae10b133ef1ee0f82a9e98dad40f2c6987c8382f9fa8444f14b2", func := "pointcode/pointcodelaw18.RestartsPlay", spec := "restartsPlay", apart := false, narrowed := true }
def RestartsPlayUptoSaid : Prop := restartsPlayUptoRow.holds Try.pinned (OpenSpec.upto restartsPlaySpec)

/-- 'pointcodelaw18.RestartsEnd', WHERE WHAT IT READS IS OF BULK AT MOST 1048576: true; the input reads as it did. -/
def restartsEndUptoRow : OpenClaim := { program := "ytofdmfibffcojaa", sum := "9d19470c3503ae10b133ef1ee0f82a9e98dad40f2c6987c8382f9fa8444f14b2", func := "pointcode/pointcodelaw18.RestartsEnd", spec := "restartsEnd", apart := false, narrowed := true }
def RestartsEndUptoSaid : Prop := restartsEndUptoRow.holds Try.pinned (OpenSpec.upto restartsEndSpec)

/-- 'pointcodelaw18.RestartsTime', WHERE WHAT IT READS IS OF BULK AT MOST 1048576: true; the input reads as it did. -/
def restartsTimeUptoRow : OpenClaim := { program := "ytofdmfibffcojaa", sum := "9d19470c3503ae10b133ef1ee0f82a9e98dad40f2c6987c8382f9fa8444f14b2", func := "pointcode/pointcodelaw18.RestartsTime", spec := "restartsTime", apart := false, narrowed := true }
def RestartsTimeUptoSaid : Prop := restartsTimeUptoRow.holds Try.pinned (OpenSpec.upto restartsTimeSpec)

/-- 'pointcodelaw18.RestartsErrors', WHERE WHAT IT READS IS OF BULK AT MOST 1048576: true; the input reads as it did. -/
def restartsErrorsUptoRow : OpenClaim := { program := "ytofdmfibffcojaa", sum := "9d19470c3503ae10b133ef1ee0f82a9e98dad40f2c6987c8382f9fa8444f14b2", func := "pointcode/pointcodelaw18.RestartsErrors", spec := "restartsErrors", apart := false, narrowed := true }
def RestartsErrorsUptoSaid : Prop := restartsErrorsUptoRow.holds Try.pinned (OpenSpec.upto restartsErrorsSpec)

end Rows
end Go.Proofs.Ytofdmfibffcojaa
