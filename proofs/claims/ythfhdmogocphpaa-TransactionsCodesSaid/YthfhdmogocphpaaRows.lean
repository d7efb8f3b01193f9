/-
  No cell of these rows narrows 'for every input' (looked for: loops, veiled, ifaces, maps, wideKeys, modest, calm, conditions, laid).
  DERIVED. THE GIVEN ROWS OF THIS SEAT. 5 by the template 'for every input the law returns true; each argument reads behind the call as it read before'; 0 by the template 'total and deterministic' (their statements: YthfhdmogocphpaaTotals.lean).
  GIVEN WITH THE SEED: the statements are not yours to turn. If you find one false, say at which input.
  Laid BY PROGRAM, IN A SANDBOX (cutbox-rows.mjs): the forced cells as the released guide's own fill.sh prints them over the translation a367f4a717df5907… (all of the seat's roots in one cut). By AI agents, Wed Nov 11 2026. No macro, syntax, notation, axiom, sorry.
-/
import Derived.Test.YthfhdmogocphpaaChecked
import GoSem.Claim
import GoSem.ClaimJoined
import GoSem.ClaimMapViews
import Derived.JoinedTies
import Derived.KernelRfl
namespace Go.Proofs.Ythfhdmogocphpaa
/- THE CELL 'sum', in the pinned program and in every row, IS THE sha256 OF THE DUMP (.gsa) THAT YthfhdmogocphpaaProg.lean LOADS. Nothing in Lean hashes anything: it is a label: what it is worth is what the hold of that sum in a sandbox is worth. -/
noncomputable def Try.pinned : Pinned := { name := "ythfhdmogocphpaa", sum := "a367f4a717df590711ea8cd645d883a5604c0bf386625094854aa154f4b25bad", checked := Try.checked }
namespace Rows
def none {H : Type} : Left H := { results := [], args := [] }

/-- 'pointcodelaw29.TransactionsActs': WHATEVER THE INPUT: true; the input reads as it did. -/
def transactionsActsSpec : ChangeSpec := { name := "transactionsActs", fn := fun _ => fun
  | [d1, d2] => { results := [.lit (.bool true)], args := [d1, d2] }
  | _ => none }
def transactionsActsRow : OpenClaim := { program := "ythfhdmogocphpaa", sum := "a367f4a717df590711ea8cd645d883a5604c0bf386625094854aa154f4b25bad", func := "pointcode/pointcodelaw29.TransactionsActs", spec := "transactionsActs", unfollowed := true, recurses := true, apart := false }
def TransactionsActsSaid : Prop := transactionsActsRow.holds Try.pinned (OpenSpec.ofChange transactionsActsSpec)

/-- ITS FALSE NEIGHBOUR: 'it returns false'. Refute it at one input. -/
def transactionsActsWrong : ChangeSpec := { name := "transactionsActs", fn := fun _ => fun
  | [d1, d2] => { results := [.lit (.bool false)], args := [d1, d2] }
  | _ => none }
def TransactionsActsWrongFalsely : Prop := transactionsActsRow.holds Try.pinned (OpenSpec.ofChange transactionsActsWrong)

/-- 'pointcodelaw29.TransactionsPairs': WHATEVER THE INPUT: true; the input reads as it did. -/
def transactionsPairsSpec : ChangeSpec := { name := "transactionsPairs", fn := fun _ => fun
  | [d1, d2] => { results := [.lit (.bool true)], args := [d1, d2] }
  | _ => none }
def transactionsPairsRow : OpenClaim := { program := "ythfhdmogocphpaa", sum := "a367f4a717df590711ea8cd645d883a5604c0bf386625094854aa154f4b25bad", func := "pointcode/pointcodelaw29.TransactionsPairs", spec := "transactionsPairs", unfollowed := true, recurses := true, apart := false }
def TransactionsPairsSaid : Prop := transactionsPairsRow.holds Try.pinned (OpenSpec.ofChange transactionsPairsSpec)

/-- ITS FALSE NEIGHBOUR: 'it returns false'. Refute it at one input. -/
def transactionsPairsWrong : ChangeSpec := { name := "transactionsPairs", fn := fun _ => fun
  | [d1, d2] => { results := [.lit (.bool false)], args := [d1, d2] }
  | _ => none }
def TransactionsPairsWrongFalsely : Prop := transactionsPairsRow.holds Try.pinned (OpenSpec.ofChange transactionsPairsWrong)

/-- 'pointcodelaw29.TransactionsErrors': WHATEVER THE INPUT: true; the input reads as it did. -/
def transactionsErrorsSpec : ChangeSpec := { name := "transactionsErrors", fn := fun _ => fun
  | [d1, d2, d3] => { results := [.lit (.bool true)], args := [d1, d2, d3] }
  | _ => none }
def transactionsErrorsRow : OpenClaim := { program := "ythfhdmogocphpaa", sum := "a367f4a717df590711ea8cd645d883a5604c0bf386625094854aa154f4b25bad", func := "pointcode/pointcodelaw29.TransactionsErrors", spec := "transactionsErrors", unfollowed := true, recurses := true, apart := false }
def TransactionsErrorsSaid : Prop := transactionsErrorsRow.holds Try.pinned (OpenSpec.ofChange transactionsErrorsSpec)

/-- ITS FALSE NEIGHBOUR: 'it returns false'. Refute it at one input. -/
def transactionsErrorsWrong : ChangeSpec := { name := "transactionsErrors", fn := fun _ => fun
  | [d1, d2, d3] => { results := [.lit (.bool false)], args := [d1, d2, d3] }
  | _ => none }
def TransactionsErrorsWrongFalsely : Prop := transactionsErrorsRow.holds Try.pinned (OpenSpec.ofChange transactionsErrorsWrong)

/-- 'pointcodelaw29.TransactionsCodes': WHATEVER THE INPUT: true; the input reads as it did. -/
def transactionsCodesSpec : ChangeSpec := { name := "transactionsCodes", fn := fun _ => fun
  | [d1, d2, d3] => { results := [.lit (.bool true)], args := [d1, d2, d3] }
  | _ => none }
def transactionsCodesRow : OpenClaim := { program := "ythfhdmogocphpaa", sum := "a367f4a717df590711ea8cd645d883a5604c0bf386625094854aa154f4b25bad", func := "pointcode/pointcodelaw29.TransactionsCodes", spec := "transactionsCodes", unfollowed := true, recurses := true, apart := false }
def TransactionsCodesSaid : Prop := transactionsCodesRow.holds Try.pinned (OpenSpec.ofChange transactionsCodesSpec)

/-- ITS FALSE NEIGHBOUR: 'it returns false'. Refute it at one input. -/
def transactionsCodesWrong : ChangeSpec := { name := "transactionsCodes", fn := fun _ => fun
  | [d1, d2, d3] => { results := [.lit (.bool false)], args := [d1, d2, d3] }
  | _ => none }
def TransactionsCodesWrongFalsely : Prop := transactionsCodesRow.holds Try.pinned (OpenSpec.ofChange transactionsCodesWrong)

/-- 'pointcodelaw29.TransactionsKnown': WHATEVER THE INPUT: true; the input reads as it did. -/
def transactionsKnownSpec : ChangeSpec := { name := "transactionsKnown", fn := fun _ => fun
  | [] => { results := [.lit (.bool true)], args := [] }
  | _ => none }
def transactionsKnownRow : OpenClaim := { program := "ythfhdmogocphpaa", sum := "a367f4a717df590711ea8cd645d883a5604c0bf386625094854aa154f4b25bad", func := "pointcode/pointcodelaw29.TransactionsKnown", spec := "transactionsKnown", unfollowed := true, recurses := true, apart := false }
def TransactionsKnownSaid : Prop := transactionsKnownRow.holds Try.pinned (OpenSpec.ofChange transactionsKnownSpec)

/-- ITS FALSE NEIGHBOUR: 'it returns false'. Refute it at one input. -/
def transactionsKnownWrong : ChangeSpec := { name := "transactionsKnown", fn := fun _ => fun
  | [] => { results := [.lit (.bool false)], args := [] }
  | _ => none }
def TransactionsKnownWrongFalsely : Prop := transactionsKnownRow.holds Try.pinned (OpenSpec.ofChange transactionsKnownWrong)

/- THE SECOND FORM. 'bulk': how many values and letters a reading holds, each counted each time it is reached (what is shared counts as often as it is met; a slice's spare places count too). A statement '..UptoSaid' is the law's where the arguments, and the package variables that the reading takes, are together of bulk at most 1048576: NARROWER than '..Said'. Prove '..Said' where nothing that the law and all that it calls make is longer than what came in: it says more and counts as full. Else prove '..UptoSaid'. A law counts once. -/
mutual
def uptoBulk {H : Type} : DataW H → Nat
  | .lit (.string bytes) => bytes.length + 1
  | .lit _ => 1
  | .nil => 1
  | .ptr d => uptoBulk d + 1
  | .slice elems spare => uptoBulkAll elems + uptoBulkAll spare + 1
  | .agg parts => uptoBulkAll parts + 1
  | .iface _ d => uptoBulk d + 1
  | .map entries => uptoBulkEntries entries + 1
  | .held _ => 1
def uptoBulkAll {H : Type} : List (DataW H) → Nat
  | [] => 0
  | d :: r => uptoBulk d + uptoBulkAll r
def uptoBulkEntries {H : Type} : List (Lit × DataW H) → Nat
  | [] => 0
  | x :: r => uptoBulkEntry x + uptoBulkEntries r
def uptoBulkEntry {H : Type} : Lit × DataW H → Nat
  | (.string bytes, d) => bytes.length + uptoBulk d + 1
  | (_, d) => uptoBulk d + 1
 end
def uptoSmall : (H : Type) → List (DataW H) → Bool := fun _ ds => decide (uptoBulkAll ds ≤ 1048576)
def OpenSpec.upto (s : _root_.Go.ChangeSpec) : _root_.Go.OpenSpec := { _root_.Go.OpenSpec.ofChange s with cond := some uptoSmall }

/-- 'pointcodelaw29.TransactionsActs', WHERE WHAT IT READS IS OF BULK AT MOST 1048576: true; the input reads as it did. -/
def transactionsActsUptoRow : OpenClaim := { program := "ythfhdmogocphpaa", sum := "a367f4a717df590711ea8cd645d883a5604c0bf386625094854aa154f4b25bad", func := "pointcode/pointcodelaw29.TransactionsActs", spec := "transactionsActs", unfollowed := true, recurses := true, apart := false, narrowed := true }
def TransactionsActsUptoSaid : Prop := transactionsActsUptoRow.holds Try.pinned (OpenSpec.upto transactionsActsSpec)

/-- 'pointcodelaw29.TransactionsPairs', WHERE WHAT IT READS IS OF BULK AT MOST 1048576: true; the input reads as it did. -/
def transactionsPairsUptoRow : OpenClaim := { program := "ythfhdmogocphpaa", sum := "a367f4a717df590711ea8cd645d883a5604c0bf386625094854aa154f4b25bad", func := "pointcode/pointcodelaw29.TransactionsPairs", spec := "transactionsPairs", unfollowed := true, recurses := true, apart := false, narrowed := true }
def TransactionsPairsUptoSaid : Prop := transactionsPairsUptoRow.holds Try.pinned (OpenSpec.upto transactionsPairsSpec)

/-- 'pointcodelaw29.TransactionsErrors', WHERE WHAT IT READS IS OF BULK AT MOST 1048576: true; the input reads as it did. -/
def transactionsErrorsUptoRow : OpenClaim := { program := "ythfhdmogocphpaa", sum := "a367f4a717df590711ea8cd645d883a5604c0bf386625094854aa154f4b25bad", func := "pointcode/pointcodelaw29.TransactionsErrors", spec := "transactionsErrors", unfollowed := true, recurses := true, apart := false, narrowed := true }
def TransactionsErrorsUptoSaid : Prop := transactionsErrorsUptoRow.holds Try.pinned (OpenSpec.upto transactionsErrorsSpec)

/-- 'pointcodelaw29.TransactionsCodes', WHERE WHAT IT READS IS OF BULK AT MOST 1048576: true; the input reads as it did. -/
def transactionsCodesUptoRow : OpenClaim := { program := "ythfhdmogocphpaa", sum := "a367f4a717df590711ea8cd645d883a5604c0bf386625094854aa154f4b25bad", func := "pointcode/pointcodelaw29.TransactionsCodes", spec := "transactionsCodes", unfollowed := true, recurses := true, apart := false, narrowed := true }
def TransactionsCodesUptoSaid : Prop := transactionsCodesUptoRow.holds Try.pinned (OpenSpec.upto transactionsCodesSpec)

/-- 'pointcodelaw29.TransactionsKnown', WHERE WHAT IT READS IS OF BULK AT MOST 1048576: true; the input reads as it did. -/
def transactionsKnownUptoRow : OpenClaim := { program := "ythfhdmogocphpaa", sum := "a367f4a717df590711ea8cd645d883a5604c0bf386625094854aa154f4b25bad", func := "pointcode/pointcodelaw29.TransactionsKnown", spec := "transactionsKnown", unfollowed := true, recurses := true, apart := false, narrowed := true }
def TransactionsKnownUptoSaid : Prop := transactionsKnownUptoRow.holds Try.pinned (OpenSpec.upto transactionsKnownSpec)

end Rows
end Go.Proofs.Ythfhdmogocphpaa
