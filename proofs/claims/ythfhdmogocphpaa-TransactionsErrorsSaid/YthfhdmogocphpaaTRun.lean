import Derived.Test.YthfhdmogocphpaaTChk
/- TransactionsErrors: the symbolic runs. -/
namespace Go.Proofs.Ythfhdmogocphpaa
open Go.RowKit Go.Am

inductive Cs | bad | k1 | k2 | k3 | k4
def Cs.v : Cs → Value
  | .bad => sy 1
  | .k1 => .int .u8 1
  | .k2 => .int .u8 2
  | .k3 => .int .u8 3
  | .k4 => .int .u8 4
def Cs.r : Cs → Value
  | .bad => sy 13
  | _ => .int .i64 0
def Cs.fs : Cs → List (BinOp × Value × Value × Value)
  | .bad => [(.neq, sy 13, .int .i64 0, .bool true), (.eql, sy 13, .int .i64 0, .bool false), (.neq, sy 13, sy 13, .bool false), (.eql, sy 13, sy 13, .bool true)]
  | _ => []
def msg (c : Cs) : Value := .agg #[c.v, sy 2, sy 3, sy 4, sy 5]
def fs5 (bp bb bz : Bool) : List (BinOp × Value × Value × Value) :=
  [(.gtr, sy 0, .int .u16 16383, .bool bp), (.gtr, sy 10, .int .i64 4000, .bool false), (.rem, sy 11, .int .i64 4000, sy 12), (.gtr, sy 12, .int .i64 3800, .bool bb),
    (.rem, sy 7, .int .u16 256, sy 16), (.lss, sy 16, .int .u16 128, .bool bz), (.lss, sy 17, .int .u8 128, .bool bz), (.add, sy 18, .int .u32 2, sy 19)]
def X5 (c : Cs) (bp bb bz : Bool) : Facts :=
  { bin := c.fs ++ fs5 bp bb bz
    un := []
    conv := [(38, 3, sy 6, sy 11), (38, 39, sy 0, sy 0), (38, 5, sy 7, sy 17), (38, 25, sy 8, sy 18)]
    len := [(35, sy 5, sy 10), (35, sy 24, sy 12)]
    made := [(35, sy 12, 24)]
    keys := [(25, sy 3, []), (25, sy 19, [1])] }
def isBody (v : Value) : Bool := sameN 2 v (sy 5) || sameN 2 v (sy 24)
def Y5 (c : Cs) : Ext := fun f args σ =>
  match f with
  | 8 => match args.toList with
    | [] => some (.returned (.bool true), σ)
    | _ => none
  | 24 | 29 => match args.toList with
    | [m] => match sameN 3 m (msg c) with
      | true => some (.returned c.r, σ)
      | false => none
    | _ => none
  | 41 => match args.toList with
    | [v] => match isBody v, Nat.blt σ.next (2 ^ D), Nat.blt 24 σ.next with
      | true, true, true => some (.returned (sy σ.next), σ.name)
      | _, _, _ => none
    | _ => none
  | _ => none
def X6 : Facts := { bin := [(.gtr, sy 10, .int .i64 4000, .bool true)], un := [], conv := [], len := [(35, sy 5, sy 10)], made := [], keys := [] }
def good : Res (AEnd × AW) → Bool
  | .ok (.returned (.bool true), _) => true
  | _ => false
noncomputable def run5 (X : Facts) (c : Cs) : Res (AEnd × AW) :=
  Am.call Try.prog X (Y5 c) 100000 5 #[sy 0, msg c, .agg #[sy 6, sy 7, sy 8]] { objs := .leaf, next := 20 }

theorem runs6 : good (run5 X6 .bad) = true := by kernel_rfl
theorem runs5 (c : Cs) (bp bb bz : Bool) : good (run5 (X5 c bp bb bz) c) = true := by
  cases c <;> cases bp <;> cases bb <;> cases bz <;> kernel_rfl

noncomputable def run8 : Res (AEnd × AW) := Am.call Try.prog .none Ext.none 100000 8 #[] { objs := .leaf, next := 0 }
theorem runs8 : good run8 = true := by kernel_rfl

theorem lives_ok (w : World) : Calls Try.prog 8 #[] w fun e w' => e = .returned (.bool true) ∧ Below w.heap.size w w' := by
  have h := runs8
  generalize hr : run8 = r at h
  unfold good at h
  split at h
  · exact calls_closed hr rfl w
  · exact absurd h (by simp)

end Go.Proofs.Ythfhdmogocphpaa
