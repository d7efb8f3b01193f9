import Derived.Test.YthfhdmogocphpaaTOwn
import Derived.Test.YthfhdmogocphpaaAmNames
/- What the law's check and transactions.Check return. -/
namespace Go.Proofs.Ythfhdmogocphpaa
open Go.RowKit Go.Am

def sy (n : Nat) : Value := .float .f64 n

/-- the kinds -/
inductive Kd | lo | hi | k1 | k2 | k3 | k4
def Kd.v : Kd → Value
  | .lo => sy 0
  | .hi => sy 0
  | .k1 => .int .u8 1
  | .k2 => .int .u8 2
  | .k3 => .int .u8 3
  | .k4 => .int .u8 4
def kfs (b : Bool) : List (BinOp × Value × Value × Value) :=
  [(.eql, sy 0, .int .u8 1, .bool false), (.eql, sy 0, .int .u8 2, .bool false), (.eql, sy 0, .int .u8 3, .bool false), (.eql, sy 0, .int .u8 4, .bool false), (.lss, sy 0, .int .u8 1, .bool b), (.gtr, sy 0, .int .u8 4, .bool !b), (.gtr, sy 0, .int .u8 1, .bool !b)]
def Kd.fs : Kd → List (BinOp × Value × Value × Value)
  | .lo => kfs true
  | .hi => kfs false
  | _ => []
def bfs (a b d e g : Bool) : List (BinOp × Value × Value × Value) :=
  [(.gtr, sy 1, .int .u32 0, .bool a), (.eql, sy 1, .int .u32 0, .bool !a), (.gtr, sy 2, .int .u32 0, .bool b), (.eql, sy 2, .int .u32 0, .bool !b), (.gtr, sy 3, .int .u8 0, .bool d), (.eql, sy 3, .int .u8 0, .bool !d),
    (.gtr, sy 5, .int .i64 3800, .bool e), (.gtr, sy 5, .int .i64 0, .bool g), (.eql, sy 5, .int .i64 0, .bool !g)]

/-- the facts: From > 0, To > 0, Cause > 0, more than 3800 bytes, some bytes -/
def XC (k : Kd) (a b d e g : Bool) : Facts :=
  { bin := k.fs ++ bfs a b d e g
    un := []
    conv := []
    len := [(35, sy 4, sy 5)]
    made := []
    keys := [] }
def chkB (k : Kd) (a b d e g : Bool) : Int :=
  match e with
  | true => 3
  | false =>
    match (match k with
      | .lo | .hi => false
      | .k1 => a && !b && !d
      | .k2 => a && b && !d
      | .k3 => !a && b && !d
      | .k4 => !a && b && d && !g) with
    | true => 0
    | false => 1
def codeC (n : Int) : Res (AEnd × AW) → Bool
  | .ok (.returned (.int .i64 m), _) => decide (n = m)
  | _ => false
noncomputable def runC (f : FuncId) (k : Kd) (a b d e g : Bool) : Res (AEnd × AW) :=
  Am.call Try.prog (XC k a b d e g) Ext.none 10000 f #[.agg #[k.v, sy 1, sy 2, sy 3, sy 4]] { objs := .leaf, next := 6 }

theorem runs24 (k : Kd) (a b d e g : Bool) : codeC (chkB k a b d e g) (runC 24 k a b d e g) = true := by
  cases k <;> cases a <;> cases b <;> cases d <;> cases e <;> cases g <;> kernel_rfl
theorem runs29 (k : Kd) (a b d e g : Bool) : codeC (chkB k a b d e g) (runC 29 k a b d e g) = true := by
  cases k <;> cases a <;> cases b <;> cases d <;> cases e <;> cases g <;> kernel_rfl

def kdOf (k : Int) : Kd := if k = 1 then .k1 else if k = 2 then .k2 else if k = 3 then .k3 else if k = 4 then .k4 else if k < 1 then .lo else .hi
def chk (k fr t c : Int) (n : Nat) : Int := chkB (kdOf k) (decide (0 < fr)) (decide (0 < t)) (decide (0 < c)) (decide ((3800 : Int) < n)) (decide ((0 : Int) < n))
def valsC (k fr t c : Int) (body : Value) (n : Nat) : List Value := [.int .u8 k, .int .u32 fr, .int .u32 t, .int .u8 c, body, .int .i64 n]

theorem kd_v (k fr t c : Int) (body : Value) (n : Nat) : den (valsC k fr t c body n) (kdOf k).v = some (.int .u8 k) := by
  unfold kdOf
  repeat' split
  all_goals (try subst k)
  all_goals rfl

theorem one_bin {P : Program} {vals : List Value} {op : BinOp} {x y r : Value} {k k' : IntKind} {a b : Int} {c : Value} (ha : den vals x = some (.int k a)) (hb : den vals y = some (.int k' b)) (hc : den vals r = some c) (hn : notCell c = false) (h : intBin op (.int k a) (.int k' b) = some c) :
    ∃ a b c, den vals x = some a ∧ den vals y = some b ∧ den vals r = some c ∧ notCell c = false ∧ BinOk P op a b c := ⟨_, _, c, ha, hb, hc, hn, intBin_ok h⟩

theorem eq_zero {x : Int} (h : 0 ≤ x) : decide (x = 0) = !decide (0 < x) := by
  by_cases g : 0 < x
  · rw [decide_eq_false (by omega), decide_eq_true g]; rfl
  · rw [decide_eq_true (by omega), decide_eq_false g]; rfl

theorem binsK {P : Program} {k fr t c : Int} {body : Value} {n : Nat} : BinsOk P (valsC k fr t c body n) (kdOf k).fs := by
  have nil : BinsOk P (valsC k fr t c body n) [] := fun e h => absurd h (by simp)
  unfold kdOf
  split
  · exact nil
  split
  · exact nil
  split
  · exact nil
  split
  · exact nil
  split
  all_goals
    simp only [Kd.fs, kfs, BinsOk, List.forall_mem_cons]
    refine ⟨?_, ?_, ?_, ?_, ?_, ?_, ?_, fun e h => by simp at h⟩ <;>
    · refine one_bin (k := .u8) (a := k) rfl rfl rfl rfl ?_
      simp [intBin]
      try omega

theorem binsB {P : Program} {k fr t c : Int} {body : Value} {n : Nat} (h1 : 0 ≤ fr) (h2 : 0 ≤ t) (h3 : 0 ≤ c) : BinsOk P (valsC k fr t c body n) (bfs (decide (0 < fr)) (decide (0 < t)) (decide (0 < c)) (decide ((3800 : Int) < n)) (decide ((0 : Int) < n))) := by
  have e1 := eq_zero h1
  have e2 := eq_zero h2
  have e3 := eq_zero h3
  have e4 := eq_zero (Int.natCast_nonneg n)
  simp only [bfs, BinsOk, List.forall_mem_cons]
  refine ⟨?_, ?_, ?_, ?_, ?_, ?_, ?_, ?_, ?_, fun e h => by simp at h⟩
  · exact one_bin (k := .u32) (a := fr) rfl rfl rfl rfl rfl
  · exact one_bin (k := .u32) (a := fr) rfl rfl rfl rfl (by rw [← e1]; rfl)
  · exact one_bin (k := .u32) (a := t) rfl rfl rfl rfl rfl
  · exact one_bin (k := .u32) (a := t) rfl rfl rfl rfl (by rw [← e2]; rfl)
  · exact one_bin (k := .u8) (a := c) rfl rfl rfl rfl rfl
  · exact one_bin (k := .u8) (a := c) rfl rfl rfl rfl (by rw [← e3]; rfl)
  · exact one_bin (k := .i64) (a := n) rfl rfl rfl rfl rfl
  · exact one_bin (k := .i64) (a := n) rfl rfl rfl rfl rfl
  · exact one_bin (k := .i64) (a := n) rfl rfl rfl rfl (by rw [← e4]; rfl)

theorem BinsOk.append {P : Program} {vals : List Value} {l m : List (BinOp × Value × Value × Value)} (h : BinsOk P vals l) (k : BinsOk P vals m) : BinsOk P vals (l ++ m) :=
  fun e he => (List.mem_append.1 he).elim (h e) (k e)

theorem factsC {w0 : World} {more : Nat → Am.Loc → Prop} {k fr t c : Int} {a : Option Addr} {n cap : Nat} (h1 : 0 ≤ fr) (h2 : 0 ≤ t) (h3 : 0 ≤ c) :
    FactsOk Try.prog (XC (kdOf k) (decide (0 < fr)) (decide (0 < t)) (decide (0 < c)) (decide ((3800 : Int) < n)) (decide ((0 : Int) < n))) (own0 w0 (valsC k fr t c (.slice a n cap) n) more) :=
  { bin := bins_ok (BinsOk.append binsK (binsB h1 h2 h3))
    un := fun _ _ _ h => by simp [XC] at h
    conv := fun _ _ _ _ h => by simp [XC] at h
    made := fun _ _ _ h => by simp [XC] at h
    keys := fun _ _ _ h => by simp [XC] at h
    len := by
      intro t x r h ρ hS ts ty args x' w hts ha hx
      simp only [XC, List.mem_cons, List.not_mem_nil, or_false, Prod.mk.injEq] at h
      obtain ⟨rfl, rfl, rfl⟩ := h
      have hx' := den_eq hS (u := .slice a n cap) rfl hx
      subst hx'
      exact ⟨.int .i64 n, len_slice Try.underlying35 hts ha w, den_rel hS rfl rfl⟩ }

theorem chk_call {f : FuncId} (hf : f = 24 ∨ f = 29) {k fr t c : Int} {a : Option Addr} {n cap : Nat} (h1 : 0 ≤ fr) (h2 : 0 ≤ t) (h3 : 0 ≤ c) (w : World) :
    Calls Try.prog f #[.agg #[.int .u8 k, .int .u32 fr, .int .u32 t, .int .u8 c, .slice a n cap]] w fun e w' => e = .returned (.int .i64 (chk k fr t c n)) ∧ Below w.heap.size w w' := by
  have hrun : codeC (chk k fr t c n) (runC f (kdOf k) (decide (0 < fr)) (decide (0 < t)) (decide (0 < c)) (decide ((3800 : Int) < n)) (decide ((0 : Int) < n))) = true := by
    rcases hf with rfl | rfl
    · exact runs24 _ _ _ _ _ _
    · exact runs29 _ _ _ _ _ _
  generalize hr : runC f (kdOf k) (decide (0 < fr)) (decide (0 < t)) (decide (0 < c)) (decide ((3800 : Int) < n)) (decide ((0 : Int) < n)) = r at hrun
  unfold codeC at hrun
  split at hrun
  · rename_i m σ'
    simp only [decide_eq_true_eq] at hrun
    subst hrun
    unfold runC at hr
    have hR := Am.start w (valsC k fr t c (.slice a n cap) n) (fun _ _ => True) (n := 6) (by simp [valsC]) (by decide)
    have hS := hR.says
    refine (calls (factsC h1 h2 h3) (ExtOk.none _ _ _) hr (ρ := names (valsC k fr t c (.slice a n cap) n)) (args' := #[.agg #[.int .u8 k, .int .u32 fr, .int .u32 t, .int .u8 c, .slice a n cap]]) ?_ hR).mono ?_
    · refine ⟨rfl, ?_⟩
      intro i v v' e1 e2
      match i, e1, e2 with
      | 0, e1, e2 =>
        simp at e1 e2
        subst e1; subst e2
        refine .agg rfl ?_
        intro j u u' e1 e2
        match j, e1, e2 with
        | 0, e1, e2 => simp at e1 e2; subst e1; subst e2; exact den_rel hS (kd_v _ _ _ _ _ _) rfl
        | 1, e1, e2 => simp at e1 e2; subst e1; subst e2; exact den_rel hS rfl rfl
        | 2, e1, e2 => simp at e1 e2; subst e1; subst e2; exact den_rel hS rfl rfl
        | 3, e1, e2 => simp at e1 e2; subst e1; subst e2; exact den_rel hS rfl rfl
        | 4, e1, e2 => simp at e1 e2; subst e1; subst e2; exact den_rel hS rfl rfl
        | j + 5, e1, e2 => simp at e1
      | i + 1, e1, e2 => simp at e1
    · rintro e w' ⟨ρ', _, he, hR'⟩
      cases e with
      | returned v' =>
        rw [VRel.int_inv he]
        exact ⟨rfl, hR'.os, hR'.tape, hR'.output, hR'.size, fun j hj => hR'.block j (by simp [own0]; omega)⟩
      | panicked ch => exact he.elim
      | outgrown => exact he.elim
  · exact absurd hrun (by simp)

end Go.Proofs.Ythfhdmogocphpaa
