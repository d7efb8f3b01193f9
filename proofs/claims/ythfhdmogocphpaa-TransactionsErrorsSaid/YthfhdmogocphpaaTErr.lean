import Derived.Test.YthfhdmogocphpaaTWlk
/- TransactionsErrors: the walk. -/
namespace Go.Proofs.Ythfhdmogocphpaa
open Go.RowKit Go.Am

variable {w0 : World} {g : Arg}

theorem chk_zero (k : Kd) (a b d e g : Bool) (h : chkB k a b d e g = 0) : k ≠ .lo ∧ k ≠ .hi := by
  cases k <;> cases e <;> simp_all [chkB]

theorem cs_of (g : Arg) : ∃ c, CsOk g c := by
  by_cases h0 : g.chk = 0
  · have h := chk_zero _ _ _ _ _ _ h0
    unfold kdOf at h
    by_cases h1 : g.k = 1
    · exact ⟨.k1, h0, h1⟩
    by_cases h2 : g.k = 2
    · exact ⟨.k2, h0, h2⟩
    by_cases h3 : g.k = 3
    · exact ⟨.k3, h0, h3⟩
    by_cases h4 : g.k = 4
    · exact ⟨.k4, h0, h4⟩
    rw [if_neg h1, if_neg h2, if_neg h3, if_neg h4] at h
    split at h
    · exact absurd rfl h.1
    · exact absurd rfl h.2
  · exact ⟨.bad, h0⟩

def Y6 : Ext := fun f args σ =>
  match f with
  | 8 => match args.toList with
    | [] => some (.returned (.bool true), σ)
    | _ => none
  | _ => none
noncomputable def run6 : Res (AEnd × AW) :=
  Am.call Try.prog X6 Y6 100000 5 #[sy 0, msg .bad, .agg #[sy 6, sy 7, sy 8]] { objs := .leaf, next := 20 }
theorem run6_good : good run6 = true := by kernel_rfl

theorem ext6 : ExtOk Try.prog w0 (own0 w0 g.vals g.more) Y6 := by
  intro f args σ e σ' h ρ w args' ha hR
  unfold Y6 at h
  split at h
  · split at h
    · rename_i hnil
      simp only [Option.some.injEq, Prod.mk.injEq] at h
      obtain ⟨rfl, rfl⟩ := h
      have := args_nil ha hnil
      subst this
      refine (lives_ok w).mono ?_
      rintro e w' ⟨rfl, hb⟩
      exact ⟨ρ, ρ.le_refl, .bool true, grow_below hR hb⟩
    · exact absurd h (by simp)
  · exact absurd h (by simp)

theorem args5 (w0 : World) {c : Cs} (hv : den g.vals c.v = some (.int .u8 g.k)) : ARel (names g.vals) #[sy 0, msg c, .agg #[sy 6, sy 7, sy 8]] #[.int .u16 g.p, g.msg, .agg #[.int .u16 g.x, .int .u16 g.y, .int .u16 g.z]] := by
  have hS : Says (own0 w0 g.vals g.more) (names g.vals) := (Am.start w0 g.vals g.more (n := 20) (by simp [Arg.vals]) (by decide)).says
  refine ⟨rfl, ?_⟩
  intro i v v' e1 e2
  match i, e1, e2 with
  | 0, e1, e2 => simp at e1 e2; subst e1; subst e2; exact den_rel hS rfl rfl
  | 1, e1, e2 => simp at e1 e2; subst e1; subst e2; exact msg_rel hS hv
  | 2, e1, e2 =>
    simp at e1 e2
    subst e1; subst e2
    refine .agg rfl ?_
    intro j u u' e1 e2
    match j, e1, e2 with
    | 0, e1, e2 => simp at e1 e2; subst e1; subst e2; exact den_rel hS rfl rfl
    | 1, e1, e2 => simp at e1 e2; subst e1; subst e2; exact den_rel hS rfl rfl
    | 2, e1, e2 => simp at e1 e2; subst e1; subst e2; exact den_rel hS rfl rfl
    | j + 3, e1, e2 => simp at e1
  | i + 3, e1, e2 => simp at e1

theorem fin5 {X : Facts} {Y : Ext} {c : Cs} (hv : den g.vals c.v = some (.int .u8 g.k)) (hX : FactsOk Try.prog X (own0 w0 g.vals g.more)) (hY : ExtOk Try.prog w0 (own0 w0 g.vals g.more) Y)
    (h : good (Am.call Try.prog X Y 100000 5 #[sy 0, msg c, .agg #[sy 6, sy 7, sy 8]] { objs := .leaf, next := 20 }) = true) :
    Calls Try.prog 5 #[.int .u16 g.p, g.msg, .agg #[.int .u16 g.x, .int .u16 g.y, .int .u16 g.z]] w0 fun e w' => e = .returned (.bool true) ∧ Below w0.heap.size w0 w' := by
  generalize hr : Am.call Try.prog X Y 100000 5 #[sy 0, msg c, .agg #[sy 6, sy 7, sy 8]] { objs := .leaf, next := 20 } = r at h
  unfold good at h
  split at h
  · have hR := Am.start w0 g.vals g.more (n := 20) (by simp [Arg.vals]) (by decide)
    refine (calls hX hY hr (args5 w0 hv) hR).mono ?_
    rintro e w' ⟨ρ', _, he, hR'⟩
    cases e with
    | returned v' =>
      have hv' : v' = .bool true := (plain_eq he rfl).symm
      rw [hv']
      exact ⟨rfl, hR'.os, hR'.tape, hR'.output, hR'.size, fun j hj => hR'.block j (by simp [own0]; omega)⟩
    | panicked ch => exact he.elim
    | outgrown => exact he.elim
  · exact absurd h (by simp)

theorem errors_walk (ok : g.Ok w0) :
    Calls Try.prog 5 #[.int .u16 g.p, g.msg, .agg #[.int .u16 g.x, .int .u16 g.y, .int .u16 g.z]] w0 fun e w' => e = .returned (.bool true) ∧ Below w0.heap.size w0 w' := by
  by_cases hn : g.n ≤ 4000
  · obtain ⟨c, hc⟩ := cs_of g
    exact fin5 (cs_v hc) (facts5 ok hn c (fun e => by subst e; exact hc)) (ext5 ok hn c hc) (runs5 c _ _ _)
  · exact fin5 (c := .bad) rfl (facts6 hn) ext6 run6_good

end Go.Proofs.Ythfhdmogocphpaa
