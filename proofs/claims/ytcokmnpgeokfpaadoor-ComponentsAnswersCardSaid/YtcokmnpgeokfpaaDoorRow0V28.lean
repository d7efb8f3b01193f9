/-
  What the rows over the laid variables share: the condition, the door's own heap, what the examples' run needs.
-/
import Derived.Test.YtcokmnpgeokfpaaDoorRows
import Derived.Test.YtcokmnpgeokfpaaDoorLvV28
import Derived.Test.YtcokmnpgeokfpaaDoorVxD
import Derived.ProofKit
import Derived.LaidMore
import Derived.OpenShut
import Derived.Stop.Joined
import Derived.SizedLaws
set_option linter.unusedVariables false
set_option linter.unusedSimpArgs false
namespace Go.Proofs.YtcokmnpgeokfpaaDoor
open Go.ChangeShapes Go.WideShapes Go.ChangeAt Go.RowKit

/-- the variable that a wrong number's error holds reads as an error -/
def LivesAt (w : World) : Prop := ∃ te pe, w.cell? ⟨2, 0, none⟩ = some (.iface te pe)

theorem LivesAt.below {w w' : World} (h : LivesAt w) (hb : Below w.heap.size w w') : LivesAt w' := by
  obtain ⟨te, pe, h⟩ := h
  exact ⟨te, pe, (World.cell?_of_block (w := w) (hb.block _ (World.block_lt_of_cell? w _ h))).trans h⟩

theorem lives_at {w0 w : World} (h : LivesAt w0) (hb : Below w0.heap.size w0 w) : Calls Tryd.prog 29 #[] w fun e w' => e = .returned (.bool true) ∧ Below w.heap.size w w' := by
  obtain ⟨te, pe, h⟩ := h.below hb
  exact lives_ok w te pe h


noncomputable def laid5 : List (String × DataW Unit) := Rows.componentsAnswersRow.laid

theorem door_met (os : Os) (args : Array Value) : laidMetH Tryd.prog laid5 ((World.doorLaid Tryd.prog 400 os).forCall (fun _ _ => 0) ⟨#[], args, []⟩).memory :=
  laidMetH_of_parts3 (fuel := 8) (laidMet_of_run' 8 (by kernel_rfl) (by kernel_rfl)) (by kernel_rfl) (by kernel_rfl)

theorem gErr : Tryd.prog.globalNamed "strconv.ErrSyntax" = some 2 := by kernel_rfl
theorem tErr : (Tryd.prog.globals[2]?).map (·.type) = some 100 := by kernel_rfl

/-- the listed variable among those that are laid -/
theorem laid_at {P : Program} {W : World} {n : String} {d : DataW Unit} : ∀ {l : List (String × DataW Unit)} {ps : List MemPlace}, (n, d) ∈ l → DataW.LaidVars P W l ps →
    ∃ g t cs fuel p, P.globalNamed n = some g ∧ (P.globals[g]?).map (·.type) = some t ∧ W.var? P n = some cs ∧ DataW.trod (fun _ => ()) P W 0 (fun _ => true) false fuel t cs.toList = some (d, p)
  | [], _, h, _ => by simp at h
  | (m, e) :: l, ps, h, hl => by
    obtain ⟨g, t, cs, fuel, p, q, h1, h2, h3, h4, h5, _⟩ := hl
    rcases List.mem_cons.1 h with h | h
    · cases h; exact ⟨g, t, cs, fuel, p, h1, h2, h3, h4⟩
    · exact laid_at h h5

theorem lives_of_laid {W : World} (h : laidMetH Tryd.prog laid5 W) : LivesAt W := by
  have hin : ("strconv.ErrSyntax", Rows.laid_strconv_ErrSyntax) ∈ laid5 := by
    simp [laid5, Rows.componentsAnswersRow]
  have h : laidMet Tryd.prog laid5 W := by
    rw [MakeChecks.laidMetH_plain _ _ _ (by kernel_rfl)] at h
    exact h
  obtain ⟨ps, h1, _⟩ := h
  obtain ⟨g, t, cs, fuel, p, hg, ht, hv, hd⟩ := laid_at hin h1
  obtain rfl := Option.some.inj (gErr.symm.trans hg)
  obtain rfl := Option.some.inj (tErr.symm.trans ht)
  cases fuel with
  | zero => simp [DataW.trod] at hd
  | succ fuel =>
  have hc := World.var?_cell hg hv 0
  unfold Rows.laid_strconv_ErrSyntax at hd
  obtain ⟨l⟩ := cs
  unfold DataW.trod at hd
  simp only [Tryd.underlying100] at hd
  cases l with
  | nil => simp at hd
  | cons v l =>
    cases l with
    | cons _ _ => cases v <;> simp at hd
    | nil => cases v <;> first | (simp at hd; done) | exact ⟨_, _, by simpa using hc⟩
/-- .. as a contract -/
theorem lives_pto {W : World} (h : LivesAt W) : Go.Vx.PTo Tryd.prog W 29 #[] (.returned (.bool true)) := Go.Vx.PTo.closed fun w hb => lives_at h hb
end Go.Proofs.YtcokmnpgeokfpaaDoor
