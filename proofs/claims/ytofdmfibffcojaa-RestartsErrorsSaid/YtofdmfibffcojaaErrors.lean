/-
  RestartsErrors: for any list of points and any two numbers, New returns the first error that applies, and a nil machine and the zero one answer with nothing.
  No condition.
-/
import Derived.Test.YtofdmfibffcojaaErrs
namespace Go.Proofs.Ytofdmfibffcojaa
open Go.ChangeShapes Go.WideShapes Go.ChangeAt Go.RowKit Go.PC

set_option maxRecDepth 100000 in
theorem errors_lifted (os : Os) (started : os.Started) (H : Type) (enc : TypeId × Value → H) :
    ReturnsInHanded {} Try.checked os 6 .any (Rows.restartsErrorsSpec.pre6 enc Try.prog Try.f6 Rows.restartsErrorsRow.domain false) (Rows.restartsErrorsSpec.post enc Try.prog Try.f6 false true false false) := by
  refine returnsInHanded_of_change (C := Try.checked) own started (by kernel_rfl) Try.func6
    (ChangeSpec.witness6 (enc := enc) (C := Try.checked) false ⟨#[], #[.slice none 0 0, .int .i64 0, .int .i64 0], []⟩ 8 (by kernel_rfl) (by kernel_rfl) (by kernel_rfl) (by kernel_rfl)) ?_
  intro W base args ds gs before hval0 hW hcnd _
  have hval : ∀ (j : Nat) t v, Try.f6.params[j]? = some t → args[j]? = some v → Value.okWide Try.prog W .any base t v := hval0
  have hW' := hW
  obtain ⟨p, q, hA0, hV, rfl, hfz, hnd⟩ := hW
  have hA : DataW.TrodAll enc Try.prog W 0 (fun _ => true) true Try.f6.params.toList args.toList ds p := hA0
  rw [Try.params6] at hA hval
  obtain ⟨v0, v1, v2, d0, d1, d2, p0, p1, p2, hargs, rfl, rfl, h0, h1, h2⟩ := trodAll_three hA
  obtain rfl : args = #[v0, v1, v2] := by cases args; simp_all
  obtain ⟨a0, len, cap, rfl⟩ := okWide_slice Try.underlying24 (hval 0 24 v0 rfl rfl)
  obtain ⟨a1, rfl, rfl, rfl, w1⟩ := open_int Try.underlying3 (hval 1 3 v1 rfl rfl) h1
  obtain ⟨a2, rfl, rfl, rfl, w2⟩ := open_int Try.underlying3 (hval 2 3 v2 rfl rfl) h2
  obtain ⟨fuel, hf⟩ := h0
  have hin : ∃ zs : List Int, zs.length = len ∧ Pts W a0 zs := by
    rcases open_ints Try.underlying24 Try.underlying26 (by kernel_rfl) hf with ⟨hcs, _⟩ | ⟨a, len', cap', zs, hcs, _, hl, hm, hz, _, hcell, hwz⟩
    · simp [Value.cells] at hcs
      obtain ⟨rfl, rfl, rfl⟩ := hcs
      exact ⟨[], rfl, by simp, Or.inl rfl⟩
    · simp [Value.cells] at hcs
      obtain ⟨rfl, rfl, rfl⟩ := hcs
      simp only [if_true] at hz
      refine ⟨zs.take len, by simp [hz, hl], fun z hz' => bounds_u16 (hwz z (List.mem_of_mem_take hz')), ?_⟩
      by_cases h0 : len = 0
      · left; subst h0; simp
      · right
        have hc0 := hcell 0 (by omega)
        obtain ⟨b, off, spot⟩ := a
        have hspot : spot = none := by simpa [Addr.add] using World.cell?_spot hc0
        subst hspot
        refine ⟨b, off, rfl, fun k hk => ?_⟩
        have hk' : k < len := by simp at hk; omega
        have := hcell k (by omega)
        rw [add_plain] at this
        rw [this]
        simp [hk']
  obtain ⟨zs, rfl, hP⟩ := hin
  have hwalk : Calls Try.prog 6 #[.slice a0 zs.length cap, .int .i64 a1, .int .i64 a2] W fun e w' => e = .returned (.bool true) ∧ Only (fun _ => False) W w' := by
    by_cases hb : 80 < zs.length
    · exact errs_long a0 zs cap a1 a2 hb W
    · exact errs_short a0 zs cap a1 a2 (by omega) W hP
  refine hwalk.mono fun e W' ⟨he, ho⟩ => ?_
  subst he
  exact ⟨_, rfl, law_post laidOut (by kernel_rfl) rfl rfl Try.underlying4 rfl hW' (below_of_only ho)⟩

theorem RestartsErrors : Rows.RestartsErrorsSaid :=
  OpenClaim.holds_of_wide 6 Try.f6 rfl rfl rfl rfl rfl rfl rfl ⟨rfl, rfl, rfl, rfl, rfl⟩ rfl rfl rfl rfl rfl (by kernel_rfl) Try.func6 (by kernel_rfl)
    (of_decide_eq_true (by kernel_rfl)) (by unfold Func.isWrapper; first | (rw [if_pos (by decide +kernel)]; kernel_rfl) | (rw [if_neg (by decide +kernel)]; exact ⟨rfl, rfl⟩))
    (fun os started H enc _ => errors_lifted os started H enc)
#print axioms RestartsErrors

end Go.Proofs.Ytofdmfibffcojaa
