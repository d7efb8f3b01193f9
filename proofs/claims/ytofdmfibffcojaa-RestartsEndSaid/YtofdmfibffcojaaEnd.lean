/-
  RestartsEnd: for 1 to 6 neighbors, any base and tick from 0 to 65535, and any choice of those that are up and of those that are done, a machine that restarts is ready as soon as all neighbors that are up are done, and at the latest after base ticks.
  No condition.
-/
import Derived.Test.YtofdmfibffcojaaEndW
import Derived.Test.YtofdmfibffcojaaOpen
namespace Go.Proofs.Ytofdmfibffcojaa
open Go.ChangeShapes Go.WideShapes Go.ChangeAt Go.RowKit Go.PC

theorem bounds_u8' {z : Int} (h : (Lit.int .u8 z).wf = true) : 0 ≤ z ∧ z ≤ 255 := by
  have e1 : IntKind.u8.min = 0 := by decide
  have e2 : IntKind.u8.max = 255 := by decide
  simp [Lit.wf, e1, e2] at h
  omega

set_option maxRecDepth 100000 in
theorem end_lifted (os : Os) (started : os.Started) (H : Type) (enc : TypeId × Value → H) :
    ReturnsInHanded {} Try.checked os 4 .any (Rows.restartsEndSpec.pre6 enc Try.prog Try.f4 Rows.restartsEndRow.domain false) (Rows.restartsEndSpec.post enc Try.prog Try.f4 false true false false) := by
  refine returnsInHanded_of_change (C := Try.checked) own started (by kernel_rfl) Try.func4
    (ChangeSpec.witness6 (enc := enc) (C := Try.checked) false ⟨#[], #[.int .u8 0, .agg #[.int .u16 0, .int .u16 0], .agg #[.int .u8 0, .int .u8 0]], []⟩ 8 (by kernel_rfl) (by kernel_rfl) (by kernel_rfl) (by kernel_rfl)) ?_
  intro W base args ds gs before hval0 hW hcnd _
  have hval : ∀ (j : Nat) t v, Try.f4.params[j]? = some t → args[j]? = some v → Value.okWide Try.prog W .any base t v := hval0
  have hW' := hW
  obtain ⟨p, q, hA0, hV, rfl, hfz, hnd⟩ := hW
  have hA : DataW.TrodAll enc Try.prog W 0 (fun _ => true) true Try.f4.params.toList args.toList ds p := hA0
  rw [Try.params4] at hA hval
  obtain ⟨v0, v1, v2, d0, d1, d2, p0, p1, p2, hargs, rfl, rfl, h0, h1, h2⟩ := trodAll_three hA
  obtain rfl : args = #[v0, v1, v2] := by cases args; simp_all
  obtain ⟨a0, rfl, rfl, rfl, w0⟩ := open_int Try.underlying5 (hval 0 5 v0 rfl rfl) h0
  obtain ⟨z0, z1, rfl, wz0, wz1⟩ := open_arr_ints2 Try.underlying40 Try.underlying25 (by kernel_rfl) (by kernel_rfl) (hval 1 40 v1 rfl rfl) h1
  obtain ⟨c0, c1, rfl, _, _⟩ := open_arr_ints2 Try.underlying41 Try.underlying5 (by kernel_rfl) (by kernel_rfl) (hval 2 41 v2 rfl rfl) h2
  have b0 := bounds_u8' w0
  have b1 := bounds_u16 wz0
  have b2 := bounds_u16 wz1
  refine (end_any a0 z0 z1 c0 c1 (1 + a0 % 6).toNat b0.1 b0.2 (by omega) b1.1 b1.2 b2.1 b2.2 W).mono fun e W' ⟨he, ho⟩ => ?_
  subst he
  exact ⟨_, rfl, law_post laidOut (by kernel_rfl) rfl rfl Try.underlying4 rfl hW' (below_of_only ho)⟩

theorem RestartsEnd : Rows.RestartsEndSaid :=
  OpenClaim.holds_of_wide 4 Try.f4 rfl rfl rfl rfl rfl rfl rfl ⟨rfl, rfl, rfl, rfl, rfl⟩ rfl rfl rfl rfl rfl (by kernel_rfl) Try.func4 (by kernel_rfl)
    (of_decide_eq_true (by kernel_rfl)) (by unfold Func.isWrapper; first | (rw [if_pos (by decide +kernel)]; kernel_rfl) | (rw [if_neg (by decide +kernel)]; exact ⟨rfl, rfl⟩))
    (fun os started H enc _ => end_lifted os started H enc)
#print axioms RestartsEnd

end Go.Proofs.Ytofdmfibffcojaa
