/-
  RestartsTime: for any three numbers, without an answer a restart ends exactly from the tick of its beginning plus the base on (a sum outside the range of int counts as its nearest end), and New refuses a base below 0.
  No condition.
-/
import Derived.Test.YtofdmfibffcojaaRows
import Derived.Test.YtofdmfibffcojaaLives
import Derived.Test.YtofdmfibffcojaaLawRow
namespace Go.Proofs.Ytofdmfibffcojaa
open Go.ChangeShapes Go.WideShapes Go.ChangeAt Go.RowKit Go.PC

theorem below_of_only {w w' : World} (h : Only (fun _ => False) w w') : Below w.heap.size w w' := h.below fun _ hi => ⟨hi, fun h => h⟩

/-- The machine of RestartsTime, started. -/
theorem time_ends (base since now : Int) : St.ends ⟨2, base, since, [(true, false)]⟩ now = decide (dueAt base since ≤ now) := by
  unfold St.ends
  simp

set_option maxHeartbeats 1000000 in
theorem time_neg (base since now : Int) (hb : base < 0) (w : World) :
    Calls Try.prog 5 #[.int .i64 base, .int .i64 since, .int .i64 now] w fun e w' => e = .returned (.bool true) ∧ Only (fun _ => False) w w' := by
  go_enter Try.func5, Try.ntmps5
  go_wp2_with fail
  refine (new_neg (some ⟨w.heap.size, 0, none⟩) [4] 1 base (by decide) ⟨by simp, Or.inr ⟨w.heap.size, 0, rfl, ?cells⟩⟩ ⟨by simp, by simp⟩ hb).mono ?_
  case cells =>
    intro k hk
    match k, hk with
    | 0, _ => simp
  rintro e w1 ⟨rfl, ho⟩
  have hO := ((Only.refl (fun _ => False) w).alloc (.cells #[.int .u16 4] 26)).trans ho
  clear ho
  go_wp2_with fail
  refine (lives_any _).mono ?_
  rintro e w2 ⟨rfl, ho⟩
  have hO2 := hO.trans ho
  clear hO ho
  go_wp2_with fail
  go_ret
  exact ⟨rfl, hO2⟩

set_option maxHeartbeats 4000000 in
theorem time_pos (base since now : Int) (hb : 0 ≤ base) (hb1 : base ≤ 9223372036854775807) (hs0 : -9223372036854775808 ≤ since) (hs1 : since ≤ 9223372036854775807) (w : World) :
    Calls Try.prog 5 #[.int .i64 base, .int .i64 since, .int .i64 now] w fun e w' => e = .returned (.bool true) ∧ Only (fun _ => False) w w' := by
  go_enter Try.func5, Try.ntmps5
  go_wp2_with fail
  refine (pm_new (some ⟨w.heap.size, 0, none⟩) 4 1 1 base (by decide) (by decide) (by decide) (Or.inr ⟨w.heap.size, 0, rfl, ?cells⟩) hb hb1).mono ?_
  case cells =>
    intro k hk
    match k, hk with
    | 0, _ => simp
  rintro e w1 ⟨ma, la, rfl, hma, hla, hA, ho⟩
  have hO := ((Only.refl (fun _ => False) w).alloc (.cells #[.int .u16 4] 26)).trans ho
  simp only [World.size_alloc] at hma hla
  clear ho
  go_wp2_with fail
  refine (pm_down' hA 4 0 rfl (by decide) (by decide) 0 rfl ⟨1, base, 0, [(false, false)]⟩ rfl).mono ?_
  rintro e w2 ⟨rfl, hA2, ho⟩
  have hO2 := hO.andThen ho (fun i hi h => by omega)
  clear hA hO ho
  go_wp2_with fail
  refine (pm_up' hA2 since hs0 hs1 4 0 rfl (by decide) (by decide) 0 rfl ⟨2, base, since, [(true, false)]⟩ rfl).mono ?_
  rintro e w3 ⟨rfl, hA3, ho⟩
  have hO3 := hO2.andThen ho (fun i hi h => by omega)
  clear hA2 hO2 ho
  have hT := pm_tick hA3 now
  have hL := lives_any
  rw [time_ends] at hT
  have Hd : Hid (dueAt base since = if since > 9223372036854775807 - base then 9223372036854775807 else since + base) := rfl
  by_cases hov : since > 9223372036854775807 - base
  · have hw : wrap64 (since + base) < since := by unfold wrap64; omega
    have hd : dueAt base since = 9223372036854775807 := by rw [Hd.out, if_pos hov]
    rw [hd] at hT
    clear hd
    by_cases hle : 9223372036854775807 ≤ now
    · have ht : decide ((9223372036854775807 : Int) ≤ now) = true := by simpa using hle
      rw [ht] at hT
      clear ht
      go_wp2_with fail
      refine hT.mono ?_
      rintro e w4 ⟨rfl, _, ho⟩
      have hO4 := hO3.andThen ho (fun i hi h => by omega)
      clear hO3 ho
      go_wp2_with fail
      refine (hL _).mono ?_
      rintro e w5 ⟨rfl, ho⟩
      go_wp2_with fail
      go_ret
      exact ⟨rfl, hO4.trans ho⟩
    · have ht : decide ((9223372036854775807 : Int) ≤ now) = false := by simpa using hle
      rw [ht] at hT
      go_wp2_with fail
      refine hT.mono ?_
      rintro e w4 ⟨rfl, _, ho⟩
      have hO4 := hO3.andThen ho (fun i hi h => by omega)
      clear hO3 ho
      go_wp2_with fail
      refine (hL _).mono ?_
      rintro e w5 ⟨rfl, ho⟩
      go_wp2_with fail
      go_ret
      exact ⟨rfl, hO4.trans ho⟩
  · have hw : ¬ since + base < since := by omega
    have hd : dueAt base since = since + base := by rw [Hd.out, if_neg hov]
    rw [hd] at hT
    clear hd
    by_cases hle : since + base ≤ now
    · have ht : decide (since + base ≤ now) = true := by simpa using hle
      rw [ht] at hT
      clear ht
      go_wp2_with fail
      refine hT.mono ?_
      rintro e w4 ⟨rfl, _, ho⟩
      have hO4 := hO3.andThen ho (fun i hi h => by omega)
      clear hO3 ho
      go_wp2_with fail
      refine (hL _).mono ?_
      rintro e w5 ⟨rfl, ho⟩
      go_wp2_with fail
      go_ret
      exact ⟨rfl, hO4.trans ho⟩
    · have ht : decide (since + base ≤ now) = false := by simpa using hle
      rw [ht] at hT
      go_wp2_with fail
      refine hT.mono ?_
      rintro e w4 ⟨rfl, _, ho⟩
      have hO4 := hO3.andThen ho (fun i hi h => by omega)
      clear hO3 ho
      go_wp2_with fail
      refine (hL _).mono ?_
      rintro e w5 ⟨rfl, ho⟩
      go_wp2_with fail
      go_ret
      exact ⟨rfl, hO4.trans ho⟩

theorem own : ownKnob Try.prog.godebug = none := by kernel_rfl
theorem laidOut : laidOutB Try.prog = true := by kernel_rfl

set_option maxRecDepth 100000 in
theorem time_lifted (os : Os) (started : os.Started) (H : Type) (enc : TypeId × Value → H) :
    ReturnsInHanded {} Try.checked os 5 .any (Rows.restartsTimeSpec.pre6 enc Try.prog Try.f5 Rows.restartsTimeRow.domain false) (Rows.restartsTimeSpec.post enc Try.prog Try.f5 false true false false) := by
  refine returnsInHanded_of_change (C := Try.checked) own started (by kernel_rfl) Try.func5
    (ChangeSpec.witness6 (enc := enc) (C := Try.checked) false ⟨#[], #[.int .i64 0, .int .i64 0, .int .i64 0], []⟩ 8 (by kernel_rfl) (by kernel_rfl) (by kernel_rfl) (by kernel_rfl)) ?_
  intro W base args ds gs before hval0 hW hcnd _
  have hval : ∀ (j : Nat) t v, Try.f5.params[j]? = some t → args[j]? = some v → Value.okWide Try.prog W .any base t v := hval0
  have hW' := hW
  obtain ⟨p, q, hA0, hV, rfl, hfz, hnd⟩ := hW
  have hA : DataW.TrodAll enc Try.prog W 0 (fun _ => true) true Try.f5.params.toList args.toList ds p := hA0
  rw [Try.params5] at hA hval
  obtain ⟨v0, v1, v2, d0, d1, d2, p0, p1, p2, hargs, rfl, rfl, h0, h1, h2⟩ := trodAll_three hA
  obtain rfl : args = #[v0, v1, v2] := by cases args; simp_all
  obtain ⟨a0, rfl, rfl, rfl, w0⟩ := open_int Try.underlying3 (hval 0 3 v0 rfl rfl) h0
  obtain ⟨a1, rfl, rfl, rfl, w1⟩ := open_int Try.underlying3 (hval 1 3 v1 rfl rfl) h1
  obtain ⟨a2, rfl, rfl, rfl, w2⟩ := open_int Try.underlying3 (hval 2 3 v2 rfl rfl) h2
  have b0 := bounds_i64 w0
  have b1 := bounds_i64 w1
  have hwalk : Calls Try.prog 5 #[.int .i64 a0, .int .i64 a1, .int .i64 a2] W fun e w' => e = .returned (.bool true) ∧ Only (fun _ => False) W w' := by
    by_cases hb : a0 < 0
    · exact time_neg a0 a1 a2 hb W
    · exact time_pos a0 a1 a2 (by omega) b0.2 b1.1 b1.2 W
  refine hwalk.mono fun e W' ⟨he, ho⟩ => ?_
  subst he
  exact ⟨_, rfl, law_post laidOut (by kernel_rfl) rfl rfl Try.underlying4 rfl hW' (below_of_only ho)⟩

theorem RestartsTime : Rows.RestartsTimeSaid :=
  OpenClaim.holds_of_wide 5 Try.f5 rfl rfl rfl rfl rfl rfl rfl ⟨rfl, rfl, rfl, rfl, rfl⟩ rfl rfl rfl rfl rfl (by kernel_rfl) Try.func5 (by kernel_rfl)
    (of_decide_eq_true (by kernel_rfl)) (by unfold Func.isWrapper; first | (rw [if_pos (by decide +kernel)]; kernel_rfl) | (rw [if_neg (by decide +kernel)]; exact ⟨rfl, rfl⟩))
    (fun os started H enc _ => time_lifted os started H enc)
#print axioms RestartsTime

end Go.Proofs.Ytofdmfibffcojaa
