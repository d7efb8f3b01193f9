import Derived.Test.YtcokmnpgeokfpaaGreatDoorRows
import Derived.Test.YtcokmnpgeokfpaaGreatDoorRow0V31
import Derived.Test.YtcokmnpgeokfpaaGreatDoorTie
import Derived.Test.YtcokmnpgeokfpaaGreatDoorCards
import Derived.SevenTiedAt
import Derived.Test.YtcokmnpgeokfpaaGreatDoorVfWc
import Derived.Test.YtcokmnpgeokfpaaGreatDoorVfP
import Derived.WalkKit
import Derived.ProofKit
import Derived.OpenShut
import Derived.ShutString
import Derived.ChangeOld
import Derived.Below
import Derived.SizedLaws
/-
  The law AbortsReviews holds for every input, with its listed variables tied to the program's text (the tied card). Conditions: those of the given statement alone.
-/
set_option linter.unusedVariables false
set_option linter.unusedSimpArgs false
namespace Vf
open Go Go.Vx Go.Proofs
def ok27 (x : S27) : Prop := ((Lit.int .u8 x.c0).wf = true) ∧ ((Lit.int .u8 x.c1).wf = true) ∧ ((Lit.int .u8 x.c2).wf = true) ∧ ((Lit.int .u8 x.c3).wf = true) ∧ ((Lit.int .u8 x.c4).wf = true) ∧ (x.c5.length < 9223372036854775808 ∧ ∀ y, y ∈ x.c5 → (Lit.int .u8 y).wf = true)
theorem open27 {w : World} : Opens Tryz.prog w 27 6 enc27 ok27 := by
  intro H e base fuel held cs x hn h
  obtain ⟨xs, m, _, _, hl, hxl, hx⟩ := DataW.trod_struct Tryz.underlying27 h
  obtain ⟨y0, o0, r0⟩ := Opens.field (k := 1) (off := 0) (Opens.int Tryz.underlying5) (by kernel_rfl) (by omega) (i := 0) (by rw [hxl]; decide) (hx 0 _ rfl)
  obtain ⟨y1, o1, r1⟩ := Opens.field (k := 1) (off := 1) (Opens.int Tryz.underlying5) (by kernel_rfl) (by omega) (i := 1) (by rw [hxl]; decide) (hx 1 _ rfl)
  obtain ⟨y2, o2, r2⟩ := Opens.field (k := 1) (off := 2) (Opens.int Tryz.underlying5) (by kernel_rfl) (by omega) (i := 2) (by rw [hxl]; decide) (hx 2 _ rfl)
  obtain ⟨y3, o3, r3⟩ := Opens.field (k := 1) (off := 3) (Opens.int Tryz.underlying5) (by kernel_rfl) (by omega) (i := 3) (by rw [hxl]; decide) (hx 3 _ rfl)
  obtain ⟨y4, o4, r4⟩ := Opens.field (k := 1) (off := 4) (Opens.int Tryz.underlying5) (by kernel_rfl) (by omega) (i := 4) (by rw [hxl]; decide) (hx 4 _ rfl)
  obtain ⟨y5, o5, r5⟩ := Opens.field (k := 1) (off := 5) (Opens.slice Tryz.underlying25 (k := 1) (by kernel_rfl) (encI_cells .u8) (Opens.int Tryz.underlying5)) (by kernel_rfl) (by omega) (i := 5) (by rw [hxl]; decide) (hx 5 _ rfl)
  refine ⟨⟨y0, y1, y2, y3, y4, y5⟩, ⟨o0, o1, o2, o3, o4, o5⟩, fun j u hj => ?_⟩
  rw [enc27_eq] at hj
  exact at_all (at_cons (r0 0 _ rfl) (at_cons (r1 0 _ rfl) (at_cons (r2 0 _ rfl) (at_cons (r3 0 _ rfl) (at_cons (r4 0 _ rfl) (at_cons (r5 0 _ rfl) at_nil)))))) j u hj
def ok30 (x : S30) : Prop := ((Lit.int .u8 x.c0).wf = true) ∧ ((Lit.int .u32 x.c1).wf = true) ∧ (True) ∧ (x.c3.length < 9223372036854775808 ∧ ∀ y, y ∈ x.c3 → (Lit.int .u8 y).wf = true) ∧ ((Lit.int .u8 x.c4).wf = true)
theorem open30 {w : World} : Opens Tryz.prog w 30 5 enc30 ok30 := by
  intro H e base fuel held cs x hn h
  obtain ⟨xs, m, _, _, hl, hxl, hx⟩ := DataW.trod_struct Tryz.underlying30 h
  obtain ⟨y0, o0, r0⟩ := Opens.field (k := 1) (off := 0) (Opens.int Tryz.underlying5) (by kernel_rfl) (by omega) (i := 0) (by rw [hxl]; decide) (hx 0 _ rfl)
  obtain ⟨y1, o1, r1⟩ := Opens.field (k := 1) (off := 1) (Opens.int Tryz.underlying28) (by kernel_rfl) (by omega) (i := 1) (by rw [hxl]; decide) (hx 1 _ rfl)
  obtain ⟨y2, o2, r2⟩ := Opens.field (k := 1) (off := 2) (Opens.bool Tryz.underlying4) (by kernel_rfl) (by omega) (i := 2) (by rw [hxl]; decide) (hx 2 _ rfl)
  obtain ⟨y3, o3, r3⟩ := Opens.field (k := 1) (off := 3) (Opens.slice Tryz.underlying25 (k := 1) (by kernel_rfl) (encI_cells .u8) (Opens.int Tryz.underlying5)) (by kernel_rfl) (by omega) (i := 3) (by rw [hxl]; decide) (hx 3 _ rfl)
  obtain ⟨y4, o4, r4⟩ := Opens.field (k := 1) (off := 4) (Opens.int Tryz.underlying5) (by kernel_rfl) (by omega) (i := 4) (by rw [hxl]; decide) (hx 4 _ rfl)
  refine ⟨⟨y0, y1, y2, y3, y4⟩, ⟨o0, o1, o2, o3, o4⟩, fun j u hj => ?_⟩
  rw [enc30_eq] at hj
  exact at_all (at_cons (r0 0 _ rfl) (at_cons (r1 0 _ rfl) (at_cons (r2 0 _ rfl) (at_cons (r3 0 _ rfl) (at_cons (r4 0 _ rfl) at_nil))))) j u hj
end Vf
namespace Go.Proofs.YtcokmnpgeokfpaaGreatDoor.abortsReviews
open Go.ChangeShapes Go.WideShapes Go.ChangeAt Go.RowKit Go.Vx Vf
theorem own : ownKnob Tryz.prog.godebug = none := by kernel_rfl
theorem laidOut : laidOutB Tryz.prog = true := by kernel_rfl
set_option maxRecDepth 100000 in
theorem lifted (os : Os) (started : os.Started) (H : Type) (enc : TypeId × Value → H) :
    ReturnsInHanded {} Tryz.checked os 4 .any (fun w args => (Rows.abortsReviewsSpec.pre enc Tryz.prog Tryz.f4 Rows.abortsReviewsRow.domain false w args ∧ laidMetH Tryz.prog laid5 w) ∧ sizedMet enc Tryz.prog Tryz.f4 (OpenSpec.ofChange Rows.abortsReviewsSpec) false w args) (Rows.abortsReviewsSpec.post enc Tryz.prog Tryz.f4 false true false false) := by
  refine returnsInHanded_of_change_and (C := Tryz.checked) (X := fun w _ => laidMetH Tryz.prog laid5 w) (fun _ _ _ hh h => h.of_heap hh) own started (by kernel_rfl) Tryz.func4
    (ChangeSpec.witness_shaped (enc := enc) (C := Tryz.checked) (os := os) (X := fun w _ => laidMetH Tryz.prog laid5 w) false (World.doorLaid Tryz.prog 400 os) #[.slice none 0 0, .slice none 0 0, .agg #[.int .u8 0, .int .u8 0]] 8 rfl (World.shaped_of_RefB (by kernel_rfl) (by kernel_rfl)) (by kernel_rfl) (by kernel_rfl) (by kernel_rfl) (door_met os _)) ?_
  intro W base args ds gs before hval0 hW hcnd hsz0 hLaid _
  have hval : ∀ (j : Nat) t v, Tryz.f4.params[j]? = some t → args[j]? = some v → Value.okWide Tryz.prog W .any base t v := hval0
  have hW' := hW
  obtain ⟨p, q, hA0, hV, rfl, hfz, hnd⟩ := hW
  have hA : DataW.TrodAll enc Tryz.prog W 0 (fun _ => true) true Tryz.f4.params.toList args.toList ds p := hA0
  rw [Tryz.params4] at hA hval
  obtain ⟨v0, vs0, d0, ds0, p0, q0, hargs, rfl, rfl, h0, r0⟩ := trodAll_cons hA
  obtain ⟨v1, vs1, d1, ds1, p1, q1, rfl, rfl, rfl, h1, r1⟩ := trodAll_cons r0
  obtain ⟨v2, vs2, d2, ds2, p2, q2, rfl, rfl, rfl, h2, r2⟩ := trodAll_cons r1
  obtain ⟨rfl, rfl, rfl⟩ := trodAll_nil r2
  obtain rfl : args = #[v0, v1, v2] := by cases args; simp_all
  obtain ⟨rfl, rfl⟩ := trodVars_none hV
  have lt0 : ∀ x ∈ p0, x.block < W.heap.size := by obtain ⟨m, hm⟩ := h0; exact DataW.trod_lt m _ _ _ hm
  have lt1 : ∀ x ∈ p1, x.block < W.heap.size := by obtain ⟨m, hm⟩ := h1; exact DataW.trod_lt m _ _ _ hm
  have lt2 : ∀ x ∈ p2, x.block < W.heap.size := by obtain ⟨m, hm⟩ := h2; exact DataW.trod_lt m _ _ _ hm
  obtain ⟨y0, o0, e0⟩ := arg_slice Tryz.underlying22 (k := 6) (by kernel_rfl) (fun y => by rw [enc27_eq]; rfl) open27 (hval 0 22 v0 rfl rfl) h0
  obtain ⟨y1, o1, e1⟩ := arg_slice Tryz.underlying24 (k := 5) (by kernel_rfl) (fun y => by rw [enc30_eq]; rfl) open30 (hval 1 24 v1 rfl rfl) h1
  obtain ⟨y2, o2, e2⟩ := arg_array Tryz.underlying33 (by kernel_rfl) (by kernel_rfl) (fun y => rfl) (Opens.int Tryz.underlying5) (hval 2 33 v2 rfl rfl) h2
  have hp : Vf.law (y0, y1, (y2 0), (y2 1)) = some true := law_true _ _ _ _ (fun y hy => let h := o0.2 y hy; ⟨(wf_u8 h.1).1, (wf_u8 h.2.1).1, (wf_u8 h.2.2.1).1, wf_u8 h.2.2.2.1, (wf_u8 h.2.2.2.2.1).1, fun b hb => wf_u8 (h.2.2.2.2.2.2 b hb)⟩) o0.1 (fun y hy => let h := o1.2 y hy; ⟨wf_u8 h.1, wf_u32 h.2.1, fun b hb => wf_u8 (h.2.2.2.1.2 b hb), wf_u8 h.2.2.2.2⟩) o1.1 (wf_u8 (o2 1 (by decide))).1
  refine ((Vf.law_ok _ _ hp W (lives_pto)).calls (Rels.arr (m := [v0, v1, v2]) ⟨e0, ⟨e1, ⟨e2, trivial⟩⟩⟩)).mono fun e W' ⟨he, bel⟩ => ?_
  subst he
  exact ⟨_, rfl, _, _, _, [], _, [], hW', trodAll_mk1 (shut_bool Tryz.underlying4 _), (trodAll_cons_mk (Below.trod laidOut (by kernel_rfl) (of_decide_eq_true (by kernel_rfl)) h0 bel lt0) (trodAll_cons_mk (Below.trod laidOut (by kernel_rfl) (of_decide_eq_true (by kernel_rfl)) h1 bel lt1) (trodAll_cons_mk (Below.trod laidOut (by kernel_rfl) (of_decide_eq_true (by kernel_rfl)) h2 bel lt2) trodAll_mk0))), rfl, bel.frame _, fun h => by cases h⟩
theorem over : Rows.abortsReviewsRow.holds Tryz.pinned (OpenSpec.ofChange Rows.abortsReviewsSpec) :=
  OpenClaim.holds_of_wide 4 Tryz.f4 rfl rfl rfl rfl rfl rfl rfl ⟨rfl, rfl, rfl, rfl, rfl⟩ rfl rfl rfl rfl rfl (by kernel_rfl) Tryz.func4 (by kernel_rfl)
    (of_decide_eq_true (by kernel_rfl)) (by unfold Func.isWrapper; first | (rw [if_pos (by decide +kernel)]; kernel_rfl) | (rw [if_neg (by decide +kernel)]; exact ⟨rfl, rfl⟩))
    (fun os started H enc _ => lifted os started H enc)
theorem proved : Rows.AbortsReviewsSaid := over
end Go.Proofs.YtcokmnpgeokfpaaGreatDoor.abortsReviews
namespace Go.Proofs.YtcokmnpgeokfpaaGreatDoor
/-- The row, under a short name, for the claim. -/
theorem abortsReviews_holds : Rows.AbortsReviewsSaid := abortsReviews.proved
theorem abortsReviews_card_holds : Rows.AbortsReviewsCardSaid :=
  Claim7.holds_tied_plain_at .later [] [.data, .data, .data, .sentinel, .sentinel] true (true, "636417eaad8edcda55e358d67abfcaf76db2dcd5b9a0031e0f302d89dead0a47") true
    abortsReviews_holds (fun _ h => by cases h) (by kernel_rfl) (fun _ h => by cases h) abortsReviews_row_tie rfl ⟨rfl, rfl⟩ (by kernel_rfl) rfl
    (fun f fn hf hfn => by
      obtain rfl : f = 4 := Option.some.inj ((show Tryz.prog.funcNamed "pointcode/pointcodelaw31.AbortsReviews" = some 4 by kernel_rfl).symm.trans hf) |>.symm
      obtain rfl : fn = Tryz.f4 := (Option.some.inj (Tryz.func4.symm.trans hfn)).symm
      exact ⟨by kernel_rfl, fun j t ht => by
        rw [Tryz.params4] at ht
        have h := List.all_eq_true.1 (show (Tryz.f4.params.toList.all fun t => !(Tryz.prog.wantsStandIn t)) = true by kernel_rfl) t (by rw [Tryz.params4]; exact Array.mem_toList_iff.2 (Array.mem_of_getElem? ht))
        exact (by simpa using h : Tryz.prog.wantsStandIn t = false)⟩)
    (by kernel_rfl)
#print axioms abortsReviews_card_holds
end Go.Proofs.YtcokmnpgeokfpaaGreatDoor
