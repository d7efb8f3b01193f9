-- by wip/pr/gprint.py (the kit's printer with given functions)
import Derived.Test.YtcokmnpgeokfpaaDoorPTagsIntsx0
import Derived.Test.YtcokmnpgeokfpaaDoorPTagsIntsx1
import Derived.Test.YtcokmnpgeokfpaaDoorPTagsIntsx2
namespace Go.Proofs.YtcokmnpgeokfpaaDoor.PTagsInts
open Go.RowKit Go.Proofs.YtcokmnpgeokfpaaDoorW.PrintWords Go.Proofs.YtcokmnpgeokfpaaDoorW.PrintLast Go.Proofs.YtcokmnpgeokfpaaDoorW.PrintMore
attribute [local go_sem] max2_int min2_int max_two min_two max_three min_three max_four min_four   -- for this text's walks alone
set_option linter.unusedVariables false
set_option linter.unusedSimpArgs false

/-! ### pointcodelaw23_TagsInts: function 3 -/
mutual
def pointcodelaw23_TagsInts.j0 : Nat → Int → List Int → List Int → Bool → Option (Bool)
  | 0, _, _, _, _ => none
  | k + 1, x0, x1, x5, x47 => if x47 = true then (some false) else (if (x5.length : Int) > 1 then (if 0 < (x5.length : Int) then (if (rd x5 0) = 0 then (if 1 < (x5.length : Int) then (if (rd x5 1) < 128 then (pointcodelaw23_TagsInts.j1 k x0 x1 x5 true) else (if (rd x5 0) = 255 then (pointcodelaw23_TagsInts.j1 k x0 x1 x5 (decide ((rd x5 1) ≥ 128))) else (pointcodelaw23_TagsInts.j1 k x0 x1 x5 false))) else (none)) else (if (rd x5 0) = 255 then (if 1 < (x5.length : Int) then (pointcodelaw23_TagsInts.j1 k x0 x1 x5 (decide ((rd x5 1) ≥ 128))) else (none)) else (pointcodelaw23_TagsInts.j1 k x0 x1 x5 false))) else (none)) else (pointcodelaw23_TagsInts.j1 k x0 x1 x5 false))
def pointcodelaw23_TagsInts.j1 : Nat → Int → List Int → List Int → Bool → Option (Bool)
  | 0, _, _, _, _ => none
  | k + 1, x0, x1, x5, x74 => if x74 = true then (some false) else (if (x5.length : Int) < 8 then (pointcodelaw23_TagsInts.l0 k x0 x1 x5 0 0) else (pointcodelaw23_TagsInts.j3 k x1))
def pointcodelaw23_TagsInts.j3 : Nat → List Int → Option (Bool)
  | 0, _ => none
  | k + 1, x1 => (tags_ToInt.f k x1).bind fun bt128 => (if (x1.length : Int) = 0 then (pointcodelaw23_TagsInts.j4 k x1 bt128.1 bt128.2 0 true) else (if (x1.length : Int) > 1 then (if 0 < (x1.length : Int) then (if (rd x1 0) = 0 then (if 1 < (x1.length : Int) then (if (rd x1 1) < 128 then (pointcodelaw23_TagsInts.j4 k x1 bt128.1 bt128.2 0 true) else (if (rd x1 0) = 255 then (pointcodelaw23_TagsInts.j4 k x1 bt128.1 bt128.2 0 (decide ((rd x1 1) ≥ 128))) else (pointcodelaw23_TagsInts.j4 k x1 bt128.1 bt128.2 0 false))) else (none)) else (if (rd x1 0) = 255 then (if 1 < (x1.length : Int) then (pointcodelaw23_TagsInts.j4 k x1 bt128.1 bt128.2 0 (decide ((rd x1 1) ≥ 128))) else (none)) else (pointcodelaw23_TagsInts.j4 k x1 bt128.1 bt128.2 0 false))) else (none)) else (pointcodelaw23_TagsInts.j4 k x1 bt128.1 bt128.2 0 false)))
def pointcodelaw23_TagsInts.j5 : Nat → List Int → Int → Int → Int → Option (Bool)
  | 0, _, _, _, _ => none
  | k + 1, x1, x10, x11, x12 => if x11 = x12 then (if x11 = 0 then (pointcodelaw23_TagsInts.j6 k x1 x10 x11 false) else (pointcodelaw23_TagsInts.j6 k x1 x10 x11 (x10 != 0))) else (pointcodelaw23_TagsInts.j6 k x1 x10 x11 true)
def pointcodelaw23_TagsInts.j6 : Nat → List Int → Int → Int → Bool → Option (Bool)
  | 0, _, _, _, _ => none
  | k + 1, x1, x10, x11, x157 => if x157 = true then (some false) else (if x11 = 0 then ((tags_Int.f k x10).bind fun t136 => ((pointcodelaw23_same.f t136 x1).bind fun t139 => (if t139 = true then ((pointcodelaw23_lives.f).bind fun t140 => (some t140)) else (some false)))) else ((pointcodelaw23_lives.f).bind fun t141 => (some t141)))
def pointcodelaw23_TagsInts.j4 : Nat → List Int → Int → Int → Int → Bool → Option (Bool)
  | 0, _, _, _, _, _ => none
  | k + 1, x1, x10, x11, x12, x110 => if x110 = true then (pointcodelaw23_TagsInts.j5 k x1 x10 x11 4) else (if (x1.length : Int) > 8 then (pointcodelaw23_TagsInts.j5 k x1 x10 x11 3) else (pointcodelaw23_TagsInts.j5 k x1 x10 x11 x12))
def pointcodelaw23_TagsInts.l0 : Nat → Int → List Int → List Int → Int → Int → Option (Bool)
  | 0, _, _, _, _, _ => none
  | k + 1, x0, x1, x5, x8, x9 => if x9 < (x5.length : Int) then (if 0 ≤ x9 then (pointcodelaw23_TagsInts.l0 k x0 x1 x5 (wrap64 ((wrap64 (x8 * 256)) + (wrap64 (rd x5 x9)))) (wrap64 (x9 + 1))) else (none)) else (if 0 < (x5.length : Int) then (if (rd x5 0) ≥ 128 then (if 0 ≤ (wrap64 (8 * (x5.length : Int))) then (if (wrap64 (x8 - (shl .i64 1 (wrap64 (8 * (x5.length : Int)))))) = x0 then (pointcodelaw23_TagsInts.j3 k x1) else (some false)) else (none)) else (if x8 = x0 then (pointcodelaw23_TagsInts.j3 k x1) else (some false))) else (none))
end
def pointcodelaw23_TagsInts.f (k : Nat) (a0 : Int) (l1 : List Int) : Option (Bool) := if (l1.length : Int) > 12 then ((pointcodelaw23_lives.f).bind fun t114 => (some t114)) else ((tags_Int.f k a0).bind fun t115 => ((tags_ToInt.f k t115).bind fun bt118 => (if bt118.2 = 0 then (if bt118.1 = a0 then (if (t115.length : Int) = 0 then (pointcodelaw23_TagsInts.j0 k a0 l1 t115 true) else (if (t115.length : Int) > 8 then (pointcodelaw23_TagsInts.j0 k a0 l1 t115 true) else (pointcodelaw23_TagsInts.j0 k a0 l1 t115 ((t115.length : Int) != (t115.length : Int))))) else (pointcodelaw23_TagsInts.j0 k a0 l1 t115 true)) else (pointcodelaw23_TagsInts.j0 k a0 l1 t115 true))))
theorem pointcodelaw23_TagsInts.mono_l : ∀ k, (∀ y0 y1 y2 y3, LeO (pointcodelaw23_TagsInts.j0 k y0 y1 y2 y3) (pointcodelaw23_TagsInts.j0 (k + 1) y0 y1 y2 y3)) ∧ (∀ y0 y1 y2 y3, LeO (pointcodelaw23_TagsInts.j1 k y0 y1 y2 y3) (pointcodelaw23_TagsInts.j1 (k + 1) y0 y1 y2 y3)) ∧ (∀ y0, LeO (pointcodelaw23_TagsInts.j3 k y0) (pointcodelaw23_TagsInts.j3 (k + 1) y0)) ∧ (∀ y0 y1 y2 y3, LeO (pointcodelaw23_TagsInts.j5 k y0 y1 y2 y3) (pointcodelaw23_TagsInts.j5 (k + 1) y0 y1 y2 y3)) ∧ (∀ y0 y1 y2 y3, LeO (pointcodelaw23_TagsInts.j6 k y0 y1 y2 y3) (pointcodelaw23_TagsInts.j6 (k + 1) y0 y1 y2 y3)) ∧ (∀ y0 y1 y2 y3 y4, LeO (pointcodelaw23_TagsInts.j4 k y0 y1 y2 y3 y4) (pointcodelaw23_TagsInts.j4 (k + 1) y0 y1 y2 y3 y4)) ∧ (∀ y0 y1 y2 y3 y4, LeO (pointcodelaw23_TagsInts.l0 k y0 y1 y2 y3 y4) (pointcodelaw23_TagsInts.l0 (k + 1) y0 y1 y2 y3 y4))
  | 0 => ⟨fun _ _ _ _ r h => by simp [pointcodelaw23_TagsInts.j0] at h, fun _ _ _ _ r h => by simp [pointcodelaw23_TagsInts.j1] at h, fun _ r h => by simp [pointcodelaw23_TagsInts.j3] at h, fun _ _ _ _ r h => by simp [pointcodelaw23_TagsInts.j5] at h, fun _ _ _ _ r h => by simp [pointcodelaw23_TagsInts.j6] at h, fun _ _ _ _ _ r h => by simp [pointcodelaw23_TagsInts.j4] at h, fun _ _ _ _ _ r h => by simp [pointcodelaw23_TagsInts.l0] at h⟩
  | k + 1 => by
    obtain ⟨ih0, ih1, ih2, ih3, ih4, ih5, ih6⟩ := pointcodelaw23_TagsInts.mono_l k
    refine ⟨?_, ?_, ?_, ?_, ?_, ?_, ?_⟩
    · intro y0 y1 y2 y3
      unfold pointcodelaw23_TagsInts.j0
      repeat' first
      | (with_reducible exact ih0 _ _ _ _)
      | (with_reducible exact ih1 _ _ _ _)
      | (with_reducible exact ih2 _)
      | (with_reducible exact ih3 _ _ _ _)
      | (with_reducible exact ih4 _ _ _ _)
      | (with_reducible exact ih5 _ _ _ _ _)
      | (with_reducible exact ih6 _ _ _ _ _)
      | (with_reducible exact tags_Int.mono _ _)
      | (with_reducible exact tags_ToInt.mono _ _)
      | (with_reducible exact LeO.refl _)
      | (with_reducible exact LeO.none _)
      | (with_reducible refine LeO.ite ?_ ?_)
      | (with_reducible refine LeO.bind ?_ (fun _ => ?_))
      | exact ih0 _ _ _ _
      | exact ih1 _ _ _ _
      | exact ih2 _
      | exact ih3 _ _ _ _
      | exact ih4 _ _ _ _
      | exact ih5 _ _ _ _ _
      | exact ih6 _ _ _ _ _
      | exact tags_Int.mono _ _
      | exact tags_ToInt.mono _ _
      | exact LeO.none _
      | refine LeO.ite ?_ ?_
      | refine LeO.bind ?_ (fun _ => ?_)
    · intro y0 y1 y2 y3
      unfold pointcodelaw23_TagsInts.j1
      repeat' first
      | (with_reducible exact ih0 _ _ _ _)
      | (with_reducible exact ih1 _ _ _ _)
      | (with_reducible exact ih2 _)
      | (with_reducible exact ih3 _ _ _ _)
      | (with_reducible exact ih4 _ _ _ _)
      | (with_reducible exact ih5 _ _ _ _ _)
      | (with_reducible exact ih6 _ _ _ _ _)
      | (with_reducible exact tags_Int.mono _ _)
      | (with_reducible exact tags_ToInt.mono _ _)
      | (with_reducible exact LeO.refl _)
      | (with_reducible exact LeO.none _)
      | (with_reducible refine LeO.ite ?_ ?_)
      | (with_reducible refine LeO.bind ?_ (fun _ => ?_))
      | exact ih0 _ _ _ _
      | exact ih1 _ _ _ _
      | exact ih2 _
      | exact ih3 _ _ _ _
      | exact ih4 _ _ _ _
      | exact ih5 _ _ _ _ _
      | exact ih6 _ _ _ _ _
      | exact tags_Int.mono _ _
      | exact tags_ToInt.mono _ _
      | exact LeO.none _
      | refine LeO.ite ?_ ?_
      | refine LeO.bind ?_ (fun _ => ?_)
    · intro y0
      unfold pointcodelaw23_TagsInts.j3
      repeat' first
      | (with_reducible exact ih0 _ _ _ _)
      | (with_reducible exact ih1 _ _ _ _)
      | (with_reducible exact ih2 _)
      | (with_reducible exact ih3 _ _ _ _)
      | (with_reducible exact ih4 _ _ _ _)
      | (with_reducible exact ih5 _ _ _ _ _)
      | (with_reducible exact ih6 _ _ _ _ _)
      | (with_reducible exact tags_Int.mono _ _)
      | (with_reducible exact tags_ToInt.mono _ _)
      | (with_reducible exact LeO.refl _)
      | (with_reducible exact LeO.none _)
      | (with_reducible refine LeO.ite ?_ ?_)
      | (with_reducible refine LeO.bind ?_ (fun _ => ?_))
      | exact ih0 _ _ _ _
      | exact ih1 _ _ _ _
      | exact ih2 _
      | exact ih3 _ _ _ _
      | exact ih4 _ _ _ _
      | exact ih5 _ _ _ _ _
      | exact ih6 _ _ _ _ _
      | exact tags_Int.mono _ _
      | exact tags_ToInt.mono _ _
      | exact LeO.none _
      | refine LeO.ite ?_ ?_
      | refine LeO.bind ?_ (fun _ => ?_)
    · intro y0 y1 y2 y3
      unfold pointcodelaw23_TagsInts.j5
      repeat' first
      | (with_reducible exact ih0 _ _ _ _)
      | (with_reducible exact ih1 _ _ _ _)
      | (with_reducible exact ih2 _)
      | (with_reducible exact ih3 _ _ _ _)
      | (with_reducible exact ih4 _ _ _ _)
      | (with_reducible exact ih5 _ _ _ _ _)
      | (with_reducible exact ih6 _ _ _ _ _)
      | (with_reducible exact tags_Int.mono _ _)
      | (with_reducible exact tags_ToInt.mono _ _)
      | (with_reducible exact LeO.refl _)
      | (with_reducible exact LeO.none _)
      | (with_reducible refine LeO.ite ?_ ?_)
      | (with_reducible refine LeO.bind ?_ (fun _ => ?_))
      | exact ih0 _ _ _ _
      | exact ih1 _ _ _ _
      | exact ih2 _
      | exact ih3 _ _ _ _
      | exact ih4 _ _ _ _
      | exact ih5 _ _ _ _ _
      | exact ih6 _ _ _ _ _
      | exact tags_Int.mono _ _
      | exact tags_ToInt.mono _ _
      | exact LeO.none _
      | refine LeO.ite ?_ ?_
      | refine LeO.bind ?_ (fun _ => ?_)
    · intro y0 y1 y2 y3
      unfold pointcodelaw23_TagsInts.j6
      repeat' first
      | (with_reducible exact ih0 _ _ _ _)
      | (with_reducible exact ih1 _ _ _ _)
      | (with_reducible exact ih2 _)
      | (with_reducible exact ih3 _ _ _ _)
      | (with_reducible exact ih4 _ _ _ _)
      | (with_reducible exact ih5 _ _ _ _ _)
      | (with_reducible exact ih6 _ _ _ _ _)
      | (with_reducible exact tags_Int.mono _ _)
      | (with_reducible exact tags_ToInt.mono _ _)
      | (with_reducible exact LeO.refl _)
      | (with_reducible exact LeO.none _)
      | (with_reducible refine LeO.ite ?_ ?_)
      | (with_reducible refine LeO.bind ?_ (fun _ => ?_))
      | exact ih0 _ _ _ _
      | exact ih1 _ _ _ _
      | exact ih2 _
      | exact ih3 _ _ _ _
      | exact ih4 _ _ _ _
      | exact ih5 _ _ _ _ _
      | exact ih6 _ _ _ _ _
      | exact tags_Int.mono _ _
      | exact tags_ToInt.mono _ _
      | exact LeO.none _
      | refine LeO.ite ?_ ?_
      | refine LeO.bind ?_ (fun _ => ?_)
    · intro y0 y1 y2 y3 y4
      unfold pointcodelaw23_TagsInts.j4
      repeat' first
      | (with_reducible exact ih0 _ _ _ _)
      | (with_reducible exact ih1 _ _ _ _)
      | (with_reducible exact ih2 _)
      | (with_reducible exact ih3 _ _ _ _)
      | (with_reducible exact ih4 _ _ _ _)
      | (with_reducible exact ih5 _ _ _ _ _)
      | (with_reducible exact ih6 _ _ _ _ _)
      | (with_reducible exact tags_Int.mono _ _)
      | (with_reducible exact tags_ToInt.mono _ _)
      | (with_reducible exact LeO.refl _)
      | (with_reducible exact LeO.none _)
      | (with_reducible refine LeO.ite ?_ ?_)
      | (with_reducible refine LeO.bind ?_ (fun _ => ?_))
      | exact ih0 _ _ _ _
      | exact ih1 _ _ _ _
      | exact ih2 _
      | exact ih3 _ _ _ _
      | exact ih4 _ _ _ _
      | exact ih5 _ _ _ _ _
      | exact ih6 _ _ _ _ _
      | exact tags_Int.mono _ _
      | exact tags_ToInt.mono _ _
      | exact LeO.none _
      | refine LeO.ite ?_ ?_
      | refine LeO.bind ?_ (fun _ => ?_)
    · intro y0 y1 y2 y3 y4
      unfold pointcodelaw23_TagsInts.l0
      repeat' first
      | (with_reducible exact ih0 _ _ _ _)
      | (with_reducible exact ih1 _ _ _ _)
      | (with_reducible exact ih2 _)
      | (with_reducible exact ih3 _ _ _ _)
      | (with_reducible exact ih4 _ _ _ _)
      | (with_reducible exact ih5 _ _ _ _ _)
      | (with_reducible exact ih6 _ _ _ _ _)
      | (with_reducible exact tags_Int.mono _ _)
      | (with_reducible exact tags_ToInt.mono _ _)
      | (with_reducible exact LeO.refl _)
      | (with_reducible exact LeO.none _)
      | (with_reducible refine LeO.ite ?_ ?_)
      | (with_reducible refine LeO.bind ?_ (fun _ => ?_))
      | exact ih0 _ _ _ _
      | exact ih1 _ _ _ _
      | exact ih2 _
      | exact ih3 _ _ _ _
      | exact ih4 _ _ _ _
      | exact ih5 _ _ _ _ _
      | exact ih6 _ _ _ _ _
      | exact tags_Int.mono _ _
      | exact tags_ToInt.mono _ _
      | exact LeO.none _
      | refine LeO.ite ?_ ?_
      | refine LeO.bind ?_ (fun _ => ?_)
theorem pointcodelaw23_TagsInts.mono : ∀ a0 a1 k, LeO (pointcodelaw23_TagsInts.f k a0 a1) (pointcodelaw23_TagsInts.f (k + 1) a0 a1) := by
  intro a0 a1 k
  obtain ⟨ih0, ih1, ih2, ih3, ih4, ih5, ih6⟩ := pointcodelaw23_TagsInts.mono_l k
  unfold pointcodelaw23_TagsInts.f
  repeat' first
      | (with_reducible exact ih0 _ _ _ _)
      | (with_reducible exact ih1 _ _ _ _)
      | (with_reducible exact ih2 _)
      | (with_reducible exact ih3 _ _ _ _)
      | (with_reducible exact ih4 _ _ _ _)
      | (with_reducible exact ih5 _ _ _ _ _)
      | (with_reducible exact ih6 _ _ _ _ _)
      | (with_reducible exact tags_Int.mono _ _)
      | (with_reducible exact tags_ToInt.mono _ _)
      | (with_reducible exact LeO.refl _)
      | (with_reducible exact LeO.none _)
      | (with_reducible refine LeO.ite ?_ ?_)
      | (with_reducible refine LeO.bind ?_ (fun _ => ?_))
      | exact ih0 _ _ _ _
      | exact ih1 _ _ _ _
      | exact ih2 _
      | exact ih3 _ _ _ _
      | exact ih4 _ _ _ _
      | exact ih5 _ _ _ _ _
      | exact ih6 _ _ _ _ _
      | exact tags_Int.mono _ _
      | exact tags_ToInt.mono _ _
      | exact LeO.none _
      | refine LeO.ite ?_ ?_
      | refine LeO.bind ?_ (fun _ => ?_)
set_option maxHeartbeats 8000000 in
set_option maxRecDepth 100000 in
theorem pointcodelaw23_TagsInts.calls (k : Nat) (a0 : Int) (A1 : Option Addr) (c1 : Nat) (l1 : List Int) (r : Bool) (w : World) (HLV : LivesAt w) (hr1 : Kd.C (Kd.int .u8) w A1 l1.length l1) (hc1 : l1.length ≤ c1) (h : pointcodelaw23_TagsInts.f k a0 l1 = some r) :
    Calls Tryd.prog 3 #[.int .i64 a0, .slice A1 l1.length c1] w fun e w' => e = .returned (.bool r) ∧ Below w.heap.size w w' := by
  have HR1 := Aside0.mk hr1
  have HC1 := Aside0.mk hc1
  clear hr1 hc1
  have HB := Aside0.mk (Below.refl w.heap.size w)
  have H : (if (l1.length : Int) > 12 then ((pointcodelaw23_lives.f).bind fun t114 => (some t114)) else ((tags_Int.f k a0).bind fun t115 => ((tags_ToInt.f k t115).bind fun bt118 => (if bt118.2 = 0 then (if bt118.1 = a0 then (if (t115.length : Int) = 0 then (pointcodelaw23_TagsInts.j0 k a0 l1 t115 true) else (if (t115.length : Int) > 8 then (pointcodelaw23_TagsInts.j0 k a0 l1 t115 true) else (pointcodelaw23_TagsInts.j0 k a0 l1 t115 ((t115.length : Int) != (t115.length : Int))))) else (pointcodelaw23_TagsInts.j0 k a0 l1 t115 true)) else (pointcodelaw23_TagsInts.j0 k a0 l1 t115 true))))) = some r := h
  clear h
  by_cases c3 : (l1.length : Int) > 12
  · rw [if_pos c3] at H
    have c3b0 : decide (12 < (l1.length : Int)) = true := decide_eq_true c3
    have c3b1 : decide (12 < l1.length) = true := decide_eq_true (by omega)
    clear c3
    replace H := Option.bind_eq_some_iff.mp H
    obtain ⟨t114, A40, H⟩ := H
    replace H : (some t114) = some r := H
    have A4 := Aside0.mk A40
    clear A40
    obtain rfl := Option.some.inj H
    go_enter Tryd.func3, Tryd.ntmps3
    go_wp2_with (first | ((with_reducible refine gate_callee (f := 10) rfl ?_); refine goesL_ (some 16) rfl rfl Tryd.func10 (by kernel_rfl) rfl #[] rfl (by (try simp only [List.map_toArray, List.map_cons, List.map_nil]); first | done | rfl | (simp only [List.length_drop, List.length_take]; rfl)) ?_; (with_reducible refine (pointcodelaw23_lives.calls t114 w _ HLV (by repeat (first | (with_reducible first | exact HB.out | apply below_alloc | apply pw_below_drewN | apply below_drew1) | exact HB.out)) A4.out).mono ?_); rintro e w5 ⟨rfl, hb⟩; refine ⟨_, rfl, ?_⟩; have n0_ := Aside0.mk (below_step (by repeat (first | (with_reducible first | exact HB.out | apply below_alloc | apply pw_below_drewN | apply below_drew1) | exact HB.out)) hb); clear HB; have HB := n0_; clear n0_; (try clear hb); (try clear hb2); (try clear hk); (try clear hi)))
    go_ret
    exact ⟨by first | rfl | (simp [errW_none, errW_some] <;> rfl) | (simp [*, errW_none, errW_some] <;> rfl), by repeat (first | (with_reducible first | exact HB.out | apply below_alloc | apply pw_below_drewN | apply below_drew1) | exact HB.out)⟩
  · rw [if_neg c3] at H
    have c3b0 : decide (12 < (l1.length : Int)) = false := decide_eq_false c3
    have c3b1 : decide (12 < l1.length) = false := decide_eq_false (by omega)
    clear c3
    replace H := Option.bind_eq_some_iff.mp H
    obtain ⟨t115, A60, H⟩ := H
    replace H : ((tags_ToInt.f k t115).bind fun bt118 => (if bt118.2 = 0 then (if bt118.1 = a0 then (if (t115.length : Int) = 0 then (pointcodelaw23_TagsInts.j0 k a0 l1 t115 true) else (if (t115.length : Int) > 8 then (pointcodelaw23_TagsInts.j0 k a0 l1 t115 true) else (pointcodelaw23_TagsInts.j0 k a0 l1 t115 ((t115.length : Int) != (t115.length : Int))))) else (pointcodelaw23_TagsInts.j0 k a0 l1 t115 true)) else (pointcodelaw23_TagsInts.j0 k a0 l1 t115 true))) = some r := H
    have A6 := Aside0.mk A60
    clear A60
    replace H := Option.bind_eq_some_iff.mp H
    obtain ⟨⟨t118, t119⟩, A70, H⟩ := H
    replace H : (if t119 = 0 then (if t118 = a0 then (if (t115.length : Int) = 0 then (pointcodelaw23_TagsInts.j0 k a0 l1 t115 true) else (if (t115.length : Int) > 8 then (pointcodelaw23_TagsInts.j0 k a0 l1 t115 true) else (pointcodelaw23_TagsInts.j0 k a0 l1 t115 ((t115.length : Int) != (t115.length : Int))))) else (pointcodelaw23_TagsInts.j0 k a0 l1 t115 true)) else (pointcodelaw23_TagsInts.j0 k a0 l1 t115 true)) = some r := H
    have A7 := Aside0.mk A70
    clear A70
    have HC8 := Aside0.mk H
    clear H
    go_enter Tryd.func3, Tryd.ntmps3
    go_upto_region 5 with (first | ((with_reducible refine gate_callee (f := 11) rfl ?_); refine goesL_ (some 18) rfl rfl Tryd.func11 (by kernel_rfl) rfl #[.int .i64 a0] rfl (by (try simp only [List.map_toArray, List.map_cons, List.map_nil]); first | done | rfl | (simp only [List.length_drop, List.length_take]; rfl)) ?_; (with_reducible refine (tags_Int.calls k a0 t115 _ A6.out).mono ?_); rintro e w9 ⟨v116, rfl, ho0, hb, hx_⟩; refine ⟨_, rfl, ?_⟩; have n0_ := Aside0.mk (Kd.R_lower ho0 (below_size (by repeat (first | (with_reducible first | exact HB.out | apply below_alloc | apply pw_below_drewN | apply below_drew1) | exact HB.out)))); have n1_ := Aside0.mk (below_step (by repeat (first | (with_reducible first | exact HB.out | apply below_alloc | apply pw_below_drewN | apply below_drew1) | exact HB.out)) hb); clear HB; have HO117 := n0_; have HB := n1_; clear n0_ n1_; (try clear hb); (try clear hb2); (try clear hk); (try clear hi); (try clear ho0); obtain ⟨Ao10, eo10⟩ := hx_; subst eo10) | ((with_reducible refine gate_callee (f := 12) rfl ?_); refine goesL_ (some 21) rfl rfl Tryd.func12 (by kernel_rfl) rfl #[.slice Ao10 t115.length t115.length] rfl (by (try simp only [List.map_toArray, List.map_cons, List.map_nil]); first | done | rfl | (simp only [List.length_drop, List.length_take]; rfl)) ?_; (with_reducible refine (tags_ToInt.calls k _ _ t115 t118 t119 _ ?side1 ?side2 A7.out).mono ?_); (case side1 => repeat (first | exact (Kd.R_reads' HO117.out).2.2 | (with_reducible refine Kd.C_alloc ?_ _) | (with_reducible refine Kd.C_drewN ?_ _) | (with_reducible refine Kd.C_drew ?_))); (case side2 => exact (Kd.R_reads' HO117.out).2.1); rintro e w' ⟨rfl, ⟨nd, rfl⟩⟩; refine ⟨_, rfl, ?_⟩))
    (try simp only [Act.put, List.setIfInBounds_toArray, List.set_cons_zero, List.set_cons_succ])
    go_cut [47] (fun v47 wc => ∃ (kq : Nat) (x47_7 : Bool), v47 = .bool x47_7 ∧ Aside0 (pointcodelaw23_TagsInts.j0 kq a0 l1 t115 x47_7 = some r) ∧ Aside0 (kq ≤ k) ∧ Aside0 (Kd.R (Kd.int .u8) 5 wc w.heap.size (fun _ => True) (.slice Ao10 t115.length t115.length) t115) ∧ Aside0 (Below w.heap.size w wc))
    case first => as_aux_lemma =>
      have H := HC8.out
      clear HC8
      by_cases c11 : t119 = 0
      · rw [if_pos c11] at H
        have c11b0 : (t119 == 0) = true := beq_iff_eq.mpr c11
        have c11b1 : (t119 != 0) = false := bne_eq_false_iff_eq.mpr c11
        clear c11
        (first | rw [c11b0] | (simp only [i64_w, i32_w]; rw [c11b0]) | skip)
        by_cases c12 : t118 = a0
        · rw [if_pos c12] at H
          have c12b0 : (t118 == a0) = true := beq_iff_eq.mpr c12
          have c12b1 : (t118 != a0) = false := bne_eq_false_iff_eq.mpr c12
          clear c12
          by_cases c13 : (t115.length : Int) = 0
          · rw [if_pos c13] at H
            have c13b0 : ((t115.length : Int) == 0) = true := beq_iff_eq.mpr c13
            have c13b1 : ((t115.length : Int) != 0) = false := bne_eq_false_iff_eq.mpr c13
            clear c13
            have H' := Aside0.mk H
            clear H
            go_wp2
            go_meet
            case rel => exact ⟨_, (true), (by first | rfl | (simp; done) | (simp [*]; done)), H', ⟨by first | omega | exact Nat.le_refl _⟩, ⟨by (with_reducible repeat (first | apply Kd.R_alloc | apply Kd.R_drewN | apply Kd.R_drew)); exact HO117.out⟩, ⟨by repeat (first | (with_reducible first | exact HB.out | apply below_alloc | apply pw_below_drewN | apply below_drew1) | exact HB.out)⟩⟩
          · rw [if_neg c13] at H
            have c13b0 : ((t115.length : Int) == 0) = false := beq_eq_false_iff_ne.mpr c13
            have c13b1 : ((t115.length : Int) != 0) = true := bne_iff_ne.mpr c13
            have c13b2 : ¬ (t115 = []) := fun h_ => c13 (by rw [h_]; rfl)
            by_cases c14 : (t115.length : Int) > 8
            · rw [if_pos c14] at H
              have c14b0 : decide (8 < (t115.length : Int)) = true := decide_eq_true c14
              have c14b1 : decide (8 < t115.length) = true := decide_eq_true (by omega)
              clear c14
              have H' := Aside0.mk H
              clear H
              go_wp2
              go_meet
              case rel => exact ⟨_, (true), (by first | rfl | (simp; done) | (simp [*]; done)), H', ⟨by first | omega | exact Nat.le_refl _⟩, ⟨by (with_reducible repeat (first | apply Kd.R_alloc | apply Kd.R_drewN | apply Kd.R_drew)); exact HO117.out⟩, ⟨by repeat (first | (with_reducible first | exact HB.out | apply below_alloc | apply pw_below_drewN | apply below_drew1) | exact HB.out)⟩⟩
            · rw [if_neg c14] at H
              have c14b0 : decide (8 < (t115.length : Int)) = false := decide_eq_false c14
              have c14b1 : decide (8 < t115.length) = false := decide_eq_false (by omega)
              clear c14
              have H' := Aside0.mk H
              clear H
              go_wp2
              go_meet
              case rel => exact ⟨_, (((t115.length : Int) != (t115.length : Int))), (by first | rfl | (simp; done) | (simp [*]; done)), H', ⟨by first | omega | exact Nat.le_refl _⟩, ⟨by (with_reducible repeat (first | apply Kd.R_alloc | apply Kd.R_drewN | apply Kd.R_drew)); exact HO117.out⟩, ⟨by repeat (first | (with_reducible first | exact HB.out | apply below_alloc | apply pw_below_drewN | apply below_drew1) | exact HB.out)⟩⟩
        · rw [if_neg c12] at H
          have c12b0 : (t118 == a0) = false := beq_eq_false_iff_ne.mpr c12
          have c12b1 : (t118 != a0) = true := bne_iff_ne.mpr c12
          have H' := Aside0.mk H
          clear H
          go_wp2
          go_meet
          case rel => exact ⟨_, (true), (by first | rfl | (simp; done) | (simp [*]; done)), H', ⟨by first | omega | exact Nat.le_refl _⟩, ⟨by (with_reducible repeat (first | apply Kd.R_alloc | apply Kd.R_drewN | apply Kd.R_drew)); exact HO117.out⟩, ⟨by repeat (first | (with_reducible first | exact HB.out | apply below_alloc | apply pw_below_drewN | apply below_drew1) | exact HB.out)⟩⟩
      · rw [if_neg c11] at H
        have c11b0 : (t119 == 0) = false := beq_eq_false_iff_ne.mpr c11
        have c11b1 : (t119 != 0) = true := bne_iff_ne.mpr c11
        (first | rw [c11b0] | (simp only [i64_w, i32_w]; rw [c11b0]) | skip)
        have H' := Aside0.mk H
        clear H
        go_wp2
        go_meet
        case rel => exact ⟨_, (true), (by first | rfl | (simp; done) | (simp [*]; done)), H', ⟨by first | omega | exact Nat.le_refl _⟩, ⟨by (with_reducible repeat (first | apply Kd.R_alloc | apply Kd.R_drewN | apply Kd.R_drew)); exact HO117.out⟩, ⟨by repeat (first | (with_reducible first | exact HB.out | apply below_alloc | apply pw_below_drewN | apply below_drew1) | exact HB.out)⟩⟩
    case rest => as_aux_lemma =>
      clear HC8
      try clear c1
      try clear p2
      try clear c3
      try clear c3b0
      try clear c3b1
      try clear c10
      try clear c11
      try clear c11b0
      try clear c11b1
      try clear c12
      try clear c12b0
      try clear c12b1
      try clear c13
      try clear c13b0
      try clear c13b1
      try clear c13b2
      try clear c14
      try clear c14b0
      try clear c14b1
      obtain ⟨kq, x47_7, rfl, HA, HJ7, HO_5, HB⟩ := hcut
      cases kq with
      | zero => exact absurd HA.out (by simp [pointcodelaw23_TagsInts.j0])
      | succ kj7 =>
        have H := HA.out
        clear HA
        simp only [pointcodelaw23_TagsInts.j0] at H
        by_cases c15 : x47_7 = true
        · subst c15
          have H1 : (some false) = some r := by rw [if_pos rfl] at H; exact H
          clear H
          have H := H1
          clear H1
          obtain rfl := Option.some.inj H
          go_wp2
          go_ret
          exact ⟨by first | rfl | (simp [errW_none, errW_some] <;> rfl) | (simp [*, errW_none, errW_some] <;> rfl), by repeat (first | (with_reducible first | exact HB.out | apply below_alloc | apply pw_below_drewN | apply below_drew1) | exact HB.out)⟩
        · replace c15 := Bool.eq_false_iff.mpr c15
          subst c15
          have H1 : (if (t115.length : Int) > 1 then (if 0 < (t115.length : Int) then (if (rd t115 0) = 0 then (if 1 < (t115.length : Int) then (if (rd t115 1) < 128 then (pointcodelaw23_TagsInts.j1 kj7 a0 l1 t115 true) else (if (rd t115 0) = 255 then (pointcodelaw23_TagsInts.j1 kj7 a0 l1 t115 (decide ((rd t115 1) ≥ 128))) else (pointcodelaw23_TagsInts.j1 kj7 a0 l1 t115 false))) else (none)) else (if (rd t115 0) = 255 then (if 1 < (t115.length : Int) then (pointcodelaw23_TagsInts.j1 kj7 a0 l1 t115 (decide ((rd t115 1) ≥ 128))) else (none)) else (pointcodelaw23_TagsInts.j1 kj7 a0 l1 t115 false))) else (none)) else (pointcodelaw23_TagsInts.j1 kj7 a0 l1 t115 false)) = some r := by rw [if_neg (show ¬ (false = true) by decide)] at H; exact H
          clear H
          have H := H1
          clear H1
          have HC16 := Aside0.mk H
          clear H
          go_upto_region 7 with (fail)
          go_cut [74] (fun v74 wc => ∃ (kq : Nat) (x74_15 : Bool), v74 = .bool x74_15 ∧ Aside0 (pointcodelaw23_TagsInts.j1 kq a0 l1 t115 x74_15 = some r) ∧ Aside0 (kq ≤ kj7) ∧ Aside0 (Kd.R (Kd.int .u8) 5 wc w.heap.size (fun _ => True) (.slice Ao10 t115.length t115.length) t115) ∧ Aside0 (Below w.heap.size w wc))
          case first => as_aux_lemma =>
            have H := HC16.out
            clear HC16
            by_cases c17 : (t115.length : Int) > 1
            · rw [if_pos c17] at H
              have c17b0 : decide (1 < (t115.length : Int)) = true := decide_eq_true c17
              have c17b1 : decide (1 < t115.length) = true := decide_eq_true (by omega)
              clear c17
              (first | rw [c17b0] | (simp only [i64_w, i32_w]; rw [c17b0]) | skip)
              by_cases c18 : 0 < (t115.length : Int)
              · rw [if_pos c18] at H
                have c18b0 : decide (0 < (t115.length : Int)) = true := decide_eq_true c18
                have c18b1 : decide (0 < t115.length) = true := decide_eq_true (by omega)
                clear c18
                by_cases c19 : (rd t115 0) = 0
                · rw [if_pos c19] at H
                  have c19b0 : ((rd t115 0) == 0) = true := beq_iff_eq.mpr c19
                  have c19b1 : ((rd t115 0) != 0) = false := bne_eq_false_iff_eq.mpr c19
                  clear c19
                  by_cases c20 : 1 < (t115.length : Int)
                  · rw [if_pos c20] at H
                    have c20b0 : decide (1 < (t115.length : Int)) = true := decide_eq_true c20
                    have c20b1 : decide (1 < t115.length) = true := decide_eq_true (by omega)
                    clear c20
                    by_cases c21 : (rd t115 1) < 128
                    · rw [if_pos c21] at H
                      have c21b0 : decide ((rd t115 1) < 128) = true := decide_eq_true c21
                      clear c21
                      have H' := Aside0.mk H
                      clear H
                      have p120 : 0 ≤ (0 : Int) := (by omega)
                      have q120 : 0 < (t115.length : Int) := of_decide_eq_true (by first | (with_reducible assumption) | assumption)
                      obtain ⟨ad120, e120, hx120_0⟩ := Kd.at_int (Kd.R_reads' HO_5.out).2.2 0 p120 q120
                      cases e120
                      have qi120 : (0 < t115.length) = True := eq_true (by omega)
                      (try rw [show ((0 : Int)).toNat = 0 from rfl] at hx120_0)
                      (try rw [Addr.add_zero'] at hx120_0)
                      replace p120 := eq_true p120
                      replace q120 := eq_true q120
                      have p121 : 0 ≤ (1 : Int) := (by omega)
                      have q121 : 1 < (t115.length : Int) := of_decide_eq_true (by first | (with_reducible assumption) | assumption)
                      obtain ⟨ad121, e121, hx121_0⟩ := Kd.at_int (Kd.R_reads' HO_5.out).2.2 1 p121 q121
                      obtain rfl : ad120 = ad121 := (by injection e121)
                      (try simp only [show (1 : Int).toNat = 1 from rfl, Nat.reduceMul, Nat.reduceEqDiff, Go.Addr.add, ↓reduceIte] at hx121_0)
                      have qi121 : (1 < t115.length) = True := eq_true (by omega)
                      (try rw [show ((1 : Int)).toNat = 1 from rfl] at hx121_0)
                      replace p121 := eq_true p121
                      replace q121 := eq_true q121
                      go_wp2
                      go_meet
                      case rel => exact ⟨_, (true), (by first | rfl | (simp; done) | (simp [*]; done)), H', ⟨by have := HJ7.out; first | omega | exact Nat.le_refl _⟩, ⟨by (with_reducible repeat (first | apply Kd.R_alloc | apply Kd.R_drewN | apply Kd.R_drew)); exact HO_5.out⟩, ⟨by repeat (first | (with_reducible first | exact HB.out | apply below_alloc | apply pw_below_drewN | apply below_drew1) | exact HB.out)⟩⟩
                    · rw [if_neg c21] at H
                      have c21b0 : decide ((rd t115 1) < 128) = false := decide_eq_false c21
                      clear c21
                      by_cases c22 : (rd t115 0) = 255
                      · rw [if_pos c22] at H
                        have c22b0 : ((rd t115 0) == 255) = true := beq_iff_eq.mpr c22
                        have c22b1 : ((rd t115 0) != 255) = false := bne_eq_false_iff_eq.mpr c22
                        clear c22
                        have H' := Aside0.mk H
                        clear H
                        have p120 : 0 ≤ (0 : Int) := (by omega)
                        have q120 : 0 < (t115.length : Int) := of_decide_eq_true (by first | (with_reducible assumption) | assumption)
                        obtain ⟨ad120, e120, hx120_0⟩ := Kd.at_int (Kd.R_reads' HO_5.out).2.2 0 p120 q120
                        cases e120
                        have qi120 : (0 < t115.length) = True := eq_true (by omega)
                        (try rw [show ((0 : Int)).toNat = 0 from rfl] at hx120_0)
                        (try rw [Addr.add_zero'] at hx120_0)
                        replace p120 := eq_true p120
                        replace q120 := eq_true q120
                        have p121 : 0 ≤ (1 : Int) := (by omega)
                        have q121 : 1 < (t115.length : Int) := of_decide_eq_true (by first | (with_reducible assumption) | assumption)
                        obtain ⟨ad121, e121, hx121_0⟩ := Kd.at_int (Kd.R_reads' HO_5.out).2.2 1 p121 q121
                        obtain rfl : ad120 = ad121 := (by injection e121)
                        (try simp only [show (1 : Int).toNat = 1 from rfl, Nat.reduceMul, Nat.reduceEqDiff, Go.Addr.add, ↓reduceIte] at hx121_0)
                        have qi121 : (1 < t115.length) = True := eq_true (by omega)
                        (try rw [show ((1 : Int)).toNat = 1 from rfl] at hx121_0)
                        replace p121 := eq_true p121
                        replace q121 := eq_true q121
                        have p122 : 0 ≤ (0 : Int) := (by omega)
                        have q122 : 0 < (t115.length : Int) := of_decide_eq_true (by first | (with_reducible assumption) | assumption)
                        obtain ⟨ad122, e122, hx122_0⟩ := Kd.at_int (Kd.R_reads' HO_5.out).2.2 0 p122 q122
                        obtain rfl : ad120 = ad122 := (by injection e122)
                        have qi122 : (0 < t115.length) = True := eq_true (by omega)
                        (try rw [show ((0 : Int)).toNat = 0 from rfl] at hx122_0)
                        (try rw [Addr.add_zero'] at hx122_0)
                        replace p122 := eq_true p122
                        replace q122 := eq_true q122
                        have p123 : 0 ≤ (1 : Int) := (by omega)
                        have q123 : 1 < (t115.length : Int) := of_decide_eq_true (by first | (with_reducible assumption) | assumption)
                        obtain ⟨ad123, e123, hx123_0⟩ := Kd.at_int (Kd.R_reads' HO_5.out).2.2 1 p123 q123
                        obtain rfl : ad120 = ad123 := (by injection e123)
                        (try simp only [show (1 : Int).toNat = 1 from rfl, Nat.reduceMul, Nat.reduceEqDiff, Go.Addr.add, ↓reduceIte] at hx123_0)
                        have qi123 : (1 < t115.length) = True := eq_true (by omega)
                        (try rw [show ((1 : Int)).toNat = 1 from rfl] at hx123_0)
                        replace p123 := eq_true p123
                        replace q123 := eq_true q123
                        go_wp2
                        go_meet
                        case rel => exact ⟨_, (decide ((rd t115 1) ≥ 128)), (by first | rfl | (simp; done) | (simp [*]; done)), H', ⟨by have := HJ7.out; first | omega | exact Nat.le_refl _⟩, ⟨by (with_reducible repeat (first | apply Kd.R_alloc | apply Kd.R_drewN | apply Kd.R_drew)); exact HO_5.out⟩, ⟨by repeat (first | (with_reducible first | exact HB.out | apply below_alloc | apply pw_below_drewN | apply below_drew1) | exact HB.out)⟩⟩
                      · rw [if_neg c22] at H
                        have c22b0 : ((rd t115 0) == 255) = false := beq_eq_false_iff_ne.mpr c22
                        have c22b1 : ((rd t115 0) != 255) = true := bne_iff_ne.mpr c22
                        have H' := Aside0.mk H
                        clear H
                        have p120 : 0 ≤ (0 : Int) := (by omega)
                        have q120 : 0 < (t115.length : Int) := of_decide_eq_true (by first | (with_reducible assumption) | assumption)
                        obtain ⟨ad120, e120, hx120_0⟩ := Kd.at_int (Kd.R_reads' HO_5.out).2.2 0 p120 q120
                        cases e120
                        have qi120 : (0 < t115.length) = True := eq_true (by omega)
                        (try rw [show ((0 : Int)).toNat = 0 from rfl] at hx120_0)
                        (try rw [Addr.add_zero'] at hx120_0)
                        replace p120 := eq_true p120
                        replace q120 := eq_true q120
                        have p121 : 0 ≤ (1 : Int) := (by omega)
                        have q121 : 1 < (t115.length : Int) := of_decide_eq_true (by first | (with_reducible assumption) | assumption)
                        obtain ⟨ad121, e121, hx121_0⟩ := Kd.at_int (Kd.R_reads' HO_5.out).2.2 1 p121 q121
                        obtain rfl : ad120 = ad121 := (by injection e121)
                        (try simp only [show (1 : Int).toNat = 1 from rfl, Nat.reduceMul, Nat.reduceEqDiff, Go.Addr.add, ↓reduceIte] at hx121_0)
                        have qi121 : (1 < t115.length) = True := eq_true (by omega)
                        (try rw [show ((1 : Int)).toNat = 1 from rfl] at hx121_0)
                        replace p121 := eq_true p121
                        replace q121 := eq_true q121
                        have p122 : 0 ≤ (0 : Int) := (by omega)
                        have q122 : 0 < (t115.length : Int) := of_decide_eq_true (by first | (with_reducible assumption) | assumption)
                        obtain ⟨ad122, e122, hx122_0⟩ := Kd.at_int (Kd.R_reads' HO_5.out).2.2 0 p122 q122
                        obtain rfl : ad120 = ad122 := (by injection e122)
                        have qi122 : (0 < t115.length) = True := eq_true (by omega)
                        (try rw [show ((0 : Int)).toNat = 0 from rfl] at hx122_0)
                        (try rw [Addr.add_zero'] at hx122_0)
                        replace p122 := eq_true p122
                        replace q122 := eq_true q122
                        go_wp2
                        go_meet
                        case rel => exact ⟨_, (false), (by first | rfl | (simp; done) | (simp [*]; done)), H', ⟨by have := HJ7.out; first | omega | exact Nat.le_refl _⟩, ⟨by (with_reducible repeat (first | apply Kd.R_alloc | apply Kd.R_drewN | apply Kd.R_drew)); exact HO_5.out⟩, ⟨by repeat (first | (with_reducible first | exact HB.out | apply below_alloc | apply pw_below_drewN | apply below_drew1) | exact HB.out)⟩⟩
                  · rw [if_neg c20] at H
                    exact absurd H (by simp)
                · rw [if_neg c19] at H
                  have c19b0 : ((rd t115 0) == 0) = false := beq_eq_false_iff_ne.mpr c19
                  have c19b1 : ((rd t115 0) != 0) = true := bne_iff_ne.mpr c19
                  by_cases c23 : (rd t115 0) = 255
                  · rw [if_pos c23] at H
                    have c23b0 : ((rd t115 0) == 255) = true := beq_iff_eq.mpr c23
                    have c23b1 : ((rd t115 0) != 255) = false := bne_eq_false_iff_eq.mpr c23
                    clear c23
                    by_cases c24 : 1 < (t115.length : Int)
                    · rw [if_pos c24] at H
                      have c24b0 : decide (1 < (t115.length : Int)) = true := decide_eq_true c24
                      have c24b1 : decide (1 < t115.length) = true := decide_eq_true (by omega)
                      clear c24
                      have H' := Aside0.mk H
                      clear H
                      have p120 : 0 ≤ (0 : Int) := (by omega)
                      have q120 : 0 < (t115.length : Int) := of_decide_eq_true (by first | (with_reducible assumption) | assumption)
                      obtain ⟨ad120, e120, hx120_0⟩ := Kd.at_int (Kd.R_reads' HO_5.out).2.2 0 p120 q120
                      cases e120
                      have qi120 : (0 < t115.length) = True := eq_true (by omega)
                      (try rw [show ((0 : Int)).toNat = 0 from rfl] at hx120_0)
                      (try rw [Addr.add_zero'] at hx120_0)
                      replace p120 := eq_true p120
                      replace q120 := eq_true q120
                      have p124 : 0 ≤ (0 : Int) := (by omega)
                      have q124 : 0 < (t115.length : Int) := of_decide_eq_true (by first | (with_reducible assumption) | assumption)
                      obtain ⟨ad124, e124, hx124_0⟩ := Kd.at_int (Kd.R_reads' HO_5.out).2.2 0 p124 q124
                      obtain rfl : ad120 = ad124 := (by injection e124)
                      have qi124 : (0 < t115.length) = True := eq_true (by omega)
                      (try rw [show ((0 : Int)).toNat = 0 from rfl] at hx124_0)
                      (try rw [Addr.add_zero'] at hx124_0)
                      replace p124 := eq_true p124
                      replace q124 := eq_true q124
                      have p125 : 0 ≤ (1 : Int) := (by omega)
                      have q125 : 1 < (t115.length : Int) := of_decide_eq_true (by first | (with_reducible assumption) | assumption)
                      obtain ⟨ad125, e125, hx125_0⟩ := Kd.at_int (Kd.R_reads' HO_5.out).2.2 1 p125 q125
                      obtain rfl : ad120 = ad125 := (by injection e125)
                      (try simp only [show (1 : Int).toNat = 1 from rfl, Nat.reduceMul, Nat.reduceEqDiff, Go.Addr.add, ↓reduceIte] at hx125_0)
                      have qi125 : (1 < t115.length) = True := eq_true (by omega)
                      (try rw [show ((1 : Int)).toNat = 1 from rfl] at hx125_0)
                      replace p125 := eq_true p125
                      replace q125 := eq_true q125
                      go_wp2
                      go_meet
                      case rel => exact ⟨_, (decide ((rd t115 1) ≥ 128)), (by first | rfl | (simp; done) | (simp [*]; done)), H', ⟨by have := HJ7.out; first | omega | exact Nat.le_refl _⟩, ⟨by (with_reducible repeat (first | apply Kd.R_alloc | apply Kd.R_drewN | apply Kd.R_drew)); exact HO_5.out⟩, ⟨by repeat (first | (with_reducible first | exact HB.out | apply below_alloc | apply pw_below_drewN | apply below_drew1) | exact HB.out)⟩⟩
                    · rw [if_neg c24] at H
                      exact absurd H (by simp)
                  · rw [if_neg c23] at H
                    have c23b0 : ((rd t115 0) == 255) = false := beq_eq_false_iff_ne.mpr c23
                    have c23b1 : ((rd t115 0) != 255) = true := bne_iff_ne.mpr c23
                    have H' := Aside0.mk H
                    clear H
                    have p120 : 0 ≤ (0 : Int) := (by omega)
                    have q120 : 0 < (t115.length : Int) := of_decide_eq_true (by first | (with_reducible assumption) | assumption)
                    obtain ⟨ad120, e120, hx120_0⟩ := Kd.at_int (Kd.R_reads' HO_5.out).2.2 0 p120 q120
                    cases e120
                    have qi120 : (0 < t115.length) = True := eq_true (by omega)
                    (try rw [show ((0 : Int)).toNat = 0 from rfl] at hx120_0)
                    (try rw [Addr.add_zero'] at hx120_0)
                    replace p120 := eq_true p120
                    replace q120 := eq_true q120
                    have p124 : 0 ≤ (0 : Int) := (by omega)
                    have q124 : 0 < (t115.length : Int) := of_decide_eq_true (by first | (with_reducible assumption) | assumption)
                    obtain ⟨ad124, e124, hx124_0⟩ := Kd.at_int (Kd.R_reads' HO_5.out).2.2 0 p124 q124
                    obtain rfl : ad120 = ad124 := (by injection e124)
                    have qi124 : (0 < t115.length) = True := eq_true (by omega)
                    (try rw [show ((0 : Int)).toNat = 0 from rfl] at hx124_0)
                    (try rw [Addr.add_zero'] at hx124_0)
                    replace p124 := eq_true p124
                    replace q124 := eq_true q124
                    go_wp2
                    go_meet
                    case rel => exact ⟨_, (false), (by first | rfl | (simp; done) | (simp [*]; done)), H', ⟨by have := HJ7.out; first | omega | exact Nat.le_refl _⟩, ⟨by (with_reducible repeat (first | apply Kd.R_alloc | apply Kd.R_drewN | apply Kd.R_drew)); exact HO_5.out⟩, ⟨by repeat (first | (with_reducible first | exact HB.out | apply below_alloc | apply pw_below_drewN | apply below_drew1) | exact HB.out)⟩⟩
              · rw [if_neg c18] at H
                exact absurd H (by simp)
            · rw [if_neg c17] at H
              have c17b0 : decide (1 < (t115.length : Int)) = false := decide_eq_false c17
              have c17b1 : decide (1 < t115.length) = false := decide_eq_false (by omega)
              clear c17
              (first | rw [c17b0] | (simp only [i64_w, i32_w]; rw [c17b0]) | skip)
              have H' := Aside0.mk H
              clear H
              go_wp2
              go_meet
              case rel => exact ⟨_, (false), (by first | rfl | (simp; done) | (simp [*]; done)), H', ⟨by have := HJ7.out; first | omega | exact Nat.le_refl _⟩, ⟨by (with_reducible repeat (first | apply Kd.R_alloc | apply Kd.R_drewN | apply Kd.R_drew)); exact HO_5.out⟩, ⟨by repeat (first | (with_reducible first | exact HB.out | apply below_alloc | apply pw_below_drewN | apply below_drew1) | exact HB.out)⟩⟩
          case rest => as_aux_lemma =>
            clear HC16
            try clear c1
            try clear p1
            try clear q1
            try clear hx1
            try clear qi1
            try clear c2
            try clear p2
            try clear c3
            try clear c3b0
            try clear c3b1
            try clear c10
            try clear c11
            try clear c11b0
            try clear c11b1
            try clear c12
            try clear c12b0
            try clear c12b1
            try clear p12
            try clear q12
            try clear hx12
            try clear qi12
            try clear c13
            try clear c13b0
            try clear c13b1
            try clear c13b2
            try clear c14
            try clear c14b0
            try clear c14b1
            try clear c15
            try clear c17
            try clear c17b0
            try clear c17b1
            try clear c18
            try clear c18b0
            try clear c18b1
            try clear c19
            try clear c19b0
            try clear c19b1
            try clear c20
            try clear c20b0
            try clear c20b1
            try clear c21
            try clear c21b0
            try clear c22
            try clear c22b0
            try clear c22b1
            try clear c23
            try clear c23b0
            try clear c23b1
            try clear c24
            try clear c24b0
            try clear c24b1
            try clear hx120_0
            try clear hx121_0
            try clear hx122_0
            try clear hx123_0
            try clear hx124_0
            try clear hx125_0
            try clear p120
            try clear p121
            try clear p122
            try clear p123
            try clear p124
            try clear p125
            try clear p2
            try clear q120
            try clear q121
            try clear q122
            try clear q123
            try clear q124
            try clear q125
            obtain ⟨kq, x74_15, rfl, HA, HJ15, HO_5, HB⟩ := hcut
            cases kq with
            | zero => exact absurd HA.out (by simp [pointcodelaw23_TagsInts.j1])
            | succ kj15 =>
              have H := HA.out
              clear HA
              simp only [pointcodelaw23_TagsInts.j1] at H
              by_cases c25 : x74_15 = true
              · subst c25
                have H1 : (some false) = some r := by rw [if_pos rfl] at H; exact H
                clear H
                have H := H1
                clear H1
                obtain rfl := Option.some.inj H
                go_wp2
                go_ret
                exact ⟨by first | rfl | (simp [errW_none, errW_some] <;> rfl) | (simp [*, errW_none, errW_some] <;> rfl), by repeat (first | (with_reducible first | exact HB.out | apply below_alloc | apply pw_below_drewN | apply below_drew1) | exact HB.out)⟩
              · replace c25 := Bool.eq_false_iff.mpr c25
                subst c25
                have H1 : (if (t115.length : Int) < 8 then (pointcodelaw23_TagsInts.l0 kj15 a0 l1 t115 0 0) else (pointcodelaw23_TagsInts.j3 kj15 l1)) = some r := by rw [if_neg (show ¬ (false = true) by decide)] at H; exact H
                clear H
                have H := H1
                clear H1
                have HC26 := Aside0.mk H
                clear H
                go_upto_if 77 with (fail)
                go_cut [] (fun wc => ∃ (kq : Nat), Aside0 (pointcodelaw23_TagsInts.j3 kq l1 = some r) ∧ Aside0 (kq ≤ kj15) ∧ Aside0 (Below w.heap.size w wc))
                case first => as_aux_lemma =>
                  have H := HC26.out
                  clear HC26
                  by_cases c27 : (t115.length : Int) < 8
                  · rw [if_pos c27] at H
                    have c27b0 : decide ((t115.length : Int) < 8) = true := decide_eq_true c27
                    have c27b1 : decide (t115.length < 8) = true := decide_eq_true (by omega)
                    clear c27
                    (first | rw [c27b0] | (simp only [i64_w, i32_w]; rw [c27b0]) | skip)
                    have H' := Aside0.mk H
                    clear H
                    go_wp2
                    go_loopg [8, 9] kj15 (fun kq v8 v9 w' => ∃ (x8_3 : Int) (x9_3 : Int), v8 = .int .i64 x8_3 ∧ v9 = .int .i64 x9_3 ∧ Aside0 (pointcodelaw23_TagsInts.l0 kq a0 l1 t115 x8_3 x9_3 = some r) ∧ Aside0 (kq ≤ kj15) ∧ Aside0 (Kd.R (Kd.int .u8) 5 w' w.heap.size (fun _ => True) (.slice Ao10 t115.length t115.length) t115) ∧ Aside0 (Below w.heap.size w w'))
                    case atStart => exact ⟨(0), (0), (by first | rfl | (simp; done) | (simp [*]; done)), (by first | rfl | (simp; done) | (simp [*]; done)), H', ⟨Nat.le_refl _⟩, ⟨by (with_reducible repeat (first | apply Kd.R_alloc | apply Kd.R_drewN | apply Kd.R_drew)); exact HO_5.out⟩, ⟨by repeat (first | (with_reducible first | exact HB.out | apply below_alloc | apply pw_below_drewN | apply below_drew1) | exact HB.out)⟩⟩
                    case round => as_aux_lemma =>
                      clear H'
                      try clear c1
                      try clear p1
                      try clear q1
                      try clear hx1
                      try clear qi1
                      try clear c2
                      try clear p2
                      try clear c3
                      try clear c3b0
                      try clear c3b1
                      try clear c10
                      try clear c11
                      try clear c11b0
                      try clear c11b1
                      try clear c12
                      try clear c12b0
                      try clear c12b1
                      try clear p12
                      try clear q12
                      try clear hx12
                      try clear qi12
                      try clear c13
                      try clear c13b0
                      try clear c13b1
                      try clear c13b2
                      try clear c14
                      try clear c14b0
                      try clear c14b1
                      try clear c15
                      try clear c17
                      try clear c17b0
                      try clear c17b1
                      try clear c18
                      try clear c18b0
                      try clear c18b1
                      try clear c19
                      try clear c19b0
                      try clear c19b1
                      try clear c20
                      try clear c20b0
                      try clear c20b1
                      try clear c21
                      try clear c21b0
                      try clear c22
                      try clear c22b0
                      try clear c22b1
                      try clear c23
                      try clear c23b0
                      try clear c23b1
                      try clear c24
                      try clear c24b0
                      try clear c24b1
                      try clear c25
                      try clear c27
                      try clear c27b0
                      try clear c27b1
                      try clear hx120_0
                      try clear hx121_0
                      try clear hx122_0
                      try clear hx123_0
                      try clear hx124_0
                      try clear hx125_0
                      try clear p1
                      try clear p12
                      try clear p120
                      try clear p121
                      try clear p122
                      try clear p123
                      try clear p124
                      try clear p125
                      try clear p2
                      try clear q1
                      try clear q12
                      try clear q120
                      try clear q121
                      try clear q122
                      try clear q123
                      try clear q124
                      try clear q125
                      obtain ⟨x8_3, x9_3, rfl, rfl, HA, HK3, HO_5, HB⟩ := hrel
                      cases gk with
                      | zero => exact absurd HA.out (by simp [pointcodelaw23_TagsInts.l0])
                      | succ k3 =>
                        have H := HA.out
                        clear HA
                        simp only [pointcodelaw23_TagsInts.l0] at H
                        by_cases c28 : x9_3 < (t115.length : Int)
                        · rw [if_pos c28] at H
                          have c28b0 : decide (x9_3 < (t115.length : Int)) = true := decide_eq_true c28
                          clear c28
                          by_cases c29 : 0 ≤ x9_3
                          · rw [if_pos c29] at H
                            have c29b0 : decide (0 ≤ x9_3) = true := decide_eq_true c29
                            clear c29
                            have H' := Aside0.mk H
                            clear H
                            have p126 : 0 ≤ (x9_3 : Int) := of_decide_eq_true (by first | (with_reducible assumption) | assumption)
                            have q126 : x9_3 < (t115.length : Int) := of_decide_eq_true (by first | (with_reducible assumption) | assumption)
                            obtain ⟨ad126, e126, hx126_0⟩ := Kd.at_int (Kd.R_reads' HO_5.out).2.2 x9_3 p126 q126
                            cases e126
                            replace p126 := eq_true p126
                            replace q126 := eq_true q126
                            go_wp2
                            go_roundg k3
                            case measure => have := HJ7.out; have := HJ15.out; have := HK3.out; omega
                            case rel => exact ⟨(wrap64 ((wrap64 (x8_3 * 256)) + (wrap64 (rd t115 x9_3)))), (wrap64 (x9_3 + 1)), (by first | rfl | (simp; done) | (simp [*]; done)), (by first | rfl | (simp; done) | (simp [*]; done)), H', ⟨by have := HJ7.out; have := HJ15.out; have := HK3.out; omega⟩, ⟨by (with_reducible repeat (first | apply Kd.R_alloc | apply Kd.R_drewN | apply Kd.R_drew)); exact HO_5.out⟩, ⟨by repeat (first | (with_reducible first | exact HB.out | apply below_alloc | apply pw_below_drewN | apply below_drew1) | exact HB.out)⟩⟩
                          · rw [if_neg c29] at H
                            exact absurd H (by simp)
                        · rw [if_neg c28] at H
                          have c28b0 : decide (x9_3 < (t115.length : Int)) = false := decide_eq_false c28
                          clear c28
                          by_cases c30 : 0 < (t115.length : Int)
                          · rw [if_pos c30] at H
                            have c30b0 : decide (0 < (t115.length : Int)) = true := decide_eq_true c30
                            have c30b1 : decide (0 < t115.length) = true := decide_eq_true (by omega)
                            clear c30
                            by_cases c31 : (rd t115 0) ≥ 128
                            · rw [if_pos c31] at H
                              have c31b0 : decide (128 ≤ (rd t115 0)) = true := decide_eq_true c31
                              clear c31
                              obtain ⟨ji32, hji32⟩ : ∃ j_ : Int, (wrap64 (8 * (t115.length : Int))) = j_ := ⟨_, rfl⟩
                              replace H : (if 0 ≤ (ji32) then (if (wrap64 (x8_3 - (shl .i64 1 (ji32)))) = a0 then (pointcodelaw23_TagsInts.j3 k3 l1) else (some false)) else (none)) = some r := by first | (rw [hji32] at H; exact H) | (simp only [hji32] at H ⊢; exact H)
                              have hji32w : (IntKind.i64.wrap (8 * (t115.length : Int))) = ji32 := (i64_w _).trans hji32
                              by_cases c33 : 0 ≤ (ji32)
                              · rw [if_pos c33] at H
                                have c33b0 := eq_true c33
                                have c33b1 : decide (0 ≤ (ji32)) = true := decide_eq_true c33
                                clear c33
                                obtain ⟨ji34, hji34⟩ : ∃ j_ : Int, (shl .i64 1 (ji32)) = j_ := ⟨_, rfl⟩
                                replace H : (if (wrap64 (x8_3 - (ji34))) = a0 then (pointcodelaw23_TagsInts.j3 k3 l1) else (some false)) = some r := by first | (rw [hji34] at H; exact H) | (simp only [hji34] at H ⊢; exact H)
                                have hji34_ : (IntKind.i64.wrap (1 * 2 ^ min (ji32).toNat 64)) = ji34 := hji34
                                have hji34z : (ji32) ≤ 64 → (IntKind.i64.wrap (1 * 2 ^ (ji32).toNat)) = ji34 := shl_small hji34
                                have hji34u : (IntKind.i64.wrap (2 ^ min (ji32).toNat 64)) = ji34 := by have h_ := hji34_; rw [Int.one_mul] at h_; exact h_
                                have hji34v : (ji32) ≤ 64 → (IntKind.i64.wrap (2 ^ (ji32).toNat)) = ji34 := fun hle_ => by have h_ := hji34z hle_; rw [Int.one_mul] at h_; exact h_
                                have hji34y : (wrap64 (1 * 2 ^ min (ji32).toNat 64)) = ji34 := (i64_w _).symm.trans hji34_
                                have hji34x : (ji32) ≤ 64 → (wrap64 (1 * 2 ^ (ji32).toNat)) = ji34 := fun h_ => (i64_w _).symm.trans (hji34z h_)
                                by_cases c35 : (wrap64 (x8_3 - (ji34))) = a0
                                · rw [if_pos c35] at H
                                  have c35b0 : ((wrap64 (x8_3 - (ji34))) == a0) = true := beq_iff_eq.mpr c35
                                  have c35b1 : ((wrap64 (x8_3 - (ji34))) != a0) = false := bne_eq_false_iff_eq.mpr c35
                                  clear c35
                                  have H' := Aside0.mk H
                                  clear H
                                  have p127 : 0 ≤ (0 : Int) := (by omega)
                                  have q127 : 0 < (t115.length : Int) := of_decide_eq_true (by first | (with_reducible assumption) | assumption)
                                  obtain ⟨ad127, e127, hx127_0⟩ := Kd.at_int (Kd.R_reads' HO_5.out).2.2 0 p127 q127
                                  cases e127
                                  have qi127 : (0 < t115.length) = True := eq_true (by omega)
                                  (try rw [show ((0 : Int)).toNat = 0 from rfl] at hx127_0)
                                  (try rw [Addr.add_zero'] at hx127_0)
                                  replace p127 := eq_true p127
                                  replace q127 := eq_true q127
                                  go_wp2
                                  go_meet
                                  case rel => exact ⟨_, H', ⟨by have := HJ7.out; have := HJ15.out; have := HK3.out; first | omega | exact Nat.le_refl _⟩, ⟨by repeat (first | (with_reducible first | exact HB.out | apply below_alloc | apply pw_below_drewN | apply below_drew1) | exact HB.out)⟩⟩
                                · rw [if_neg c35] at H
                                  have c35b0 : ((wrap64 (x8_3 - (ji34))) == a0) = false := beq_eq_false_iff_ne.mpr c35
                                  have c35b1 : ((wrap64 (x8_3 - (ji34))) != a0) = true := bne_iff_ne.mpr c35
                                  obtain rfl := Option.some.inj H
                                  have p127 : 0 ≤ (0 : Int) := (by omega)
                                  have q127 : 0 < (t115.length : Int) := of_decide_eq_true (by first | (with_reducible assumption) | assumption)
                                  obtain ⟨ad127, e127, hx127_0⟩ := Kd.at_int (Kd.R_reads' HO_5.out).2.2 0 p127 q127
                                  cases e127
                                  have qi127 : (0 < t115.length) = True := eq_true (by omega)
                                  (try rw [show ((0 : Int)).toNat = 0 from rfl] at hx127_0)
                                  (try rw [Addr.add_zero'] at hx127_0)
                                  replace p127 := eq_true p127
                                  replace q127 := eq_true q127
                                  go_wp2
                                  go_ret
                                  exact ⟨by first | rfl | (simp [errW_none, errW_some] <;> rfl) | (simp only [← hji32, ← hji34]; first | rfl | (simp [errW_none, errW_some] <;> rfl)) | (simp [*, errW_none, errW_some] <;> rfl), by repeat (first | (with_reducible first | exact HB.out | apply below_alloc | apply pw_below_drewN | apply below_drew1) | exact HB.out)⟩
                              · rw [if_neg c33] at H
                                exact absurd H (by simp)
                            · rw [if_neg c31] at H
                              have c31b0 : decide (128 ≤ (rd t115 0)) = false := decide_eq_false c31
                              clear c31
                              by_cases c36 : x8_3 = a0
                              · rw [if_pos c36] at H
                                have c36b0 : (x8_3 == a0) = true := beq_iff_eq.mpr c36
                                have c36b1 : (x8_3 != a0) = false := bne_eq_false_iff_eq.mpr c36
                                clear c36
                                have H' := Aside0.mk H
                                clear H
                                have p127 : 0 ≤ (0 : Int) := (by omega)
                                have q127 : 0 < (t115.length : Int) := of_decide_eq_true (by first | (with_reducible assumption) | assumption)
                                obtain ⟨ad127, e127, hx127_0⟩ := Kd.at_int (Kd.R_reads' HO_5.out).2.2 0 p127 q127
                                cases e127
                                have qi127 : (0 < t115.length) = True := eq_true (by omega)
                                (try rw [show ((0 : Int)).toNat = 0 from rfl] at hx127_0)
                                (try rw [Addr.add_zero'] at hx127_0)
                                replace p127 := eq_true p127
                                replace q127 := eq_true q127
                                go_wp2
                                go_meet
                                case rel => exact ⟨_, H', ⟨by have := HJ7.out; have := HJ15.out; have := HK3.out; first | omega | exact Nat.le_refl _⟩, ⟨by repeat (first | (with_reducible first | exact HB.out | apply below_alloc | apply pw_below_drewN | apply below_drew1) | exact HB.out)⟩⟩
                              · rw [if_neg c36] at H
                                have c36b0 : (x8_3 == a0) = false := beq_eq_false_iff_ne.mpr c36
                                have c36b1 : (x8_3 != a0) = true := bne_iff_ne.mpr c36
                                obtain rfl := Option.some.inj H
                                have p127 : 0 ≤ (0 : Int) := (by omega)
                                have q127 : 0 < (t115.length : Int) := of_decide_eq_true (by first | (with_reducible assumption) | assumption)
                                obtain ⟨ad127, e127, hx127_0⟩ := Kd.at_int (Kd.R_reads' HO_5.out).2.2 0 p127 q127
                                cases e127
                                have qi127 : (0 < t115.length) = True := eq_true (by omega)
                                (try rw [show ((0 : Int)).toNat = 0 from rfl] at hx127_0)
                                (try rw [Addr.add_zero'] at hx127_0)
                                replace p127 := eq_true p127
                                replace q127 := eq_true q127
                                go_wp2
                                go_ret
                                exact ⟨by first | rfl | (simp [errW_none, errW_some] <;> rfl) | (simp [*, errW_none, errW_some] <;> rfl), by repeat (first | (with_reducible first | exact HB.out | apply below_alloc | apply pw_below_drewN | apply below_drew1) | exact HB.out)⟩
                          · rw [if_neg c30] at H
                            exact absurd H (by simp)
                  · rw [if_neg c27] at H
                    have c27b0 : decide ((t115.length : Int) < 8) = false := decide_eq_false c27
                    have c27b1 : decide (t115.length < 8) = false := decide_eq_false (by omega)
                    clear c27
                    (first | rw [c27b0] | (simp only [i64_w, i32_w]; rw [c27b0]) | skip)
                    have H' := Aside0.mk H
                    clear H
                    go_wp2
                    go_meet
                    case rel => exact ⟨_, H', ⟨by have := HJ7.out; have := HJ15.out; first | omega | exact Nat.le_refl _⟩, ⟨by repeat (first | (with_reducible first | exact HB.out | apply below_alloc | apply pw_below_drewN | apply below_drew1) | exact HB.out)⟩⟩
                case rest => as_aux_lemma =>
                  clear HC26
                  try clear c1
                  try clear p1
                  try clear q1
                  try clear hx1
                  try clear qi1
                  try clear c2
                  try clear p2
                  try clear c3
                  try clear c3b0
                  try clear c3b1
                  try clear p6
                  try clear c10
                  try clear c11
                  try clear c11b0
                  try clear c11b1
                  try clear c12
                  try clear c12b0
                  try clear c12b1
                  try clear p12
                  try clear q12
                  try clear hx12
                  try clear qi12
                  try clear c13
                  try clear c13b0
                  try clear c13b1
                  try clear c13b2
                  try clear c14
                  try clear c14b0
                  try clear c14b1
                  try clear c15
                  try clear c17
                  try clear c17b0
                  try clear c17b1
                  try clear c18
                  try clear c18b0
                  try clear c18b1
                  try clear c19
                  try clear c19b0
                  try clear c19b1
                  try clear c20
                  try clear c20b0
                  try clear c20b1
                  try clear c21
                  try clear c21b0
                  try clear c22
                  try clear c22b0
                  try clear c22b1
                  try clear c23
                  try clear c23b0
                  try clear c23b1
                  try clear c24
                  try clear c24b0
                  try clear c24b1
                  try clear c25
                  try clear c27
                  try clear c27b0
                  try clear c27b1
                  try clear c28
                  try clear c28b0
                  try clear c29
                  try clear c29b0
                  try clear c30
                  try clear c30b0
                  try clear c30b1
                  try clear c31
                  try clear c31b0
                  try clear c33
                  try clear c33b0
                  try clear c33b1
                  try clear c35
                  try clear c35b0
                  try clear c35b1
                  try clear c36
                  try clear c36b0
                  try clear c36b1
                  try clear hx120_0
                  try clear hx121_0
                  try clear hx122_0
                  try clear hx123_0
                  try clear hx124_0
                  try clear hx125_0
                  try clear hx126_0
                  try clear hx127_0
                  try clear p1
                  try clear p12
                  try clear p120
                  try clear p121
                  try clear p122
                  try clear p123
                  try clear p124
                  try clear p125
                  try clear p126
                  try clear p127
                  try clear p2
                  try clear q1
                  try clear q12
                  try clear q120
                  try clear q121
                  try clear q122
                  try clear q123
                  try clear q124
                  try clear q125
                  try clear q126
                  try clear q127
                  obtain ⟨kq, HA, HJ25, HB⟩ := hcut
                  cases kq with
                  | zero => exact absurd HA.out (by simp [pointcodelaw23_TagsInts.j3])
                  | succ kj25 =>
                    have H := HA.out
                    clear HA
                    simp only [pointcodelaw23_TagsInts.j3] at H
                    replace H := Option.bind_eq_some_iff.mp H
                    obtain ⟨⟨t128, t129⟩, A370, H⟩ := H
                    replace H : (if (l1.length : Int) = 0 then (pointcodelaw23_TagsInts.j4 kj25 l1 t128 t129 0 true) else (if (l1.length : Int) > 1 then (if 0 < (l1.length : Int) then (if (rd l1 0) = 0 then (if 1 < (l1.length : Int) then (if (rd l1 1) < 128 then (pointcodelaw23_TagsInts.j4 kj25 l1 t128 t129 0 true) else (if (rd l1 0) = 255 then (pointcodelaw23_TagsInts.j4 kj25 l1 t128 t129 0 (decide ((rd l1 1) ≥ 128))) else (pointcodelaw23_TagsInts.j4 kj25 l1 t128 t129 0 false))) else (none)) else (if (rd l1 0) = 255 then (if 1 < (l1.length : Int) then (pointcodelaw23_TagsInts.j4 kj25 l1 t128 t129 0 (decide ((rd l1 1) ≥ 128))) else (none)) else (pointcodelaw23_TagsInts.j4 kj25 l1 t128 t129 0 false))) else (none)) else (pointcodelaw23_TagsInts.j4 kj25 l1 t128 t129 0 false))) = some r := H
                    have A37 := Aside0.mk A370
                    clear A370
                    have HC38 := Aside0.mk H
                    clear H
                    go_upto_block 2 with (first | ((with_reducible refine gate_callee (f := 12) rfl ?_); refine goesL_ (some 107) rfl rfl Tryd.func12 (by kernel_rfl) rfl #[.slice A1 l1.length c1] rfl (by (try simp only [List.map_toArray, List.map_cons, List.map_nil]); first | done | rfl | (simp only [List.length_drop, List.length_take]; rfl)) ?_; (with_reducible refine (tags_ToInt.calls kj25 _ _ l1 t128 t129 _ ?side1 ?side2 A37.out).mono ?_); (case side1 => repeat (first | exact (Kd.C_below HR1.out HB.out) | (with_reducible refine Kd.C_alloc ?_ _) | (with_reducible refine Kd.C_drewN ?_ _) | (with_reducible refine Kd.C_drew ?_))); (case side2 => exact HC1.out); rintro e w' ⟨rfl, ⟨nd, rfl⟩⟩; refine ⟨_, rfl, ?_⟩))
                    (try simp only [Act.put, List.setIfInBounds_toArray, List.set_cons_zero, List.set_cons_succ])
                    go_cut [12] (fun v12 wc => ∃ (kq : Nat) (x12_37 : Int), v12 = .int .i64 x12_37 ∧ Aside0 (pointcodelaw23_TagsInts.j5 kq l1 t128 t129 x12_37 = some r) ∧ Aside0 (kq ≤ kj25) ∧ Aside0 (Below w.heap.size w wc))
                    case first => as_aux_lemma =>
                      have H := HC38.out
                      clear HC38
                      have HC39 := Aside0.mk H
                      clear H
                      go_upto_region 21 with (fail)
                      go_cut [110] (fun v110 wc => ∃ (kq : Nat) (x110_38 : Bool), v110 = .bool x110_38 ∧ Aside0 (pointcodelaw23_TagsInts.j4 kq l1 t128 t129 0 x110_38 = some r) ∧ Aside0 (kq ≤ kj25) ∧ Aside0 (Below w.heap.size w wc))
                      case first => as_aux_lemma =>
                        have H := HC39.out
                        clear HC39
                        by_cases c40 : (l1.length : Int) = 0
                        · rw [if_pos c40] at H
                          have c40b0 : ((l1.length : Int) == 0) = true := beq_iff_eq.mpr c40
                          have c40b1 : ((l1.length : Int) != 0) = false := bne_eq_false_iff_eq.mpr c40
                          clear c40
                          (first | rw [c40b0] | (simp only [i64_w, i32_w]; rw [c40b0]) | skip)
                          have H' := Aside0.mk H
                          clear H
                          go_wp2
                          go_meet
                          case rel => exact ⟨_, (true), (by first | rfl | (simp; done) | (simp [*]; done)), H', ⟨by have := HJ7.out; have := HJ15.out; have := HJ25.out; first | omega | exact Nat.le_refl _⟩, ⟨by repeat (first | (with_reducible first | exact HB.out | apply below_alloc | apply pw_below_drewN | apply below_drew1) | exact HB.out)⟩⟩
                        · rw [if_neg c40] at H
                          have c40b0 : ((l1.length : Int) == 0) = false := beq_eq_false_iff_ne.mpr c40
                          have c40b1 : ((l1.length : Int) != 0) = true := bne_iff_ne.mpr c40
                          have c40b2 : ¬ (l1 = []) := fun h_ => c40 (by rw [h_]; rfl)
                          (first | rw [c40b0] | (simp only [i64_w, i32_w]; rw [c40b0]) | skip)
                          by_cases c41 : (l1.length : Int) > 1
                          · rw [if_pos c41] at H
                            have c41b0 : decide (1 < (l1.length : Int)) = true := decide_eq_true c41
                            have c41b1 : decide (1 < l1.length) = true := decide_eq_true (by omega)
                            clear c41
                            by_cases c42 : 0 < (l1.length : Int)
                            · rw [if_pos c42] at H
                              have c42b0 : decide (0 < (l1.length : Int)) = true := decide_eq_true c42
                              have c42b1 : decide (0 < l1.length) = true := decide_eq_true (by omega)
                              clear c42
                              by_cases c43 : (rd l1 0) = 0
                              · rw [if_pos c43] at H
                                have c43b0 : ((rd l1 0) == 0) = true := beq_iff_eq.mpr c43
                                have c43b1 : ((rd l1 0) != 0) = false := bne_eq_false_iff_eq.mpr c43
                                clear c43
                                by_cases c44 : 1 < (l1.length : Int)
                                · rw [if_pos c44] at H
                                  have c44b0 : decide (1 < (l1.length : Int)) = true := decide_eq_true c44
                                  have c44b1 : decide (1 < l1.length) = true := decide_eq_true (by omega)
                                  clear c44
                                  by_cases c45 : (rd l1 1) < 128
                                  · rw [if_pos c45] at H
                                    have c45b0 : decide ((rd l1 1) < 128) = true := decide_eq_true c45
                                    clear c45
                                    have H' := Aside0.mk H
                                    clear H
                                    have p130 : 0 ≤ (0 : Int) := (by omega)
                                    have q130 : 0 < (l1.length : Int) := of_decide_eq_true (by first | (with_reducible assumption) | assumption)
                                    obtain ⟨ad130, e130, hx130_0⟩ := Kd.at_int HR1.out 0 p130 q130
                                    cases e130
                                    have qi130 : (0 < l1.length) = True := eq_true (by omega)
                                    (try rw [show ((0 : Int)).toNat = 0 from rfl] at hx130_0)
                                    (try rw [Addr.add_zero'] at hx130_0)
                                    replace hx130_0 := (HB.out.cell (World.block_lt_of_cell? w _ hx130_0)).trans hx130_0
                                    replace p130 := eq_true p130
                                    replace q130 := eq_true q130
                                    have p131 : 0 ≤ (1 : Int) := (by omega)
                                    have q131 : 1 < (l1.length : Int) := of_decide_eq_true (by first | (with_reducible assumption) | assumption)
                                    obtain ⟨ad131, e131, hx131_0⟩ := Kd.at_int HR1.out 1 p131 q131
                                    obtain rfl : ad130 = ad131 := (by injection e131)
                                    (try simp only [show (1 : Int).toNat = 1 from rfl, Nat.reduceMul, Nat.reduceEqDiff, Go.Addr.add, ↓reduceIte] at hx131_0)
                                    have qi131 : (1 < l1.length) = True := eq_true (by omega)
                                    (try rw [show ((1 : Int)).toNat = 1 from rfl] at hx131_0)
                                    replace hx131_0 := (HB.out.cell (World.block_lt_of_cell? w _ hx131_0)).trans hx131_0
                                    replace p131 := eq_true p131
                                    replace q131 := eq_true q131
                                    go_wp2
                                    go_meet
                                    case rel => exact ⟨_, (true), (by first | rfl | (simp; done) | (simp [*]; done)), H', ⟨by have := HJ7.out; have := HJ15.out; have := HJ25.out; first | omega | exact Nat.le_refl _⟩, ⟨by repeat (first | (with_reducible first | exact HB.out | apply below_alloc | apply pw_below_drewN | apply below_drew1) | exact HB.out)⟩⟩
                                  · rw [if_neg c45] at H
                                    have c45b0 : decide ((rd l1 1) < 128) = false := decide_eq_false c45
                                    clear c45
                                    by_cases c46 : (rd l1 0) = 255
                                    · rw [if_pos c46] at H
                                      have c46b0 : ((rd l1 0) == 255) = true := beq_iff_eq.mpr c46
                                      have c46b1 : ((rd l1 0) != 255) = false := bne_eq_false_iff_eq.mpr c46
                                      clear c46
                                      have H' := Aside0.mk H
                                      clear H
                                      have p130 : 0 ≤ (0 : Int) := (by omega)
                                      have q130 : 0 < (l1.length : Int) := of_decide_eq_true (by first | (with_reducible assumption) | assumption)
                                      obtain ⟨ad130, e130, hx130_0⟩ := Kd.at_int HR1.out 0 p130 q130
                                      cases e130
                                      have qi130 : (0 < l1.length) = True := eq_true (by omega)
                                      (try rw [show ((0 : Int)).toNat = 0 from rfl] at hx130_0)
                                      (try rw [Addr.add_zero'] at hx130_0)
                                      replace hx130_0 := (HB.out.cell (World.block_lt_of_cell? w _ hx130_0)).trans hx130_0
                                      replace p130 := eq_true p130
                                      replace q130 := eq_true q130
                                      have p131 : 0 ≤ (1 : Int) := (by omega)
                                      have q131 : 1 < (l1.length : Int) := of_decide_eq_true (by first | (with_reducible assumption) | assumption)
                                      obtain ⟨ad131, e131, hx131_0⟩ := Kd.at_int HR1.out 1 p131 q131
                                      obtain rfl : ad130 = ad131 := (by injection e131)
                                      (try simp only [show (1 : Int).toNat = 1 from rfl, Nat.reduceMul, Nat.reduceEqDiff, Go.Addr.add, ↓reduceIte] at hx131_0)
                                      have qi131 : (1 < l1.length) = True := eq_true (by omega)
                                      (try rw [show ((1 : Int)).toNat = 1 from rfl] at hx131_0)
                                      replace hx131_0 := (HB.out.cell (World.block_lt_of_cell? w _ hx131_0)).trans hx131_0
                                      replace p131 := eq_true p131
                                      replace q131 := eq_true q131
                                      have p132 : 0 ≤ (0 : Int) := (by omega)
                                      have q132 : 0 < (l1.length : Int) := of_decide_eq_true (by first | (with_reducible assumption) | assumption)
                                      obtain ⟨ad132, e132, hx132_0⟩ := Kd.at_int HR1.out 0 p132 q132
                                      obtain rfl : ad130 = ad132 := (by injection e132)
                                      have qi132 : (0 < l1.length) = True := eq_true (by omega)
                                      (try rw [show ((0 : Int)).toNat = 0 from rfl] at hx132_0)
                                      (try rw [Addr.add_zero'] at hx132_0)
                                      replace hx132_0 := (HB.out.cell (World.block_lt_of_cell? w _ hx132_0)).trans hx132_0
                                      replace p132 := eq_true p132
                                      replace q132 := eq_true q132
                                      have p133 : 0 ≤ (1 : Int) := (by omega)
                                      have q133 : 1 < (l1.length : Int) := of_decide_eq_true (by first | (with_reducible assumption) | assumption)
                                      obtain ⟨ad133, e133, hx133_0⟩ := Kd.at_int HR1.out 1 p133 q133
                                      obtain rfl : ad130 = ad133 := (by injection e133)
                                      (try simp only [show (1 : Int).toNat = 1 from rfl, Nat.reduceMul, Nat.reduceEqDiff, Go.Addr.add, ↓reduceIte] at hx133_0)
                                      have qi133 : (1 < l1.length) = True := eq_true (by omega)
                                      (try rw [show ((1 : Int)).toNat = 1 from rfl] at hx133_0)
                                      replace hx133_0 := (HB.out.cell (World.block_lt_of_cell? w _ hx133_0)).trans hx133_0
                                      replace p133 := eq_true p133
                                      replace q133 := eq_true q133
                                      go_wp2
                                      go_meet
                                      case rel => exact ⟨_, (decide ((rd l1 1) ≥ 128)), (by first | rfl | (simp; done) | (simp [*]; done)), H', ⟨by have := HJ7.out; have := HJ15.out; have := HJ25.out; first | omega | exact Nat.le_refl _⟩, ⟨by repeat (first | (with_reducible first | exact HB.out | apply below_alloc | apply pw_below_drewN | apply below_drew1) | exact HB.out)⟩⟩
                                    · rw [if_neg c46] at H
                                      have c46b0 : ((rd l1 0) == 255) = false := beq_eq_false_iff_ne.mpr c46
                                      have c46b1 : ((rd l1 0) != 255) = true := bne_iff_ne.mpr c46
                                      have H' := Aside0.mk H
                                      clear H
                                      have p130 : 0 ≤ (0 : Int) := (by omega)
                                      have q130 : 0 < (l1.length : Int) := of_decide_eq_true (by first | (with_reducible assumption) | assumption)
                                      obtain ⟨ad130, e130, hx130_0⟩ := Kd.at_int HR1.out 0 p130 q130
                                      cases e130
                                      have qi130 : (0 < l1.length) = True := eq_true (by omega)
                                      (try rw [show ((0 : Int)).toNat = 0 from rfl] at hx130_0)
                                      (try rw [Addr.add_zero'] at hx130_0)
                                      replace hx130_0 := (HB.out.cell (World.block_lt_of_cell? w _ hx130_0)).trans hx130_0
                                      replace p130 := eq_true p130
                                      replace q130 := eq_true q130
                                      have p131 : 0 ≤ (1 : Int) := (by omega)
                                      have q131 : 1 < (l1.length : Int) := of_decide_eq_true (by first | (with_reducible assumption) | assumption)
                                      obtain ⟨ad131, e131, hx131_0⟩ := Kd.at_int HR1.out 1 p131 q131
                                      obtain rfl : ad130 = ad131 := (by injection e131)
                                      (try simp only [show (1 : Int).toNat = 1 from rfl, Nat.reduceMul, Nat.reduceEqDiff, Go.Addr.add, ↓reduceIte] at hx131_0)
                                      have qi131 : (1 < l1.length) = True := eq_true (by omega)
                                      (try rw [show ((1 : Int)).toNat = 1 from rfl] at hx131_0)
                                      replace hx131_0 := (HB.out.cell (World.block_lt_of_cell? w _ hx131_0)).trans hx131_0
                                      replace p131 := eq_true p131
                                      replace q131 := eq_true q131
                                      have p132 : 0 ≤ (0 : Int) := (by omega)
                                      have q132 : 0 < (l1.length : Int) := of_decide_eq_true (by first | (with_reducible assumption) | assumption)
                                      obtain ⟨ad132, e132, hx132_0⟩ := Kd.at_int HR1.out 0 p132 q132
                                      obtain rfl : ad130 = ad132 := (by injection e132)
                                      have qi132 : (0 < l1.length) = True := eq_true (by omega)
                                      (try rw [show ((0 : Int)).toNat = 0 from rfl] at hx132_0)
                                      (try rw [Addr.add_zero'] at hx132_0)
                                      replace hx132_0 := (HB.out.cell (World.block_lt_of_cell? w _ hx132_0)).trans hx132_0
                                      replace p132 := eq_true p132
                                      replace q132 := eq_true q132
                                      go_wp2
                                      go_meet
                                      case rel => exact ⟨_, (false), (by first | rfl | (simp; done) | (simp [*]; done)), H', ⟨by have := HJ7.out; have := HJ15.out; have := HJ25.out; first | omega | exact Nat.le_refl _⟩, ⟨by repeat (first | (with_reducible first | exact HB.out | apply below_alloc | apply pw_below_drewN | apply below_drew1) | exact HB.out)⟩⟩
                                · rw [if_neg c44] at H
                                  exact absurd H (by simp)
                              · rw [if_neg c43] at H
                                have c43b0 : ((rd l1 0) == 0) = false := beq_eq_false_iff_ne.mpr c43
                                have c43b1 : ((rd l1 0) != 0) = true := bne_iff_ne.mpr c43
                                by_cases c47 : (rd l1 0) = 255
                                · rw [if_pos c47] at H
                                  have c47b0 : ((rd l1 0) == 255) = true := beq_iff_eq.mpr c47
                                  have c47b1 : ((rd l1 0) != 255) = false := bne_eq_false_iff_eq.mpr c47
                                  clear c47
                                  by_cases c48 : 1 < (l1.length : Int)
                                  · rw [if_pos c48] at H
                                    have c48b0 : decide (1 < (l1.length : Int)) = true := decide_eq_true c48
                                    have c48b1 : decide (1 < l1.length) = true := decide_eq_true (by omega)
                                    clear c48
                                    have H' := Aside0.mk H
                                    clear H
                                    have p130 : 0 ≤ (0 : Int) := (by omega)
                                    have q130 : 0 < (l1.length : Int) := of_decide_eq_true (by first | (with_reducible assumption) | assumption)
                                    obtain ⟨ad130, e130, hx130_0⟩ := Kd.at_int HR1.out 0 p130 q130
                                    cases e130
                                    have qi130 : (0 < l1.length) = True := eq_true (by omega)
                                    (try rw [show ((0 : Int)).toNat = 0 from rfl] at hx130_0)
                                    (try rw [Addr.add_zero'] at hx130_0)
                                    replace hx130_0 := (HB.out.cell (World.block_lt_of_cell? w _ hx130_0)).trans hx130_0
                                    replace p130 := eq_true p130
                                    replace q130 := eq_true q130
                                    have p134 : 0 ≤ (0 : Int) := (by omega)
                                    have q134 : 0 < (l1.length : Int) := of_decide_eq_true (by first | (with_reducible assumption) | assumption)
                                    obtain ⟨ad134, e134, hx134_0⟩ := Kd.at_int HR1.out 0 p134 q134
                                    obtain rfl : ad130 = ad134 := (by injection e134)
                                    have qi134 : (0 < l1.length) = True := eq_true (by omega)
                                    (try rw [show ((0 : Int)).toNat = 0 from rfl] at hx134_0)
                                    (try rw [Addr.add_zero'] at hx134_0)
                                    replace hx134_0 := (HB.out.cell (World.block_lt_of_cell? w _ hx134_0)).trans hx134_0
                                    replace p134 := eq_true p134
                                    replace q134 := eq_true q134
                                    have p135 : 0 ≤ (1 : Int) := (by omega)
                                    have q135 : 1 < (l1.length : Int) := of_decide_eq_true (by first | (with_reducible assumption) | assumption)
                                    obtain ⟨ad135, e135, hx135_0⟩ := Kd.at_int HR1.out 1 p135 q135
                                    obtain rfl : ad130 = ad135 := (by injection e135)
                                    (try simp only [show (1 : Int).toNat = 1 from rfl, Nat.reduceMul, Nat.reduceEqDiff, Go.Addr.add, ↓reduceIte] at hx135_0)
                                    have qi135 : (1 < l1.length) = True := eq_true (by omega)
                                    (try rw [show ((1 : Int)).toNat = 1 from rfl] at hx135_0)
                                    replace hx135_0 := (HB.out.cell (World.block_lt_of_cell? w _ hx135_0)).trans hx135_0
                                    replace p135 := eq_true p135
                                    replace q135 := eq_true q135
                                    go_wp2
                                    go_meet
                                    case rel => exact ⟨_, (decide ((rd l1 1) ≥ 128)), (by first | rfl | (simp; done) | (simp [*]; done)), H', ⟨by have := HJ7.out; have := HJ15.out; have := HJ25.out; first | omega | exact Nat.le_refl _⟩, ⟨by repeat (first | (with_reducible first | exact HB.out | apply below_alloc | apply pw_below_drewN | apply below_drew1) | exact HB.out)⟩⟩
                                  · rw [if_neg c48] at H
                                    exact absurd H (by simp)
                                · rw [if_neg c47] at H
                                  have c47b0 : ((rd l1 0) == 255) = false := beq_eq_false_iff_ne.mpr c47
                                  have c47b1 : ((rd l1 0) != 255) = true := bne_iff_ne.mpr c47
                                  have H' := Aside0.mk H
                                  clear H
                                  have p130 : 0 ≤ (0 : Int) := (by omega)
                                  have q130 : 0 < (l1.length : Int) := of_decide_eq_true (by first | (with_reducible assumption) | assumption)
                                  obtain ⟨ad130, e130, hx130_0⟩ := Kd.at_int HR1.out 0 p130 q130
                                  cases e130
                                  have qi130 : (0 < l1.length) = True := eq_true (by omega)
                                  (try rw [show ((0 : Int)).toNat = 0 from rfl] at hx130_0)
                                  (try rw [Addr.add_zero'] at hx130_0)
                                  replace hx130_0 := (HB.out.cell (World.block_lt_of_cell? w _ hx130_0)).trans hx130_0
                                  replace p130 := eq_true p130
                                  replace q130 := eq_true q130
                                  have p134 : 0 ≤ (0 : Int) := (by omega)
                                  have q134 : 0 < (l1.length : Int) := of_decide_eq_true (by first | (with_reducible assumption) | assumption)
                                  obtain ⟨ad134, e134, hx134_0⟩ := Kd.at_int HR1.out 0 p134 q134
                                  obtain rfl : ad130 = ad134 := (by injection e134)
                                  have qi134 : (0 < l1.length) = True := eq_true (by omega)
                                  (try rw [show ((0 : Int)).toNat = 0 from rfl] at hx134_0)
                                  (try rw [Addr.add_zero'] at hx134_0)
                                  replace hx134_0 := (HB.out.cell (World.block_lt_of_cell? w _ hx134_0)).trans hx134_0
                                  replace p134 := eq_true p134
                                  replace q134 := eq_true q134
                                  go_wp2
                                  go_meet
                                  case rel => exact ⟨_, (false), (by first | rfl | (simp; done) | (simp [*]; done)), H', ⟨by have := HJ7.out; have := HJ15.out; have := HJ25.out; first | omega | exact Nat.le_refl _⟩, ⟨by repeat (first | (with_reducible first | exact HB.out | apply below_alloc | apply pw_below_drewN | apply below_drew1) | exact HB.out)⟩⟩
                            · rw [if_neg c42] at H
                              exact absurd H (by simp)
                          · rw [if_neg c41] at H
                            have c41b0 : decide (1 < (l1.length : Int)) = false := decide_eq_false c41
                            have c41b1 : decide (1 < l1.length) = false := decide_eq_false (by omega)
                            clear c41
                            have H' := Aside0.mk H
                            clear H
                            go_wp2
                            go_meet
                            case rel => exact ⟨_, (false), (by first | rfl | (simp; done) | (simp [*]; done)), H', ⟨by have := HJ7.out; have := HJ15.out; have := HJ25.out; first | omega | exact Nat.le_refl _⟩, ⟨by repeat (first | (with_reducible first | exact HB.out | apply below_alloc | apply pw_below_drewN | apply below_drew1) | exact HB.out)⟩⟩
                      case rest => as_aux_lemma =>
                        clear HC39
                        try clear c1
                        try clear p1
                        try clear q1
                        try clear hx1
                        try clear qi1
                        try clear c2
                        try clear p2
                        try clear c3
                        try clear c3b0
                        try clear c3b1
                        try clear c4
                        try clear p6
                        try clear c10
                        try clear c11
                        try clear c11b0
                        try clear c11b1
                        try clear c12
                        try clear c12b0
                        try clear c12b1
                        try clear p12
                        try clear q12
                        try clear hx12
                        try clear qi12
                        try clear c13
                        try clear c13b0
                        try clear c13b1
                        try clear c13b2
                        try clear p13
                        try clear q13
                        try clear hx13
                        try clear qi13
                        try clear c14
                        try clear c14b0
                        try clear c14b1
                        try clear c15
                        try clear c17
                        try clear c17b0
                        try clear c17b1
                        try clear c18
                        try clear c18b0
                        try clear c18b1
                        try clear c19
                        try clear c19b0
                        try clear c19b1
                        try clear c20
                        try clear c20b0
                        try clear c20b1
                        try clear c21
                        try clear c21b0
                        try clear c22
                        try clear c22b0
                        try clear c22b1
                        try clear c23
                        try clear c23b0
                        try clear c23b1
                        try clear c24
                        try clear c24b0
                        try clear c24b1
                        try clear c25
                        try clear c27
                        try clear c27b0
                        try clear c27b1
                        try clear c28
                        try clear c28b0
                        try clear c29
                        try clear c29b0
                        try clear c30
                        try clear c30b0
                        try clear c30b1
                        try clear c31
                        try clear c31b0
                        try clear c33
                        try clear c33b0
                        try clear c33b1
                        try clear c35
                        try clear c35b0
                        try clear c35b1
                        try clear c36
                        try clear c36b0
                        try clear c36b1
                        try clear c40
                        try clear c40b0
                        try clear c40b1
                        try clear c40b2
                        try clear c41
                        try clear c41b0
                        try clear c41b1
                        try clear c42
                        try clear c42b0
                        try clear c42b1
                        try clear c43
                        try clear c43b0
                        try clear c43b1
                        try clear c44
                        try clear c44b0
                        try clear c44b1
                        try clear c45
                        try clear c45b0
                        try clear c46
                        try clear c46b0
                        try clear c46b1
                        try clear c47
                        try clear c47b0
                        try clear c47b1
                        try clear c48
                        try clear c48b0
                        try clear c48b1
                        try clear hx120_0
                        try clear hx121_0
                        try clear hx122_0
                        try clear hx123_0
                        try clear hx124_0
                        try clear hx125_0
                        try clear hx126_0
                        try clear hx127_0
                        try clear hx130_0
                        try clear hx131_0
                        try clear hx132_0
                        try clear hx133_0
                        try clear hx134_0
                        try clear hx135_0
                        try clear p1
                        try clear p12
                        try clear p120
                        try clear p121
                        try clear p122
                        try clear p123
                        try clear p124
                        try clear p125
                        try clear p126
                        try clear p127
                        try clear p130
                        try clear p131
                        try clear p132
                        try clear p133
                        try clear p134
                        try clear p135
                        try clear p2
                        try clear p6
                        try clear q1
                        try clear q12
                        try clear q120
                        try clear q121
                        try clear q122
                        try clear q123
                        try clear q124
                        try clear q125
                        try clear q126
                        try clear q127
                        try clear q130
                        try clear q131
                        try clear q132
                        try clear q133
                        try clear q134
                        try clear q135
                        obtain ⟨kq, x110_38, rfl, HA, HJ38, HB⟩ := hcut
                        cases kq with
                        | zero => exact absurd HA.out (by simp [pointcodelaw23_TagsInts.j4])
                        | succ kj38 =>
                          have H := HA.out
                          clear HA
                          simp only [pointcodelaw23_TagsInts.j4] at H
                          by_cases c49 : x110_38 = true
                          · subst c49
                            have H1 : (pointcodelaw23_TagsInts.j5 kj38 l1 t128 t129 4) = some r := by rw [if_pos rfl] at H; exact H
                            clear H
                            have H := H1
                            clear H1
                            have H' := Aside0.mk H
                            clear H
                            go_wp2
                            go_meet
                            case rel => exact ⟨_, (4), (by first | rfl | (simp; done) | (simp [*]; done)), H', ⟨by have := HJ7.out; have := HJ15.out; have := HJ25.out; have := HJ38.out; first | omega | exact Nat.le_refl _⟩, ⟨by repeat (first | (with_reducible first | exact HB.out | apply below_alloc | apply pw_below_drewN | apply below_drew1) | exact HB.out)⟩⟩
                          · replace c49 := Bool.eq_false_iff.mpr c49
                            subst c49
                            have H1 : (if (l1.length : Int) > 8 then (pointcodelaw23_TagsInts.j5 kj38 l1 t128 t129 3) else (pointcodelaw23_TagsInts.j5 kj38 l1 t128 t129 0)) = some r := by rw [if_neg (show ¬ (false = true) by decide)] at H; exact H
                            clear H
                            have H := H1
                            clear H1
                            by_cases c50 : (l1.length : Int) > 8
                            · rw [if_pos c50] at H
                              have c50b0 : decide (8 < (l1.length : Int)) = true := decide_eq_true c50
                              have c50b1 : decide (8 < l1.length) = true := decide_eq_true (by omega)
                              clear c50
                              have H' := Aside0.mk H
                              clear H
                              go_wp2
                              go_meet
                              case rel => exact ⟨_, (3), (by first | rfl | (simp; done) | (simp [*]; done)), H', ⟨by have := HJ7.out; have := HJ15.out; have := HJ25.out; have := HJ38.out; first | omega | exact Nat.le_refl _⟩, ⟨by repeat (first | (with_reducible first | exact HB.out | apply below_alloc | apply pw_below_drewN | apply below_drew1) | exact HB.out)⟩⟩
                            · rw [if_neg c50] at H
                              have c50b0 : decide (8 < (l1.length : Int)) = false := decide_eq_false c50
                              have c50b1 : decide (8 < l1.length) = false := decide_eq_false (by omega)
                              clear c50
                              have H' := Aside0.mk H
                              clear H
                              go_wp2
                              go_meet
                              case rel => exact ⟨_, (0), (by first | rfl | (simp; done) | (simp [*]; done)), H', ⟨by have := HJ7.out; have := HJ15.out; have := HJ25.out; have := HJ38.out; first | omega | exact Nat.le_refl _⟩, ⟨by repeat (first | (with_reducible first | exact HB.out | apply below_alloc | apply pw_below_drewN | apply below_drew1) | exact HB.out)⟩⟩
                    case rest => as_aux_lemma =>
                      clear HC38
                      try clear c1
                      try clear p1
                      try clear q1
                      try clear hx1
                      try clear qi1
                      try clear c2
                      try clear p2
                      try clear c3
                      try clear c3b0
                      try clear c3b1
                      try clear c4
                      try clear c5
                      try clear p6
                      try clear c10
                      try clear c11
                      try clear c11b0
                      try clear c11b1
                      try clear c12
                      try clear c12b0
                      try clear c12b1
                      try clear p12
                      try clear q12
                      try clear hx12
                      try clear qi12
                      try clear c13
                      try clear c13b0
                      try clear c13b1
                      try clear c13b2
                      try clear p13
                      try clear q13
                      try clear hx13
                      try clear qi13
                      try clear c14
                      try clear c14b0
                      try clear c14b1
                      try clear c15
                      try clear c17
                      try clear c17b0
                      try clear c17b1
                      try clear c18
                      try clear c18b0
                      try clear c18b1
                      try clear c19
                      try clear c19b0
                      try clear c19b1
                      try clear c20
                      try clear c20b0
                      try clear c20b1
                      try clear c21
                      try clear c21b0
                      try clear c22
                      try clear c22b0
                      try clear c22b1
                      try clear c23
                      try clear c23b0
                      try clear c23b1
                      try clear c24
                      try clear c24b0
                      try clear c24b1
                      try clear c25
                      try clear c27
                      try clear c27b0
                      try clear c27b1
                      try clear c28
                      try clear c28b0
                      try clear c29
                      try clear c29b0
                      try clear c30
                      try clear c30b0
                      try clear c30b1
                      try clear c31
                      try clear c31b0
                      try clear c33
                      try clear c33b0
                      try clear c33b1
                      try clear c35
                      try clear c35b0
                      try clear c35b1
                      try clear c36
                      try clear c36b0
                      try clear c36b1
                      try clear c40
                      try clear c40b0
                      try clear c40b1
                      try clear c40b2
                      try clear c41
                      try clear c41b0
                      try clear c41b1
                      try clear c42
                      try clear c42b0
                      try clear c42b1
                      try clear c43
                      try clear c43b0
                      try clear c43b1
                      try clear c44
                      try clear c44b0
                      try clear c44b1
                      try clear c45
                      try clear c45b0
                      try clear c46
                      try clear c46b0
                      try clear c46b1
                      try clear c47
                      try clear c47b0
                      try clear c47b1
                      try clear c48
                      try clear c48b0
                      try clear c48b1
                      try clear c49
                      try clear c50
                      try clear c50b0
                      try clear c50b1
                      try clear hx120_0
                      try clear hx121_0
                      try clear hx122_0
                      try clear hx123_0
                      try clear hx124_0
                      try clear hx125_0
                      try clear hx126_0
                      try clear hx127_0
                      try clear hx130_0
                      try clear hx131_0
                      try clear hx132_0
                      try clear hx133_0
                      try clear hx134_0
                      try clear hx135_0
                      try clear p1
                      try clear p12
                      try clear p120
                      try clear p121
                      try clear p122
                      try clear p123
                      try clear p124
                      try clear p125
                      try clear p126
                      try clear p127
                      try clear p13
                      try clear p130
                      try clear p131
                      try clear p132
                      try clear p133
                      try clear p134
                      try clear p135
                      try clear p2
                      try clear p6
                      try clear q1
                      try clear q12
                      try clear q120
                      try clear q121
                      try clear q122
                      try clear q123
                      try clear q124
                      try clear q125
                      try clear q126
                      try clear q127
                      try clear q13
                      try clear q130
                      try clear q131
                      try clear q132
                      try clear q133
                      try clear q134
                      try clear q135
                      obtain ⟨kq, x12_37, rfl, HA, HJ37, HB⟩ := hcut
                      cases kq with
                      | zero => exact absurd HA.out (by simp [pointcodelaw23_TagsInts.j5])
                      | succ kj37 =>
                        have H := HA.out
                        clear HA
                        simp only [pointcodelaw23_TagsInts.j5] at H
                        have HC51 := Aside0.mk H
                        clear H
                        go_upto_region 25 with (fail)
                        go_cut [157] (fun v157 wc => ∃ (kq : Nat) (x157_50 : Bool), v157 = .bool x157_50 ∧ Aside0 (pointcodelaw23_TagsInts.j6 kq l1 t128 t129 x157_50 = some r) ∧ Aside0 (kq ≤ kj37) ∧ Aside0 (Below w.heap.size w wc))
                        case first => as_aux_lemma =>
                          have H := HC51.out
                          clear HC51
                          by_cases c52 : t129 = x12_37
                          · rw [if_pos c52] at H
                            have c52b0 : (t129 == x12_37) = true := beq_iff_eq.mpr c52
                            have c52b1 : (t129 != x12_37) = false := bne_eq_false_iff_eq.mpr c52
                            clear c52
                            (first | rw [c52b0] | (simp only [i64_w, i32_w]; rw [c52b0]) | skip)
                            by_cases c53 : t129 = 0
                            · rw [if_pos c53] at H
                              have c53b0 : (t129 == 0) = true := beq_iff_eq.mpr c53
                              have c53b1 : (t129 != 0) = false := bne_eq_false_iff_eq.mpr c53
                              clear c53
                              have H' := Aside0.mk H
                              clear H
                              go_wp2
                              go_meet
                              case rel => exact ⟨_, (false), (by first | rfl | (simp; done) | (simp [*]; done)), H', ⟨by have := HJ7.out; have := HJ15.out; have := HJ25.out; have := HJ37.out; first | omega | exact Nat.le_refl _⟩, ⟨by repeat (first | (with_reducible first | exact HB.out | apply below_alloc | apply pw_below_drewN | apply below_drew1) | exact HB.out)⟩⟩
                            · rw [if_neg c53] at H
                              have c53b0 : (t129 == 0) = false := beq_eq_false_iff_ne.mpr c53
                              have c53b1 : (t129 != 0) = true := bne_iff_ne.mpr c53
                              have H' := Aside0.mk H
                              clear H
                              go_wp2
                              go_meet
                              case rel => exact ⟨_, ((t128 != 0)), (by first | rfl | (simp; done) | (simp [*]; done)), H', ⟨by have := HJ7.out; have := HJ15.out; have := HJ25.out; have := HJ37.out; first | omega | exact Nat.le_refl _⟩, ⟨by repeat (first | (with_reducible first | exact HB.out | apply below_alloc | apply pw_below_drewN | apply below_drew1) | exact HB.out)⟩⟩
                          · rw [if_neg c52] at H
                            have c52b0 : (t129 == x12_37) = false := beq_eq_false_iff_ne.mpr c52
                            have c52b1 : (t129 != x12_37) = true := bne_iff_ne.mpr c52
                            (first | rw [c52b0] | (simp only [i64_w, i32_w]; rw [c52b0]) | skip)
                            have H' := Aside0.mk H
                            clear H
                            go_wp2
                            go_meet
                            case rel => exact ⟨_, (true), (by first | rfl | (simp; done) | (simp [*]; done)), H', ⟨by have := HJ7.out; have := HJ15.out; have := HJ25.out; have := HJ37.out; first | omega | exact Nat.le_refl _⟩, ⟨by repeat (first | (with_reducible first | exact HB.out | apply below_alloc | apply pw_below_drewN | apply below_drew1) | exact HB.out)⟩⟩
                        case rest => as_aux_lemma =>
                          clear HC51
                          try clear c1
                          try clear p1
                          try clear q1
                          try clear hx1
                          try clear qi1
                          try clear c2
                          try clear p2
                          try clear c3
                          try clear c3b0
                          try clear c3b1
                          try clear c4
                          try clear c5
                          try clear p6
                          try clear c10
                          try clear c11
                          try clear c11b0
                          try clear c11b1
                          try clear c12
                          try clear c12b0
                          try clear c12b1
                          try clear p12
                          try clear q12
                          try clear hx12
                          try clear qi12
                          try clear c13
                          try clear c13b0
                          try clear c13b1
                          try clear c13b2
                          try clear p13
                          try clear q13
                          try clear hx13
                          try clear qi13
                          try clear c14
                          try clear c14b0
                          try clear c14b1
                          try clear c15
                          try clear c17
                          try clear c17b0
                          try clear c17b1
                          try clear c18
                          try clear c18b0
                          try clear c18b1
                          try clear c19
                          try clear c19b0
                          try clear c19b1
                          try clear c20
                          try clear c20b0
                          try clear c20b1
                          try clear c21
                          try clear c21b0
                          try clear c22
                          try clear c22b0
                          try clear c22b1
                          try clear c23
                          try clear c23b0
                          try clear c23b1
                          try clear c24
                          try clear c24b0
                          try clear c24b1
                          try clear c25
                          try clear c27
                          try clear c27b0
                          try clear c27b1
                          try clear c28
                          try clear c28b0
                          try clear c29
                          try clear c29b0
                          try clear c30
                          try clear c30b0
                          try clear c30b1
                          try clear c31
                          try clear c31b0
                          try clear c33
                          try clear c33b0
                          try clear c33b1
                          try clear c35
                          try clear c35b0
                          try clear c35b1
                          try clear c36
                          try clear c36b0
                          try clear c36b1
                          try clear c40
                          try clear c40b0
                          try clear c40b1
                          try clear c40b2
                          try clear c41
                          try clear c41b0
                          try clear c41b1
                          try clear c42
                          try clear c42b0
                          try clear c42b1
                          try clear c43
                          try clear c43b0
                          try clear c43b1
                          try clear c44
                          try clear c44b0
                          try clear c44b1
                          try clear c45
                          try clear c45b0
                          try clear c46
                          try clear c46b0
                          try clear c46b1
                          try clear c47
                          try clear c47b0
                          try clear c47b1
                          try clear c48
                          try clear c48b0
                          try clear c48b1
                          try clear c49
                          try clear c50
                          try clear c50b0
                          try clear c50b1
                          try clear c52
                          try clear c52b0
                          try clear c52b1
                          try clear c53
                          try clear c53b0
                          try clear c53b1
                          try clear hx120_0
                          try clear hx121_0
                          try clear hx122_0
                          try clear hx123_0
                          try clear hx124_0
                          try clear hx125_0
                          try clear hx126_0
                          try clear hx127_0
                          try clear hx130_0
                          try clear hx131_0
                          try clear hx132_0
                          try clear hx133_0
                          try clear hx134_0
                          try clear hx135_0
                          try clear p1
                          try clear p12
                          try clear p120
                          try clear p121
                          try clear p122
                          try clear p123
                          try clear p124
                          try clear p125
                          try clear p126
                          try clear p127
                          try clear p13
                          try clear p130
                          try clear p131
                          try clear p132
                          try clear p133
                          try clear p134
                          try clear p135
                          try clear p2
                          try clear p6
                          try clear q1
                          try clear q12
                          try clear q120
                          try clear q121
                          try clear q122
                          try clear q123
                          try clear q124
                          try clear q125
                          try clear q126
                          try clear q127
                          try clear q13
                          try clear q130
                          try clear q131
                          try clear q132
                          try clear q133
                          try clear q134
                          try clear q135
                          obtain ⟨kq, x157_50, rfl, HA, HJ50, HB⟩ := hcut
                          cases kq with
                          | zero => exact absurd HA.out (by simp [pointcodelaw23_TagsInts.j6])
                          | succ kj50 =>
                            have H := HA.out
                            clear HA
                            simp only [pointcodelaw23_TagsInts.j6] at H
                            by_cases c54 : x157_50 = true
                            · subst c54
                              have H1 : (some false) = some r := by rw [if_pos rfl] at H; exact H
                              clear H
                              have H := H1
                              clear H1
                              obtain rfl := Option.some.inj H
                              go_wp2
                              go_ret
                              exact ⟨by first | rfl | (simp [errW_none, errW_some] <;> rfl) | (simp [*, errW_none, errW_some] <;> rfl), by repeat (first | (with_reducible first | exact HB.out | apply below_alloc | apply pw_below_drewN | apply below_drew1) | exact HB.out)⟩
                            · replace c54 := Bool.eq_false_iff.mpr c54
                              subst c54
                              have H1 : (if t129 = 0 then ((tags_Int.f kj50 t128).bind fun t136 => ((pointcodelaw23_same.f t136 l1).bind fun t139 => (if t139 = true then ((pointcodelaw23_lives.f).bind fun t140 => (some t140)) else (some false)))) else ((pointcodelaw23_lives.f).bind fun t141 => (some t141))) = some r := by rw [if_neg (show ¬ (false = true) by decide)] at H; exact H
                              clear H
                              have H := H1
                              clear H1
                              by_cases c55 : t129 = 0
                              · rw [if_pos c55] at H
                                have c55b0 : (t129 == 0) = true := beq_iff_eq.mpr c55
                                have c55b1 : (t129 != 0) = false := bne_eq_false_iff_eq.mpr c55
                                clear c55
                                replace H := Option.bind_eq_some_iff.mp H
                                obtain ⟨t136, A560, H⟩ := H
                                replace H : ((pointcodelaw23_same.f t136 l1).bind fun t139 => (if t139 = true then ((pointcodelaw23_lives.f).bind fun t140 => (some t140)) else (some false))) = some r := H
                                have A56 := Aside0.mk A560
                                clear A560
                                replace H := Option.bind_eq_some_iff.mp H
                                obtain ⟨t139, A570, H⟩ := H
                                replace H : (if t139 = true then ((pointcodelaw23_lives.f).bind fun t140 => (some t140)) else (some false)) = some r := H
                                have A57 := Aside0.mk A570
                                clear A570
                                by_cases c58 : t139 = true
                                · subst c58
                                  have H1 : ((pointcodelaw23_lives.f).bind fun t140 => (some t140)) = some r := by rw [if_pos rfl] at H; exact H
                                  clear H
                                  have H := H1
                                  clear H1
                                  replace H := Option.bind_eq_some_iff.mp H
                                  obtain ⟨t140, A590, H⟩ := H
                                  replace H : (some t140) = some r := H
                                  have A59 := Aside0.mk A590
                                  clear A590
                                  obtain rfl := Option.some.inj H
                                  go_wp2_with (first | (go_at_call 11; (with_reducible refine (tags_Int.calls kj50 t128 t136 _ A56.out).mono ?_); rintro e w60 ⟨v137, rfl, ho0, hb, hx_⟩; have n0_ := Aside0.mk (Kd.R_lower ho0 (below_size (by repeat (first | (with_reducible first | exact HB.out | apply below_alloc | apply pw_below_drewN | apply below_drew1) | exact HB.out)))); have n1_ := Aside0.mk (below_step (by repeat (first | (with_reducible first | exact HB.out | apply below_alloc | apply pw_below_drewN | apply below_drew1) | exact HB.out)) hb); clear HB; have HO138 := n0_; have HB := n1_; clear n0_ n1_; (try clear hb); (try clear hb2); (try clear hk); (try clear hi); (try clear ho0); obtain ⟨Ao61, eo61⟩ := hx_; subst eo61) | (go_at_call 13; (with_reducible refine (pointcodelaw23_same.calls _ _ t136 _ _ l1 true _ ?side1 ?side2 ?side3 ?side4 A57.out).mono ?_); (case side1 => repeat (first | exact (Kd.R_reads' HO138.out).2.2 | (with_reducible refine Kd.C_alloc ?_ _) | (with_reducible refine Kd.C_drewN ?_ _) | (with_reducible refine Kd.C_drew ?_))); (case side2 => exact (Kd.R_reads' HO138.out).2.1); (case side3 => repeat (first | exact (Kd.C_below HR1.out HB.out) | (with_reducible refine Kd.C_alloc ?_ _) | (with_reducible refine Kd.C_drewN ?_ _) | (with_reducible refine Kd.C_drew ?_))); (case side4 => exact HC1.out); rintro e w' ⟨rfl, ⟨nd, rfl⟩⟩) | (go_at_call 10; (with_reducible refine (pointcodelaw23_lives.calls t140 w _ HLV (by repeat (first | (with_reducible first | exact HB.out | apply below_alloc | apply pw_below_drewN | apply below_drew1) | exact HB.out)) A59.out).mono ?_); rintro e w62 ⟨rfl, hb⟩; have n0_ := Aside0.mk (Kd.R_below (by (with_reducible repeat (first | apply Kd.R_alloc | apply Kd.R_drewN | apply Kd.R_drew)); exact HO138.out) hb); have n1_ := Aside0.mk (below_step (by repeat (first | (with_reducible first | exact HB.out | apply below_alloc | apply pw_below_drewN | apply below_drew1) | exact HB.out)) hb); clear HO138; clear HB; have HO138 := n0_; have HB := n1_; clear n0_ n1_; (try clear hb); (try clear hb2); (try clear hk); (try clear hi)))
                                  go_ret
                                  exact ⟨by first | rfl | (simp [errW_none, errW_some] <;> rfl) | (simp [*, errW_none, errW_some] <;> rfl), by repeat (first | (with_reducible first | exact HB.out | apply below_alloc | apply pw_below_drewN | apply below_drew1) | exact HB.out)⟩
                                · replace c58 := Bool.eq_false_iff.mpr c58
                                  subst c58
                                  have H1 : (some false) = some r := by rw [if_neg (show ¬ (false = true) by decide)] at H; exact H
                                  clear H
                                  have H := H1
                                  clear H1
                                  obtain rfl := Option.some.inj H
                                  go_wp2_with (first | (go_at_call 11; (with_reducible refine (tags_Int.calls kj50 t128 t136 _ A56.out).mono ?_); rintro e w63 ⟨v137, rfl, ho0, hb, hx_⟩; have n0_ := Aside0.mk (Kd.R_lower ho0 (below_size (by repeat (first | (with_reducible first | exact HB.out | apply below_alloc | apply pw_below_drewN | apply below_drew1) | exact HB.out)))); have n1_ := Aside0.mk (below_step (by repeat (first | (with_reducible first | exact HB.out | apply below_alloc | apply pw_below_drewN | apply below_drew1) | exact HB.out)) hb); clear HB; have HO138 := n0_; have HB := n1_; clear n0_ n1_; (try clear hb); (try clear hb2); (try clear hk); (try clear hi); (try clear ho0); obtain ⟨Ao64, eo64⟩ := hx_; subst eo64) | (go_at_call 13; (with_reducible refine (pointcodelaw23_same.calls _ _ t136 _ _ l1 false _ ?side1 ?side2 ?side3 ?side4 A57.out).mono ?_); (case side1 => repeat (first | exact (Kd.R_reads' HO138.out).2.2 | (with_reducible refine Kd.C_alloc ?_ _) | (with_reducible refine Kd.C_drewN ?_ _) | (with_reducible refine Kd.C_drew ?_))); (case side2 => exact (Kd.R_reads' HO138.out).2.1); (case side3 => repeat (first | exact (Kd.C_below HR1.out HB.out) | (with_reducible refine Kd.C_alloc ?_ _) | (with_reducible refine Kd.C_drewN ?_ _) | (with_reducible refine Kd.C_drew ?_))); (case side4 => exact HC1.out); rintro e w' ⟨rfl, ⟨nd, rfl⟩⟩))
                                  go_ret
                                  exact ⟨by first | rfl | (simp [errW_none, errW_some] <;> rfl) | (simp [*, errW_none, errW_some] <;> rfl), by repeat (first | (with_reducible first | exact HB.out | apply below_alloc | apply pw_below_drewN | apply below_drew1) | exact HB.out)⟩
                              · rw [if_neg c55] at H
                                have c55b0 : (t129 == 0) = false := beq_eq_false_iff_ne.mpr c55
                                have c55b1 : (t129 != 0) = true := bne_iff_ne.mpr c55
                                replace H := Option.bind_eq_some_iff.mp H
                                obtain ⟨t141, A650, H⟩ := H
                                replace H : (some t141) = some r := H
                                have A65 := Aside0.mk A650
                                clear A650
                                obtain rfl := Option.some.inj H
                                go_wp2_with (first | (go_at_call 10; (with_reducible refine (pointcodelaw23_lives.calls t141 w _ HLV (by repeat (first | (with_reducible first | exact HB.out | apply below_alloc | apply pw_below_drewN | apply below_drew1) | exact HB.out)) A65.out).mono ?_); rintro e w66 ⟨rfl, hb⟩; have n0_ := Aside0.mk (below_step (by repeat (first | (with_reducible first | exact HB.out | apply below_alloc | apply pw_below_drewN | apply below_drew1) | exact HB.out)) hb); clear HB; have HB := n0_; clear n0_; (try clear hb); (try clear hb2); (try clear hk); (try clear hi)))
                                go_ret
                                exact ⟨by first | rfl | (simp [errW_none, errW_some] <;> rfl) | (simp [*, errW_none, errW_some] <;> rfl), by repeat (first | (with_reducible first | exact HB.out | apply below_alloc | apply pw_below_drewN | apply below_drew1) | exact HB.out)⟩

/-- THE ONE PURE STATEMENT of pointcodelaw23_TagsInts: yours. -/
def pointcodelaw23_TagsInts.Pure : Prop := ∀ (a0 : Int) (l1 : List Int), (Lit.int .i64 a0).wf = true → l1.length ≤ maxLen → l1.length * 1 ≤ 140737488351232 → (∀ x ∈ l1, (Lit.int .u8 x).wf = true) → ∃ k, pointcodelaw23_TagsInts.f k a0 l1 = some true
theorem pointcodelaw23_TagsInts.walk (P : pointcodelaw23_TagsInts.Pure) (a0 : Int) (a1 : Option Addr) (len1 cap1 : Nat) (z1 : List Int) (w : World) (HLV : LivesAt w) (w0 : (Lit.int .i64 a0).wf = true) (w1 : (a1 = none ∧ len1 = 0 ∧ cap1 = 0 ∧ z1 = []) ∨ ∃ x, a1 = some x ∧ len1 ≤ cap1 ∧ cap1 ≤ maxLen ∧ z1.length = cap1 ∧ (∀ i, i < z1.length → w.cell? (x.add i) = some (.int .u8 (z1.getD i 0))) ∧ ∀ n ∈ z1, (Lit.int .u8 n).wf = true) (y1 : len1 * 1 ≤ 140737488351232) :
    Calls Tryd.prog 3 #[.int .i64 a0, .slice a1 len1 cap1] w fun e w' => e = .returned (.bool true) ∧ Below w.heap.size w w' := by
  obtain ⟨l1, rfl, hr1, hm1, hw1, hc1⟩ := ReadsInt.ofRowC w1
  obtain ⟨k, h⟩ := P a0 l1 w0 hm1 y1 hw1
  refine (pointcodelaw23_TagsInts.calls k a0 _ _ l1 true w HLV (Kd.C_of_reads (d := (0 : Int)) (h1 := fun _ => rfl) hr1) hc1 h).mono ?_
  rintro e w' ⟨rfl, hd⟩
  exact ⟨rfl, hd⟩

end Go.Proofs.YtcokmnpgeokfpaaDoor.PTagsInts
