/-
  Plans: lives: the chapter's examples hold.
-/
import Derived.Test.YtpfcoeenblmifaaPZ
import Derived.Deep.RegionHeld3
namespace Go.Proofs.Ytpfcoeenblmifaa
open Go.RowKit Go.PC

set_option maxHeartbeats 4000000 in
set_option maxRecDepth 100000 in
theorem lives_ok (w : World) : Calls Try.prog 12 #[] w fun e w' => Only (fun _ => False) w w' ∧ e = .returned (.bool true) := by
  have H0 := Lib.hid (ring_ok w)
  go_enter Try.func12, Try.ntmps12
  go_wp2_with fail
  refine H0.out.mono ?_
  rintro e w1 ⟨ho1, pa, la, pc, lc, rfl, hrp, hrl⟩
  have hS := ringP_small hrp hrl
  have HOut1 := Lib.hid ho1
  clear ho1 hrp hrl H0
  have Hbox := Lib.hid (World.cell?_alloc_new w1 #[.slice pa ringP.ps.length pc, .slice la ringP.ls.length lc, .int .i64 ringP.rate, .int .i64 ringP.room, .int .i64 ringP.m0, .int .i64 ringP.m1, .int .i64 ringP.m2] 31)
  have hO0 := (Only.refl (fun _ => False) w1).alloc (planB pa la pc lc ringP)
  unfold planV planB at *
  go_upto_region 2 with fail
  generalize hW : w1.alloc (.cells #[.slice pa ringP.ps.length pc, .slice la ringP.ls.length lc, .int .i64 ringP.rate, .int .i64 ringP.room, .int .i64 ringP.m0, .int .i64 ringP.m1, .int .i64 ringP.m2] 31) = w2 at hO0 Hbox ⊢
  clear hW
  obtain ⟨B, hB⟩ : ∃ B, w1.heap.size = B := ⟨_, rfl⟩
  rw [hB] at Hbox
  simp only [hB]
  have hS2 := hS.keep hO0
  have HO2 := Lib.hid (HOut1.out.trans hO0)
  clear hB hS hO0 HOut1
  -- Distances
  have HC := Lib.hid (Distances_ok pa la pc lc ringP 4 w2 hS2 (by decide))
  unfold planV at HC
  obtain ⟨y0, y1, y2, y3, y4, y5, y6⟩ := relay Hbox (Only.refl _ w2)
  go_wp2_with fail
  refine HC.out.mono ?_
  rintro e w3 ⟨ho3, gd, d, rfl, hgd, hrd, hd⟩
  have hd1 : d = [2, 1, 1, 0] := Dist.unique (n := 4) (src := 3) hd ring_dist
  subst hd1
  have HRd := Lib.hid (And.intro hgd hrd)
  clear y0 y1 y2 y3 y4 y5 y6 HC hgd hrd hd
  -- Heights
  have HC := Lib.hid (Heights_ok pa la pc lc ringP 4 w3 (hS2.keep ho3) (by decide))
  unfold planV at HC
  obtain ⟨y0, y1, y2, y3, y4, y5, y6⟩ := relay Hbox ho3
  go_wp2_with fail
  refine HC.out.mono ?_
  rintro e w4 ⟨ho4, gh, d, h, rfl, hgh, hrh, hd, hh⟩
  have hd1 : d = [2, 1, 1, 0] := Dist.unique (n := 4) (src := 3) hd ring_dist
  subst hd1
  have hh1 := ring_hts hh
  subst hh1
  have hO4 := ho3.trans ho4
  have HRd4 := Lib.hid (HRd.out.2.only ho4 (by simp))
  have HRh4 := Lib.hid hrh
  clear y0 y1 y2 y3 y4 y5 y6 HC hgh hrh hd hh ho3 ho4 HRd
  -- Choices from 3
  have HC := Lib.hid (Choices_ok pa la pc lc ringP 3 4 w4 (hS2.keep hO4) (by decide) (by decide) (by decide))
  unfold planV at HC
  obtain ⟨y0, y1, y2, y3, y4, y5, y6⟩ := relay Hbox hO4
  go_wp2_with fail
  refine HC.out.mono ?_
  rintro e w5 ⟨ho5, a5, ys5, d, rfl, hr5, hd, hx5, hm5⟩
  have hd1 : d = [2, 1, 1, 0] := Dist.unique (n := 4) (src := 3) hd ring_dist
  subst hd1
  have hy5 := ring_choices3 hx5 hm5
  subst hy5
  obtain ⟨g5, hg5, hrow5⟩ : ∃ g5, a5 = some ⟨g5, 0, none⟩ ∧ ∃ cap, Row w5 g5 49 cap (chs [(4, 0), (2, 1)]) := by
    rcases hr5 with ⟨_, h⟩ | ⟨g, cap, h1, _, h3⟩
    · cases h
    · exact ⟨g, h1, cap, h3⟩
  subst hg5
  have hO5 := hO4.trans ho5
  have HRd5 := Lib.hid (HRd4.out.only ho5 (by simp))
  have HRh5 := Lib.hid (HRh4.out.only ho5 (by simp))
  have HR5 := Lib.hid hrow5
  clear y0 y1 y2 y3 y4 y5 y6 HC hr5 hrow5 hd hx5 hm5 ho5 hO4 HRd4 HRh4
  -- Choices from 2
  have HC := Lib.hid (Choices_ok pa la pc lc ringP 2 4 w5 (hS2.keep hO5) (by decide) (by decide) (by decide))
  unfold planV at HC
  obtain ⟨y0, y1, y2, y3, y4, y5, y6⟩ := relay Hbox hO5
  go_wp2_with fail
  refine HC.out.mono ?_
  rintro e w6 ⟨ho6, a6, ys6, d, rfl, hr6, hd, hx6, hm6⟩
  have hd1 : d = [2, 1, 1, 0] := Dist.unique (n := 4) (src := 3) hd ring_dist
  subst hd1
  have hy6 := ring_choices2 hx6 hm6
  subst hy6
  obtain ⟨g6, hg6, hrow6⟩ : ∃ g6, a6 = some ⟨g6, 0, none⟩ ∧ ∃ cap, Row w6 g6 49 cap (chs [(4, 0)]) := by
    rcases hr6 with ⟨_, h⟩ | ⟨g, cap, h1, _, h3⟩
    · cases h
    · exact ⟨g, h1, cap, h3⟩
  subst hg6
  have hO6 := hO5.trans ho6
  have HRd6 := Lib.hid (HRd5.out.only ho6 (by simp))
  have HRh6 := Lib.hid (HRh5.out.only ho6 (by simp))
  have HR56 := Lib.hid (HR5.out.imp fun cap h => h.only ho6 (by simp))
  have HR6 := Lib.hid hrow6
  clear y0 y1 y2 y3 y4 y5 y6 HC hr6 hrow6 hd hx6 hm6 ho6 hO5 HRd5 HRh5 HR5
  -- Base
  have HC := Lib.hid (Base_ok pa la pc lc ringP w6 (hS2.keep hO6))
  rw [show baseV ringP = 96 by decide] at HC
  unfold planV at HC
  obtain ⟨y0, y1, y2, y3, y4, y5, y6⟩ := relay Hbox hO6
  go_wp2_with fail
  refine HC.out.mono ?_
  rintro e w7 ⟨ho7, rfl⟩
  have hO7 := hO6.trans ho7
  have HRd7 := Lib.hid (HRd6.out.only ho7 (by simp))
  have HRh7 := Lib.hid (HRh6.out.only ho7 (by simp))
  have HR57 := Lib.hid (HR56.out.imp fun cap h => h.only ho7 (by simp))
  have HR67 := Lib.hid (HR6.out.imp fun cap h => h.only ho7 (by simp))
  clear y0 y1 y2 y3 y4 y5 y6 HC ho7 hO6 HRd6 HRh6 HR56 HR6
  -- Hold
  have HC := Lib.hid (Hold_ok pa la pc lc ringP 1 4 w7 (hS2.keep hO7) (by decide) (by decide))
  rw [show baseV ringP = 96 by decide] at HC
  unfold planV at HC
  obtain ⟨y0, y1, y2, y3, y4, y5, y6⟩ := relay Hbox hO7
  go_wp2_with fail
  refine HC.out.mono ?_
  rintro e w8 ⟨ho8, r8, er8, d, rfl, hd, hr8⟩
  have hd1 : d = [2, 1, 1, 0] := Dist.unique (n := 4) (src := 3) hd ring_dist
  subst hd1
  have hr9 : r8 = 384 ∧ er8 = 0 := by
    have hh : hOf [2, 1, 1, 0] (idxOf ringP.ps 1) = 3 := by decide
    rw [hh] at hr8
    omega
  obtain ⟨rfl, rfl⟩ := hr9
  have hO8 := hO7.trans ho8
  have HRd8 := Lib.hid (HRd7.out.only ho8 (by simp))
  have HRh8 := Lib.hid (HRh7.out.only ho8 (by simp))
  have HR58 := Lib.hid (HR57.out.imp fun cap h => h.only ho8 (by simp))
  have HR68 := Lib.hid (HR67.out.imp fun cap h => h.only ho8 (by simp))
  clear y0 y1 y2 y3 y4 y5 y6 HC ho8 hO7 HRd7 HRh7 HR57 HR67 hd hr8
  -- Gap
  have HC := Lib.hid (Gap_ok pa la pc lc ringP w8 (hS2.keep hO8))
  rw [show ((ringP.ps.length : Int) + 2) * baseV ringP = 576 by decide] at HC
  unfold planV at HC
  obtain ⟨y0, y1, y2, y3, y4, y5, y6⟩ := relay Hbox hO8
  go_wp2_with fail
  refine HC.out.mono ?_
  rintro e w9 ⟨ho9, rfl⟩
  have hO9 := hO8.trans ho9
  have HRd9 := Lib.hid (HRd8.out.only ho9 (by simp))
  have HRh9 := Lib.hid (HRh8.out.only ho9 (by simp))
  have HR59 := Lib.hid (HR58.out.imp fun cap h => h.only ho9 (by simp))
  have HR69 := Lib.hid (HR68.out.imp fun cap h => h.only ho9 (by simp))
  clear y0 y1 y2 y3 y4 y5 y6 HC ho9 hO8 HRd8 HRh8 HR58 HR68
  have HI1 : Hid (Calls Try.prog 26 #[.slice (some ⟨gd, 0, none⟩) 4 4, .slice (some ⟨w9.heap.size, 0, none⟩) 4 4] (w9.drew.alloc (.cells #[.int .i64 2, .int .i64 1, .int .i64 1, .int .i64 0] 3)) fun e w' => e = .returned (.bool true) ∧ Only (fun _ => False) w9 w') := by
    refine Lib.hid ((ints_same gd w9.heap.size 4 4 [2, 1, 1, 0] _ rfl (by decide) (fun i x hx => ?_) (fun i x hx => ?_)).mono ?_)
    · exact (((Only.refl (fun _ => False) w9).drew).alloc _).cell (HRd9.out.cell (its_at hx)) (by simp)
    · have := World.cell?_alloc_new w9.drew #[.int .i64 2, .int .i64 1, .int .i64 1, .int .i64 0] 3 i
      have hs : w9.drew.heap.size = w9.heap.size := rfl
      rw [hs] at this
      rw [this]
      simpa [its] using its_at hx
    · rintro e w' ⟨rfl, q, rfl⟩
      exact ⟨rfl, OnlyF.drewN (((Only.refl (fun _ => False) w9).drew).alloc _) q⟩
  have HI2 : Hid (∀ wa, Only (fun _ => False) w9 wa → Calls Try.prog 26 #[.slice (some ⟨gh, 0, none⟩) 4 4, .slice (some ⟨wa.heap.size, 0, none⟩) 4 4] (wa.alloc (.cells #[.int .i64 3, .int .i64 1, .int .i64 2, .int .i64 0] 3)) fun e w' => e = .returned (.bool true) ∧ Only (fun _ => False) w9 w') := by
    refine Lib.hid fun wa hwa => ((ints_same gh wa.heap.size 4 4 [3, 1, 2, 0] _ rfl (by decide) (fun i x hx => ?_) (fun i x hx => ?_)).mono ?_)
    · exact (hwa.alloc _).cell (HRh9.out.cell (its_at hx)) (by simp)
    · rw [World.cell?_alloc_new wa #[.int .i64 3, .int .i64 1, .int .i64 2, .int .i64 0] 3 i]
      simpa [its] using its_at hx
    · rintro e w' ⟨rfl, q, rfl⟩
      exact ⟨rfl, OnlyF.drewN (hwa.alloc _) q⟩
  have HCh : Hid (∀ wb, Only (fun _ => False) w9 wb → wb.cell? ⟨g5, 0, none⟩ = some (.int .u16 4) ∧ wb.cell? ⟨g5, 1, none⟩ = some (.int .i64 0) ∧ wb.cell? ⟨g5, 2, none⟩ = some (.int .u16 2) ∧ wb.cell? ⟨g5, 3, none⟩ = some (.int .i64 1) ∧ wb.cell? ⟨g6, 0, none⟩ = some (.int .u16 4) ∧ wb.cell? ⟨g6, 1, none⟩ = some (.int .i64 0)) := Lib.hid fun wb hwb => by
    obtain ⟨c5, h5⟩ := HR59.out
    obtain ⟨c6, h6⟩ := HR69.out
    have h5 := h5.only hwb (by simp)
    have h6 := h6.only hwb (by simp)
    exact ⟨h5.cell rfl, h5.cell rfl, h5.cell rfl, h5.cell rfl, h6.cell rfl, h6.cell rfl⟩
  have HO9 := Lib.hid (HO2.out.trans hO9)
  have e4 : ringP.ps.length = 4 := rfl
  simp only [e4]
  clear hO9 HO2 HRd9 HRh9 HR59 HR69 hS2 Hbox e4
  go_wp2_with fail
  have hOR := Only.refl (fun _ => False) w9
  go_region_held3 (fun w' => Only (fun _ => False) w9 w' ∧ w'.cell? ⟨g5, 0, none⟩ = some (.int .u16 4) ∧ w'.cell? ⟨g5, 1, none⟩ = some (.int .i64 0) ∧ w'.cell? ⟨g5, 2, none⟩ = some (.int .u16 2) ∧ w'.cell? ⟨g5, 3, none⟩ = some (.int .i64 1) ∧ w'.cell? ⟨g6, 0, none⟩ = some (.int .u16 4) ∧ w'.cell? ⟨g6, 1, none⟩ = some (.int .i64 0))
    (first
      | exact ⟨by assumption, HCh.out _ (by assumption)⟩
      | exact ⟨Only.drew (by assumption), HCh.out _ (Only.drew (by assumption))⟩
      | exact ⟨Only.alloc (by assumption) _, HCh.out _ (Only.alloc (by assumption) _)⟩
      | (go_split_ands; exact ⟨Only.alloc (by assumption) _, HCh.out _ (Only.alloc (by assumption) _)⟩)
      | (go_split_ands; exact ⟨Only.drew (Only.alloc (by assumption) _), HCh.out _ (Only.drew (Only.alloc (by assumption) _))⟩)
      | (go_split_ands; exact ⟨by assumption, HCh.out _ (by assumption)⟩))
    ((go_at_call 26; first
      | (refine HI1.out.mono ?_; rintro e wa ⟨rfl, hoa⟩; clear HI1)
      | (refine (HI2.out wa hoa).mono ?_; rintro e wb ⟨rfl, hob⟩; clear HI2)))
  all_goals go_wp2_with fail
  go_ret
  exact ⟨HO9.out.trans hob, rfl⟩

end Go.Proofs.Ytpfcoeenblmifaa
