/-
  Plans: Check accepts a valid plan.
-/
import Derived.Test.YtpfcoeenblmifaaPD
namespace Go.Proofs.Ytpfcoeenblmifaa
open Go.RowKit Go.PC

/-- Lines in order, by places. -/
theorem sorted_at {ls : List Ln} (h : ls.Pairwise LtL) {i j : Nat} {l m : Ln} (hl : ls[i]? = some l) (hm : ls[j]? = some m) (hij : i < j) : LtL l m := by
  obtain ⟨hi, rfl⟩ := List.getElem?_eq_some_iff.1 hl
  obtain ⟨hj, rfl⟩ := List.getElem?_eq_some_iff.1 hm
  exact List.pairwise_iff_getElem.1 h i j hi hj hij

set_option maxHeartbeats 4000000 in
set_option maxRecDepth 100000 in
theorem lines_ok (pa la : Option Addr) (pc lc : Nat) (P : Pn) (w : World) (hp : RdP w pa P.ps) (hl : RdL w la P.ls) (hok : PlanOK P) :
    Calls Try.prog 49 #[planV pa la pc lc P] w fun e w' => e = .returned (.int .i64 0) ∧ Only (fun _ => False) w w' := by
  obtain ⟨ps, ls, rate, room, m0, m1, m2⟩ := P
  unfold planV
  have Hp := Lib.hid (p := RdP w pa ps) hp
  have Hl := Lib.hid (p := RdL w la ls) hl
  have Hok := Lib.hid (p := PlanOK ⟨ps, ls, rate, room, m0, m1, m2⟩) hok
  have hnp : ps.length ≤ 64 := hok.np
  have hnl : ls.length ≤ 1024 := hok.nl
  clear hp hl hok
  simp only
  have hO0 := (Only.refl (fun _ => False) w).alloc (.cells #[.slice pa ps.length pc, .slice la ls.length lc, .int .i64 rate, .int .i64 room, .int .i64 m0, .int .i64 m1, .int .i64 m2] 31)
  have hbox := World.cell?_alloc_new w #[.slice pa ps.length pc, .slice la ls.length lc, .int .i64 rate, .int .i64 room, .int .i64 m0, .int .i64 m1, .int .i64 m2] 31
  have Hbox := Lib.hid hbox
  clear hbox
  go_enter Try.func49, Try.ntmps49
  go_wp2
  generalize hW : w.alloc (.cells #[.slice pa ps.length pc, .slice la ls.length lc, .int .i64 rate, .int .i64 room, .int .i64 m0, .int .i64 m1, .int .i64 m2] 31) = w1 at hO0 Hbox ⊢
  clear hW
  obtain ⟨B, hB⟩ : ∃ B, w.heap.size = B := ⟨_, rfl⟩
  rw [hB] at Hbox
  simp only [hB]
  clear hB
  go_loopw [14] (fun v wr => ∃ k : Nat, k ≤ ls.length ∧ v = .int .i64 k ∧ Only (fun _ => False) w1 wr) (fun v _ => ls.length - (intOf v).toNat)
  case atStart => exact ⟨0, Nat.zero_le _, rfl, Only.refl _ _⟩
  case round =>
    obtain ⟨k, hk, rfl, ho⟩ := hrel
    obtain ⟨wo, hwo⟩ : ∃ wo : World, wo = wr := ⟨_, rfl⟩
    rw [← hwo] at ho ⊢
    clear hwo wr
    have hOo := hO0.trans ho
    by_cases hlt : k < ls.length
    · have hlt' : (k : Int) < (ls.length : Int) := by omega
      obtain ⟨b, off, ha, hcell⟩ := Hl.out.resolve_left (fun he => by rw [he] at hlt; cases hlt)
      subst ha
      obtain ⟨⟨xa, xb, xc, xd⟩, hq⟩ : ∃ l, ls[k]? = some l := ⟨_, List.getElem?_eq_getElem hlt⟩
      obtain ⟨c0, c1, c2, c3⟩ := hcell k _ hq
      obtain ⟨hab, ha0, hb1, hc0, hc1, hd0, hd1⟩ := Hok.out.lines _ (List.mem_of_getElem? hq)
      have c0 := hOo.cell c0 (by simp)
      have c1 := hOo.cell c1 (by simp)
      have c2 := hOo.cell c2 (by simp)
      have c3 := hOo.cell c3 (by simp)
      have x1 : wo.cell? ⟨B, 1, none⟩ = some (.slice (some ⟨b, off, none⟩) ls.length lc) := ho.cell (Hbox.out 1) (by simp)
      simp only at c0 c1 c2 c3 hab ha0 hb1 hc0 hc1 hd0 hd1
      have Hq := Lib.hid hq
      clear hq
      have hb : b < wo.heap.size := lt_of_cell c0
      have hbB : B < wo.heap.size := lt_of_cell x1
      have n1 : ¬ xb ≤ xa := by omega
      have n2 : ¬ 15 < xc := by omega
      have n3 : ¬ xd < 1 := by omega
      have n4 : ¬ 64 < xd := by omega
      by_cases hk0 : k = 0
      · subst hk0
        clear hcell
        simp only [Nat.zero_mul, Nat.add_zero] at c0 c1 c2 c3
        go_wp2_with fail
        go_quiet (fail)
        go_wp2_with fail
        go_roundw
        case rel => exact ⟨1, hlt, rfl, OnlyF.drewN (ho.alloc _) _⟩
        case measure => simp [intOf]; omega
      · obtain ⟨⟨ya, yb, yc, yd⟩, hq2⟩ : ∃ l, ls[k - 1]? = some l := ⟨_, List.getElem?_eq_getElem (by omega)⟩
        obtain ⟨d0, d1, d2, d3⟩ := hcell _ _ hq2
        have hlt2 := cmpL_lt (sorted_at Hok.out.sorted hq2 Hq.out (by omega))
        simp only at hlt2
        have d0 := hOo.cell d0 (by simp)
        have d1 := hOo.cell d1 (by simp)
        have d2 := hOo.cell d2 (by simp)
        simp only at d0 d1 d2
        clear hcell d3 hq2
        have hg2 : decide (0 < k) = true := by simp; omega
        have hi0 : (0 : Int) ≤ (k : Int) - 1 := by omega
        have hi1 : (k : Int) - 1 < (ls.length : Int) := by omega
        have Hcall := Lib.hid (fun wx => hlt2 ▸ compareL_any ya yb yc xa xb xc wx)
        clear hlt2
        go_wp2_with fail
        have hO4 := ho.alloc (.cells #[.int .u16 xa, .int .u16 xb, .int .u8 xc, .int .i64 xd] 57)
        have hN := (Only.refl (fun _ => False) wo).alloc (.cells #[.int .u16 xa, .int .u16 xb, .int .u8 xc, .int .i64 xd] 57)
        have hbx := World.cell?_alloc_new wo #[.int .u16 xa, .int .u16 xb, .int .u8 xc, .int .i64 xd] 57
        have x1 := hN.cell x1 (by simp)
        have d0 := hN.cell d0 (by simp)
        have d1 := hN.cell d1 (by simp)
        have d2 := hN.cell d2 (by simp)
        have b0 : (wo.alloc (.cells #[.int .u16 xa, .int .u16 xb, .int .u8 xc, .int .i64 xd] 57)).cell? ⟨wo.heap.size, 0, none⟩ = some (.int .u16 xa) := hbx 0
        have b1 : (wo.alloc (.cells #[.int .u16 xa, .int .u16 xb, .int .u8 xc, .int .i64 xd] 57)).cell? ⟨wo.heap.size, 1, none⟩ = some (.int .u16 xb) := hbx 1
        have b2 : (wo.alloc (.cells #[.int .u16 xa, .int .u16 xb, .int .u8 xc, .int .i64 xd] 57)).cell? ⟨wo.heap.size, 2, none⟩ = some (.int .u8 xc) := hbx 2
        clear hbx hN
        generalize wo.alloc (.cells #[.int .u16 xa, .int .u16 xb, .int .u8 xc, .int .i64 xd] 57) = w4 at *
        have hi2 : (1 : Int) ≤ (k : Int) := by omega
        have hw1 : IntKind.i64.wrap ((k : Int) - 1) = (k : Int) - 1 := IntWalk.i64_in _ (by omega)
        have hw2 : ((k : Int) - 1).toNat = k - 1 := by omega
        go_still_tail 12, (by kernel_rfl)
        clear hw1 hw2 hi2
        change wpList _ _ _ _ _ w4.drew
        have hO5 := hO4.drew
        clear hO4 c0 c1 c2 c3 d0 d1 d2 x1 b0 b1 b2
        generalize w4.drew = w5 at *
        go_wp2_with fail
        refine (Hcall.out _).mono ?_
        rintro e w6 ⟨rfl, ho6⟩
        go_wp2_with fail
        go_roundw
        case rel => exact ⟨k + 1, hlt, by go_num, hO5.trans ho6⟩
        case measure => simp [intOf]; omega
    · have x1 : wo.cell? ⟨B, 1, none⟩ = some (.slice la ls.length lc) := ho.cell (Hbox.out 1) (by simp)
      go_wp2_with fail
      go_loopw [63] (fun v wr => ∃ k : Nat, k ≤ ls.length ∧ v = .int .i64 k ∧ Only (fun _ => False) w1 wr) (fun v _ => ls.length - (intOf v).toNat)
      case atStart => exact ⟨0, Nat.zero_le _, rfl, ho⟩
      case round =>
        clear x1 ho hOo
        obtain ⟨q, hq, rfl, ho⟩ := hrel
        have hOo := hO0.trans ho
        by_cases hlq : q < ls.length
        · have hlt' : (q : Int) < (ls.length : Int) := by omega
          obtain ⟨b, off, ha, hcell⟩ := Hl.out.resolve_left (fun he => by rw [he] at hlq; cases hlq)
          subst ha
          obtain ⟨⟨xa, xb, xc, xd⟩, hx⟩ : ∃ l, ls[q]? = some l := ⟨_, List.getElem?_eq_getElem hlq⟩
          obtain ⟨c0, c1, c2, c3⟩ := hcell q _ hx
          obtain ⟨e1, e2⟩ := Hok.out.ends _ (List.mem_of_getElem? hx)
          have c0 := hOo.cell c0 (by simp)
          have c1 := hOo.cell c1 (by simp)
          have c2 := hOo.cell c2 (by simp)
          have c3 := hOo.cell c3 (by simp)
          simp only at c0 c1 c2 c3 e1 e2
          have y0 : wr.cell? ⟨B, 0, none⟩ = some (.slice pa ps.length pc) := ho.cell (Hbox.out 0) (by simp)
          have y1 : wr.cell? ⟨B, 1, none⟩ = some (.slice (some ⟨b, off, none⟩) ls.length lc) := ho.cell (Hbox.out 1) (by simp)
          have y2 : wr.cell? ⟨B, 2, none⟩ = some (.int .i64 rate) := ho.cell (Hbox.out 2) (by simp)
          have y3 : wr.cell? ⟨B, 3, none⟩ = some (.int .i64 room) := ho.cell (Hbox.out 3) (by simp)
          have y4 : wr.cell? ⟨B, 4, none⟩ = some (.int .i64 m0) := ho.cell (Hbox.out 4) (by simp)
          have y5 : wr.cell? ⟨B, 5, none⟩ = some (.int .i64 m1) := ho.cell (Hbox.out 5) (by simp)
          have y6 : wr.cell? ⟨B, 6, none⟩ = some (.int .i64 m2) := ho.cell (Hbox.out 6) (by simp)
          have hb : b < wr.heap.size := lt_of_cell c0
          have hbB : B < wr.heap.size := lt_of_cell y1
          have ho4 := ho.alloc (.cells #[.int .u16 xa, .int .u16 xb, .int .u8 xc, .int .i64 xd] 57)
          have f1 := Lib.hid (fun (wx : World) (hwx : Only (fun _ => False) w1 wx) => e1 ▸ find_any pa ps pc (.slice (some ⟨b, off, none⟩) ls.length lc) (.int .i64 rate) (.int .i64 room) (.int .i64 m0) (.int .i64 m1) (.int .i64 m2) xa wx (Hp.out.keep (hO0.trans hwx)) Hok.out.asc (by omega))
          have f2 := Lib.hid (fun (wx : World) (hwx : Only (fun _ => False) w1 wx) => e2 ▸ find_any pa ps pc (.slice (some ⟨b, off, none⟩) ls.length lc) (.int .i64 rate) (.int .i64 room) (.int .i64 m0) (.int .i64 m1) (.int .i64 m2) xb wx (Hp.out.keep (hO0.trans hwx)) Hok.out.asc (by omega))
          clear hcell hx e1 e2 hOo
          go_wp2_with fail
          refine (f1.out _ ho4).mono ?_
          rintro e w5 ⟨rfl, ho5⟩
          have ho6 := ho4.trans ho5
          have hbx : (wr.alloc (.cells #[.int .u16 xa, .int .u16 xb, .int .u8 xc, .int .i64 xd] 57)).cell? ⟨wr.heap.size, 1, none⟩ = some (.int .u16 xb) := World.cell?_alloc_new wr _ _ 1
          have hbx5 := ho5.cell hbx (by simp)
          have y0 : w5.cell? ⟨B, 0, none⟩ = some (.slice pa ps.length pc) := ho6.cell (Hbox.out 0) (by simp)
          have y1 : w5.cell? ⟨B, 1, none⟩ = some (.slice (some ⟨b, off, none⟩) ls.length lc) := ho6.cell (Hbox.out 1) (by simp)
          have y2 : w5.cell? ⟨B, 2, none⟩ = some (.int .i64 rate) := ho6.cell (Hbox.out 2) (by simp)
          have y3 : w5.cell? ⟨B, 3, none⟩ = some (.int .i64 room) := ho6.cell (Hbox.out 3) (by simp)
          have y4 : w5.cell? ⟨B, 4, none⟩ = some (.int .i64 m0) := ho6.cell (Hbox.out 4) (by simp)
          have y5 : w5.cell? ⟨B, 5, none⟩ = some (.int .i64 m1) := ho6.cell (Hbox.out 5) (by simp)
          have y6 : w5.cell? ⟨B, 6, none⟩ = some (.int .i64 m2) := ho6.cell (Hbox.out 6) (by simp)
          clear hbx ho5 ho4 c0 c1 c2 c3
          go_wp2_with fail
          refine (f2.out _ ho6).mono ?_
          rintro e w7 ⟨rfl, ho7⟩
          go_wp2_with fail
          go_roundw
          case rel => exact ⟨q + 1, hlq, by go_num, ho6.trans ho7⟩
          case measure => simp [intOf]; omega
        · go_wp2_with fail
          go_ret
          exact ⟨rfl, hO0.trans ho⟩

end Go.Proofs.Ytpfcoeenblmifaa
