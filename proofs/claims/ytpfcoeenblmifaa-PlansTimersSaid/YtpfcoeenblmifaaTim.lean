/-
  PlansTimers: its walk.
-/
import Derived.Test.YtpfcoeenblmifaaQL
import Derived.Deep.RegionHeld3
namespace Go.Proofs.Ytpfcoeenblmifaa
open Go.RowKit Go.PC

theorem base_wrap {pa la : Option Addr} {P : Pn} {w : World} (h : Small pa la P w) : wrap64 (4 * (P.ps.length : Int) * wrap64 (wrap64 (maxD P.ls + P.room) + 1)) = baseV P := by
  have hmx := maxD_le (ls := P.ls) (m := 64) (by decide) (fun l hl => (h.ok.lines l hl).2.2.2.2.2.2)
  have hr1 := h.ok.room.1
  have hr2 := h.ok.room.2
  have hb := baseV_bound h
  rw [IntWalk.wrap64_in (maxD P.ls + P.room) (by omega), IntWalk.wrap64_in (maxD P.ls + P.room + 1) (by omega)]
  unfold baseV at *
  exact IntWalk.wrap64_in _ (by omega)

theorem gap_wrap {pa la : Option Addr} {P : Pn} {w : World} (h : Small pa la P w) : wrap64 (wrap64 ((P.ps.length : Int) + 2) * baseV P) = ((P.ps.length : Int) + 2) * baseV P := by
  have hb := baseV_bound h
  have hn := h.n
  rw [IntWalk.wrap64_in ((P.ps.length : Int) + 2) (by omega)]
  have h1 : 0 ≤ ((P.ps.length : Int) + 2) * baseV P := Int.mul_nonneg (by omega) hb.1
  have h2 : ((P.ps.length : Int) + 2) * baseV P ≤ 14 * 6192 := Int.mul_le_mul (by omega) hb.2 hb.1 (by omega)
  exact IntWalk.wrap64_in _ (by omega)

theorem gap_wrap2 {pa la : Option Addr} {P : Pn} {w : World} (h : Small pa la P w) : wrap64 (((P.ps.length : Int) + 2) * baseV P) = ((P.ps.length : Int) + 2) * baseV P := by
  have hn := h.n
  have h1 := gap_wrap h
  rwa [IntWalk.wrap64_in ((P.ps.length : Int) + 2) (by omega)] at h1

set_option maxHeartbeats 4000000 in
set_option maxRecDepth 100000 in
theorem timers_any (x : Nx) (ea : Option Addr) (ec : Nat) (hx : NxOK x) (z0 z1 : Int) (hz0 : U8 z0) (hz1 : U8 z1) (w : World) (hre : RdE w ea x.ex) :
    Calls Try.prog 7 #[.agg (nxCells x (.slice ea x.ex.length ec)).toArray, .agg #[.int .u8 z0, .int .u8 z1]] w fun e w' => Only (fun _ => False) w w' ∧ e = .returned (.bool true) := by
  obtain ⟨many, c0, c1, c2, c3, c4, c5, ends, t0, t1, t2, t3, t4, t5, ex, rate, room, k0, k1, rfl⟩ := nx_lit x hx
  simp only at hre ⊢
  have HOf := Lib.hid (fun wx (ho : Only (fun _ => False) w wx) => of_lit hx ea ec wx (hre.keep ho))
  have e19 : (nxCells ⟨many, [c0, c1, c2, c3, c4, c5], ends, [t0, t1, t2, t3, t4, t5], ex, rate, room, k0, k1⟩ (.slice ea ex.length ec)).toArray = #[.int .u8 many, .int .u8 c0, .int .u8 c1, .int .u8 c2, .int .u8 c3, .int .u8 c4, .int .u8 c5, .int .u8 ends, .int .u8 t0, .int .u8 t1, .int .u8 t2, .int .u8 t3, .int .u8 t4, .int .u8 t5, .slice ea ex.length ec, .int .u8 rate, .int .u8 room, .int .u8 k0, .int .u8 k1] := rfl
  rw [e19]
  clear e19 hre hx
  go_enter Try.func7, Try.ntmps7
  go_upto_region 1 with fail
  obtain ⟨B, hB⟩ : ∃ B, w.heap.size = B := ⟨_, rfl⟩
  simp only [hB]
  generalize hO0 : (Obj.cells #[.int .u8 many, .int .u8 c0, .int .u8 c1, .int .u8 c2, .int .u8 c3, .int .u8 c4, .int .u8 c5, .int .u8 ends, .int .u8 t0, .int .u8 t1, .int .u8 t2, .int .u8 t3, .int .u8 t4, .int .u8 t5, .slice ea ex.length ec, .int .u8 rate, .int .u8 room, .int .u8 k0, .int .u8 k1] 26) = o0
  generalize hO1 : (Obj.cells #[.int .u8 z0, .int .u8 z1] 24) = o1
  have hA : ∃ wA, wA = (w.alloc o0).alloc o1 ∧ wA.heap.size = B + 2 ∧ Only (fun _ => False) w wA ∧ wA.heap[B]? = some o0 ∧ wA.heap[B + 1]? = some o1 := by
    refine ⟨_, rfl, by simp [hB], ((Only.refl _ w).alloc _).alloc _, ?_, ?_⟩
    · rw [(MapKept.heap_alloc _ _).2 _ (by simp [hB]), ← hB]; exact (MapKept.heap_alloc _ _).1
    · have := (MapKept.heap_alloc (w.alloc o0) o1).1
      rwa [World.size_alloc, hB] at this
  obtain ⟨wA, hwA, hsA, hOA, hX0, hZ0⟩ := hA
  rw [← hwA]
  subst hO0 hO1
  have HS := Lib.hid (And.intro hB hsA)
  have HOA := Lib.hid hOA
  have HZ0 := Lib.hid hZ0
  have hX1 := hX0
  have HOf1 := Lib.hid (HOf.out _ hOA)
  clear hwA hsA hOA hX0 hZ0 hB HOf
  go_wp2_with (first | (refine wpList_load_row rfl _ _ rfl B rfl _ _ _ _ hX1 Try.underlying26 rfl (by kernel_rfl) ?_; clear hX1) | fail)
  refine HOf1.out.mono ?_
  rintro e w1 ⟨ho1, pa, la, pc, lc, P, rfl, hS, hn2, hn6, hG⟩
  have hZ1 := ho1.keep HZ0.out (by simp)
  have HO1 := Lib.hid (HOA.out.trans ho1)
  clear HOf1 ho1
  have hO0 := (Only.refl (fun _ => False) w1).alloc (planB pa la pc lc P)
  have Hbox := Lib.hid (World.cell?_alloc_new w1 #[.slice pa P.ps.length pc, .slice la P.ls.length lc, .int .i64 P.rate, .int .i64 P.room, .int .i64 P.m0, .int .i64 P.m1, .int .i64 P.m2] 31)
  have hS2 := hS.keep hO0
  unfold planV planB at *
  go_upto_region 2 with fail
  have HZ2 := Lib.hid (hO0.keep hZ1 (by simp))
  have HO2 := Lib.hid (HO1.out.trans hO0)
  generalize hW : w1.alloc (.cells #[.slice pa P.ps.length pc, .slice la P.ls.length lc, .int .i64 P.rate, .int .i64 P.room, .int .i64 P.m0, .int .i64 P.m1, .int .i64 P.m2] 31) = w2 at *
  clear hW hO0 hS hZ1 HO1 HZ0 HOA
  obtain ⟨C, hC⟩ : ∃ C, w1.heap.size = C := ⟨_, rfl⟩
  rw [hC] at Hbox
  simp only [hC]
  clear hC
  obtain ⟨e1, e2⟩ := tree_wrap z0 P.ps.length (by omega) hz0
  obtain ⟨e3, e4⟩ := tree_wrap z1 P.ps.length (by omega) hz1
  have e1' : (IntKind.i64.wrap z0).tmod P.ps.length = (((z0 % P.ps.length).toNat : Nat) : Int) := by rw [IntWalk.i64_left]; exact e1
  have e3' : (IntKind.i64.wrap z1).tmod P.ps.length = (((z1 % P.ps.length).toNat : Nat) : Int) := by rw [IntWalk.i64_left]; exact e3
  generalize (z0 % P.ps.length).toNat = a at e1 e1' e2
  generalize (z1 % P.ps.length).toNat = b at e3 e3' e4
  obtain ⟨⟨pA, tA⟩, hpA⟩ : ∃ p, P.ps[a]? = some p := ⟨_, List.getElem?_eq_getElem (by omega)⟩
  obtain ⟨⟨pB, tB⟩, hpB⟩ : ∃ p, P.ps[b]? = some p := ⟨_, List.getElem?_eq_getElem (by omega)⟩
  obtain ⟨gp, go, hga, hcell⟩ := hS2.rp.resolve_left (fun he => by rw [he] at hn2; simp at hn2)
  have hcA := (hcell a _ hpA).1
  have hcB := (hcell b _ hpB).1
  simp only at hcA hcB
  have HPc := Lib.hid (And.intro hcA hcB)
  have HPp := Lib.hid (And.intro hpA hpB)
  have zc0 : w2.cell? ⟨B + 1, 0, none⟩ = some (.int .u8 z0) := by rw [cell_of_row w2 (B + 1) 0 _ _ _ HZ2.out]; rfl
  have zc1 : w2.cell? ⟨B + 1, 1, none⟩ = some (.int .u8 z1) := by rw [cell_of_row w2 (B + 1) 1 _ _ _ HZ2.out]; rfl
  obtain ⟨y0, y1, y2, y3, y4, y5, y6⟩ := relay Hbox (Only.refl _ w2)
  subst hga
  have hnne : P.ps.length ≠ 0 := by omega
  have hnne' : ((P.ps.length : Int) == 0) = false := by simp [hnne]
  have hn1' : (1 : Int) ≤ P.ps.length := by omega
  have ha' : (a : Int) < P.ps.length := by omega
  have hb' : (b : Int) < P.ps.length := by omega
  have ha0 : (0 : Int) ≤ a := by omega
  have hb0 : (0 : Int) ≤ b := by omega
  have HSm := Lib.hid hS2
  clear hcell hpA hpB hS2
  go_wp2_with fail
  go_still_tail 12, (by kernel_rfl)
  change wpList _ _ _ _ _ w2.drew
  have ho3 := (Only.refl (fun _ => False) w2).drew
  clear y0 y1 y2 y3 y4 y5 y6 zc0 zc1 hcA hcB
  generalize w2.drew = w3 at *
  obtain ⟨y0, y1, y2, y3, y4, y5, y6⟩ := relay Hbox ho3
  have Hl := Lib.hid (HSm.out.keep ho3).rl
  have hm12 := HSm.out.m
  have Hd := Lib.hid HSm.out.ok.lines
  have hmx := maxD_le (ls := P.ls) (m := 64) (by decide) (fun l hl => (HSm.out.ok.lines l hl).2.2.2.2.2.2)
  go_wp2_with fail
  go_loop [8, 9] (fun v i => ∃ k : Nat, k ≤ P.ls.length ∧ v = .int .i64 (maxD (P.ls.take k)) ∧ i = .int .i64 k) (fun _ i => P.ls.length - (intOf i).toNat)
  case atStart => exact ⟨0, Nat.zero_le _, rfl, rfl⟩
  case round =>
    obtain ⟨k, hk, rfl, rfl⟩ := hrel
    by_cases hlt : k < P.ls.length
    · have hlt' : (k : Int) < P.ls.length := by omega
      obtain ⟨lb, lo, hla, hcell⟩ := Hl.out.resolve_left (fun he => by rw [he] at hlt; cases hlt)
      subst hla
      obtain ⟨⟨xa, xb, xc, xd⟩, hq⟩ : ∃ l, P.ls[k]? = some l := ⟨_, List.getElem?_eq_getElem hlt⟩
      obtain ⟨_, _, _, c3⟩ := hcell k _ hq
      have hst := maxD_step hq
      simp only at c3 hst
      clear hcell hq
      generalize maxD (P.ls.take k) = M at hst ⊢
      by_cases hlx : M < xd
      · rw [if_pos hlx] at hst
        have HSt := Lib.hid hst
        clear hst
        go_wp2_with fail
        go_round
        case rel => exact ⟨k + 1, by omega, by rw [HSt.out], by go_num⟩
        case measure => simp [intOf]; omega
      · rw [if_neg hlx] at hst
        have HSt := Lib.hid hst
        clear hst
        go_wp2_with fail
        exact ⟨⟨k + 1, by omega, by rw [HSt.out], by go_num⟩, by simp [intOf]; omega⟩
    · have hk' : k = P.ls.length := by omega
      subst hk'
      rw [List.take_length]
      have hbw := base_wrap HSm.out
      have hgw := gap_wrap HSm.out
      have hgw2 := gap_wrap2 HSm.out
      have hbb := baseV_bound HSm.out
      generalize hbv : baseV P = bv at hbw hgw hgw2 hbb
      obtain ⟨gv, hgv⟩ : ∃ gv, ((P.ps.length : Int) + 2) * bv = gv := ⟨_, rfl⟩
      rw [hgv] at hgw
      have hgw2 := hgw2.trans hgv
      have HBv := Lib.hid (And.intro hbv hgv)
      have HBb := Lib.hid (And.intro hbb (And.intro hgw hgw2))
      have HC := Lib.hid (Base_ok (some ⟨gp, go, none⟩) la pc lc P w3 (HSm.out.keep ho3))
      rw [hbv] at HC
      unfold planV at HC
      clear hbv hgv Hl Hd hmx hlt hk
      go_wp2_with fail
      refine HC.out.mono ?_
      rintro e w4 ⟨ho4, rfl⟩
      have hO4 := ho3.trans ho4
      clear HC ho3 ho4 y0 y1 y2 y3 y4 y5 y6
      obtain ⟨y0, y1, y2, y3, y4, y5, y6⟩ := relay Hbox hO4
      have hcA := hO4.cell HPc.out.1 (by simp)
      have HCh : Hid (∀ wb, Only (fun _ => False) w4 wb → wb.cell? ⟨C, 0, none⟩ = some (.slice (some ⟨gp, go, none⟩) P.ps.length pc) ∧ wb.cell? ⟨C, 1, none⟩ = some (.slice la P.ls.length lc) ∧ wb.cell? ⟨C, 2, none⟩ = some (.int .i64 P.rate) ∧ wb.cell? ⟨C, 3, none⟩ = some (.int .i64 P.room) ∧ wb.cell? ⟨C, 4, none⟩ = some (.int .i64 P.m0) ∧ wb.cell? ⟨C, 5, none⟩ = some (.int .i64 P.m1) ∧ wb.cell? ⟨C, 6, none⟩ = some (.int .i64 P.m2) ∧ wb.cell? ⟨gp, go + a * 2, none⟩ = some (.int .u16 pA)) := Lib.hid fun wb hwb =>
        ⟨hwb.cell y0 (by simp), hwb.cell y1 (by simp), hwb.cell y2 (by simp), hwb.cell y3 (by simp), hwb.cell y4 (by simp), hwb.cell y5 (by simp), hwb.cell y6 (by simp), hwb.cell hcA (by simp)⟩
      have HHold := Lib.hid (fun wb (hwb : Only (fun _ => False) w4 wb) => Hold_ok (some ⟨gp, go, none⟩) la pc lc P pA pB wb (HSm.out.keep (hO4.trans hwb)) (has_of HPp.out.1) (has_of HPp.out.2))
      unfold planV at HHold
      have hOR := Only.refl (fun _ => False) w4
      go_upto_region 11 with fail
      go_region_held3 (fun w' => Only (fun _ => False) w4 w' ∧ w'.cell? ⟨C, 0, none⟩ = some (.slice (some ⟨gp, go, none⟩) P.ps.length pc) ∧ w'.cell? ⟨C, 1, none⟩ = some (.slice la P.ls.length lc) ∧ w'.cell? ⟨C, 2, none⟩ = some (.int .i64 P.rate) ∧ w'.cell? ⟨C, 3, none⟩ = some (.int .i64 P.room) ∧ w'.cell? ⟨C, 4, none⟩ = some (.int .i64 P.m0) ∧ w'.cell? ⟨C, 5, none⟩ = some (.int .i64 P.m1) ∧ w'.cell? ⟨C, 6, none⟩ = some (.int .i64 P.m2) ∧ w'.cell? ⟨gp, go + a * 2, none⟩ = some (.int .u16 pA))
        (first
          | exact ⟨Only.drew (by assumption), HCh.out _ (Only.drew (by assumption))⟩
          | (go_split_ands; exact ⟨by assumption, HCh.out _ (by assumption)⟩)
          | (go_split_ands; exact ⟨Only.trans (by assumption) ho5, HCh.out _ (Only.trans (by assumption) ho5)⟩))
        ((go_at_call 18; go_split_ands; refine (HHold.out _ (by assumption)).mono ?_; rintro e w5 ⟨ho5, r, er, dh, rfl, hdh, hrh⟩; have HDh := Lib.hid (And.intro hdh hrh); clear hdh hrh))
      have hbb := HBb.out.1
      have hgw := HBb.out.2.1
      have hgw2 := HBb.out.2.2
      have hO45 : Only (fun _ => False) w4 w5 := by go_split_ands; assumption
      have hO5 := hO4.trans hO45
      clear y0 y1 y2 y3 y4 y5 y6 hcA HCh HHold hOR ho5 hO45
      obtain ⟨y0, y1, y2, y3, y4, y5, y6⟩ := relay Hbox hO5
      -- Gap
      have HC := Lib.hid (Gap_ok (some ⟨gp, go, none⟩) la pc lc P w5 (HSm.out.keep hO5))
      rw [HBv.out.1, HBv.out.2] at HC
      unfold planV at HC
      go_wp2_with fail
      refine HC.out.mono ?_
      rintro e w6 ⟨ho6, rfl⟩
      have hO6 := hO5.trans ho6
      clear y0 y1 y2 y3 y4 y5 y6 HC ho6 hO5
      obtain ⟨y0, y1, y2, y3, y4, y5, y6⟩ := relay Hbox hO6
      -- Heights
      have HC := Lib.hid (Heights_ok (some ⟨gp, go, none⟩) la pc lc P pB w6 (HSm.out.keep hO6) (has_of HPp.out.2))
      unfold planV at HC
      go_wp2_with fail
      refine HC.out.mono ?_
      rintro e w7 ⟨ho7, gh, d, ht, rfl, hgh, hrh, hd, hh⟩
      have hO7 := hO6.trans ho7
      have hlen := hd.len
      have hdd : dh = d := HDh.out.1.unique hd
      subst hdd
      have hia : idxOf P.ps pA = a := idx_at HSm.out.ok.asc HPp.out.1
      have hhv : o ht a = hOf dh a := hh.eq (by omega)
      have hca := hrh.cell (its_at (o_get (out := ht) (i := a) (by have := hh.len; omega)))
      have hr := HDh.out.2
      rw [hia, HBv.out.1] at hr
      rw [hhv] at hca
      have hvb : hOf dh a ≤ 6 := by
        unfold hOf
        split
        · omega
        · have h1 := List.countP_le_length (p := fun k => decide (0 ≤ o dh k ∧ (o dh k < o dh a ∨ (o dh k = o dh a ∧ k < a)))) (l := List.range dh.length)
          rw [List.length_range] at h1
          omega
      generalize hOf dh a = hv at hca hr hvb
      clear y0 y1 y2 y3 y4 y5 y6 HC hgh hrh hd hh ho7 hO6 hlen hia hhv HDh
      obtain ⟨y0, y1, y2, y3, y4, y5, y6⟩ := relay Hbox hO7
      have HL := Lib.hid (lives_ok w7)
      have hO8 := HO2.out.trans hO7
      have HO8 := Lib.hid hO8
      clear hO8 HO2 hO7 HBv HSm HPp HPc Hbox
      rcases hr with ⟨hv0, hr0, her⟩ | ⟨hv0, hr0, her⟩
      · subst hr0 her
        go_wp2_with fail
        refine HL.out.mono ?_
        rintro e w8 ⟨ho8, rfl⟩
        go_wp2_with fail
        go_ret
        exact ⟨HO8.out.trans ho8, rfl⟩
      · have hx1 : wrap64 (hv + 1) = hv + 1 := IntWalk.wrap64_in _ (by omega)
        have hm1 : 0 ≤ (hv + 1) * bv := Int.mul_nonneg (by omega) hbb.1
        have hm2 : (hv + 1) * bv ≤ 7 * 6192 := Int.mul_le_mul (by omega) hbb.2 hbb.1 (by omega)
        have hx2 : wrap64 ((hv + 1) * bv) = r := by rw [hr0]; exact IntWalk.wrap64_in _ (by omega)
        subst her
        clear hm1 hm2 hr0 hx1
        have hx1 : wrap64 (hv + 1) = hv + 1 := IntWalk.wrap64_in _ (by omega)
        go_wp2_with fail
        refine HL.out.mono ?_
        rintro e w8 ⟨ho8, rfl⟩
        go_wp2_with fail
        go_ret
        exact ⟨HO8.out.trans ho8, rfl⟩

end Go.Proofs.Ytpfcoeenblmifaa
