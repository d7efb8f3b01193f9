/-
  RestartsEnd: the walk.
-/
import Derived.Test.YtofdmfibffcojaaEndP
import Derived.Maps.AppendAt
namespace Go.Proofs.Ytofdmfibffcojaa
open Go.RowKit Go.PC

theorem info26 : (Try.prog.info? 26).map (fun i => (i.zero, i.size, i.bytes)) = some (some (.int .u16 0), 1, 2) := by kernel_rfl

/-- The points of the law. -/
def ptsV (k : Nat) : List Value := (List.range k).map fun i => Value.int .u16 ((i : Nat) : Int)
theorem ptsV_succ (k : Nat) : ptsV (k + 1) = ptsV k ++ [.int .u16 (k : Int)] := by unfold ptsV; rw [List.range_succ, List.map_append]; rfl

set_option maxHeartbeats 4000000 in
set_option maxRecDepth 100000 in
theorem end_any (many z0 z1 c0 c1 : Int) (n : Nat) (hm0 : 0 ≤ many) (hm1 : many ≤ 255) (hn : (n : Int) = 1 + many % 6) (hz0 : 0 ≤ z0) (hz0' : z0 ≤ 65535) (hz1 : 0 ≤ z1) (hz1' : z1 ≤ 65535) (w : World) :
    Calls Try.prog 4 #[.int .u8 many, .agg #[.int .u16 z0, .int .u16 z1], .agg #[.int .u8 c0, .int .u8 c1]] w fun e w' => e = .returned (.bool true) ∧ Only (fun _ => False) w w' := by
  have Hn := Lib.hid hn
  clear hn
  obtain ⟨i0, hi, hz0i, hz1i, hz2i⟩ := info_parts info26
  go_enter Try.func4, Try.ntmps4
  go_wp2_with fail
  simp only [← Hn.out]
  have hn6 : n ≤ 6 := by have := Hn.out; omega
  have hn1 : 1 ≤ n := by have := Hn.out; omega
  have hO := ((Only.refl (fun _ => False) w).alloc (.cells #[.int .u16 z0, .int .u16 z1] 40)).alloc (.cells #[.int .u8 c0, .int .u8 c1] 41)
  have hB0 : ((w.alloc (.cells #[.int .u16 z0, .int .u16 z1] 40)).alloc (.cells #[.int .u8 c0, .int .u8 c1] 41)).cell? ⟨w.heap.size + 1, 0, none⟩ = some (.int .u8 c0) ∧ ((w.alloc (.cells #[.int .u16 z0, .int .u16 z1] 40)).alloc (.cells #[.int .u8 c0, .int .u8 c1] 41)).cell? ⟨w.heap.size + 1, 1, none⟩ = some (.int .u8 c1) := by
    have := World.cell?_alloc_new (w.alloc (.cells #[.int .u16 z0, .int .u16 z1] 40)) #[.int .u8 c0, .int .u8 c1] 41
    rw [World.size_alloc] at this
    exact ⟨this 0, this 1⟩
  have hBs : ((w.alloc (.cells #[.int .u16 z0, .int .u16 z1] 40)).alloc (.cells #[.int .u8 c0, .int .u8 c1] 41)).heap.size = w.heap.size + 2 := by simp
  generalize ((w.alloc (.cells #[.int .u16 z0, .int .u16 z1] 40)).alloc (.cells #[.int .u8 c0, .int .u8 c1] 41)) = w0 at *
  have HB0 := Lib.hid hB0
  have HBs := Lib.hid hBs
  clear hB0 hBs
  go_loopw [10, 11] (fun v i wr => ∃ k : Nat, k ≤ n ∧ i = .int .i64 k ∧ wr.ownsRow w0.heap.size 26 1 v k (ptsV k) ∧ Only (fun _ => False) w0 wr)
    (fun _ i _ => n - (intOf i).toNat)
  case atStart => exact ⟨0, Nat.zero_le _, rfl, World.ownsRow_nil _ _ _ _, Only.refl _ _⟩
  case round =>
    obtain ⟨k, hk, rfl, hown, ho⟩ := hrel
    have hsz := ho.size
    by_cases hlt : k < n
    · have hk6 : (k : Int) < 6 := by omega
      have hlt' : (k : Int) < (n : Int) := by omega
      go_wp2_with (first
        | (at_builtin; refine wpList_append_own _ rfl _ _ 24 rfl w0.heap.size 26 i0 (.int .u16 0) 1 2 Try.underlying24 hi hz0i hz1i hz2i rfl (by decide) _ _ _ rfl (hown.alloc _) ⟨wr.heap.size, 0, none⟩ 1 1 [.int .u16 k] rfl rfl (cell_one_new _ _ _) (ints_oneCell .u16 [(k : Int)]) (by unfold maxLen; omega) (by omega) (by simp; omega) ?_; intro v' w1 hown' hgrow _)
        | go_in)
      go_roundw
      case rel =>
        refine ⟨k + 1, by omega, by go_num, by rw [ptsV_succ]; exact hown', (ho.alloc _).andThen (Only.of_grownBy hgrow) ?_⟩
        intro i hi h
        have := (hown.lt i h.symm).1
        omega
      case measure => simp [intOf]; omega
    · have hkn : k = n := by omega
      subst hkn
      have hsl : ∃ g cap, u10 = .slice (some ⟨g, 0, none⟩) k cap ∧ w0.heap.size ≤ g := by
        rcases hown.2 with ⟨_, h0⟩ | ⟨g, cap, cur, h1, h2, _⟩
        · omega
        · exact ⟨g, cap, h1, h2⟩
      obtain ⟨g, cap, hv, hg⟩ := hsl
      subst hv
      have hcs : ∀ i, i < k → wr.cell? ⟨g, 0 + i, none⟩ = some (.int .u16 (0 + (i : Nat))) := fun i hi' => by
        rw [Nat.zero_add, hown.cellAt i (by omega)]
        simp [ptsV, hi']
      have hO1 := hO.trans ho
      have HBr := Lib.hid (show wr.cell? ⟨w.heap.size + 1, 0, none⟩ = some (.int .u8 c0) ∧ wr.cell? ⟨w.heap.size + 1, 1, none⟩ = some (.int .u8 c1) from ⟨ho.cell HB0.out.1 (by simp), ho.cell HB0.out.2 (by simp)⟩)
      have Hcs := Lib.hid hcs
      have hgw : w.heap.size ≤ g := by have := HBs.out; omega
      clear hO ho hown HB0 hcs
      go_wp2_with fail
      refine (pm_new (some ⟨g, 0, none⟩) 0 k cap z0 (by omega) (by decide) (by omega) (Or.inr ⟨g, 0, rfl, Hcs.out⟩) hz0 (by omega)).mono ?_
      rintro e w1 ⟨ma, la, rfl, hma, hla, hA, hoA⟩
      have hsA := hoA.size
      have hs1 := hO1.size
      have hO2 := hO1.trans hoA
      have HB := Lib.hid (show w1.cell? ⟨w.heap.size + 1, 0, none⟩ = some (.int .u8 c0) ∧ w1.cell? ⟨w.heap.size + 1, 1, none⟩ = some (.int .u8 c1) from ⟨hoA.cell HBr.out.1 (by simp), hoA.cell HBr.out.2 (by simp)⟩)
      have HC := Lib.hid (p := ∀ i, i < k → w1.cell? ⟨g, i, none⟩ = some (.int .u16 ((i : Nat) : Int))) (fun i hi' => by
        have := hoA.cell (Hcs.out i hi') (by simp)
        simpa using this)
      have hgm : ma ≠ g ∧ la ≠ g ∧ ma ≠ w.heap.size + 1 ∧ la ≠ w.heap.size + 1 ∧ w.heap.size ≤ ma ∧ w.heap.size ≤ la := by
        have h1 := lt_of_cell (Hcs.out 0 (by omega))
        have h2 := lt_of_cell HBr.out.1
        simp only at h1 h2
        omega
      rw [← sd_zero (by omega)] at hA
      clear hO1 hoA HBr Hcs hma hla hsA hs1
      go_wp2_with fail
      obtain ⟨wl, hwl⟩ : ∃ wl : World, wl = w1 := ⟨_, rfl⟩
      go_loopw [14] (fun i wr => ∃ j : Nat, j ≤ k ∧ i = .int .i64 j ∧ Pm wr ma la 0 (sd k z0 j) ∧ Only (fun i => i = ma ∨ i = la) w1 wr)
        (fun i _ => k - (intOf i).toNat)
      case atStart => exact ⟨0, Nat.zero_le _, rfl, hA, Only.refl _ _⟩
      case round =>
        clear hA
        obtain ⟨j, hj, rfl, hA, ho⟩ := hrel
        by_cases hlt : j < k
        · have hlt' : (j : Int) < (k : Int) := by omega
          have hc := ho.cell (HC.out j hlt) (by simp; omega)
          have hcall := pm_down' hA (j : Int) j (by omega) (by decide) (by omega) 0 (by unfold St.err; rw [sd_len, if_pos hlt]) (sd k z0 (j + 1)) (sd_down hlt)
          clear hA
          go_wp2_with (go_at_call 11; refine hcall.mono ?_; rintro e w2 ⟨rfl, hA2, ho2⟩)
          go_roundw
          case rel => exact ⟨j + 1, by omega, by go_num, hA2, ho.trans ho2⟩
          case measure => simp [intOf]; omega
        · have hjk : j = k := by omega
          subst hjk
          have hO3 := hO2.andThen ho (fun i hi h => by omega)
          have HB2 := Lib.hid (show _ ∧ _ from ⟨ho.cell HB.out.1 (by simp; omega), ho.cell HB.out.2 (by simp; omega)⟩)
          have HC2 := Lib.hid (fun i hi => ho.cell (HC.out i hi) (by simp; omega))
          clear hO2 ho HB HC
          have hst := pm_state' hA 1 (by unfold sd; exact if_pos rfl)
          have htk := pm_tick' hA z1 false (by unfold St.ends sd; simp) _ rfl
          have htick : (sd j z0 j).tick z1 = sk j z0 z1 (mbit c0) (mbit c1) 0 := by
            rw [sk_zero]; unfold St.tick; rw [if_neg]; unfold St.ends sd; simp
          rw [htick] at htk
          clear hA htick
          go_wp2_with (first
            | (go_at_call 9; refine hst.mono ?_; rintro e w' ⟨rfl, rfl⟩)
            | (go_at_call 13; refine htk.mono ?_; rintro e w3 ⟨rfl, hA3, ho3⟩))
          have hO4 := hO3.andThen ho3 (fun i hi h => by omega)
          have HB3 := Lib.hid (show _ ∧ _ from ⟨ho3.cell HB2.out.1 (by simp; omega), ho3.cell HB2.out.2 (by simp; omega)⟩)
          have HC3 := Lib.hid (fun i hi => ho3.cell (HC2.out i hi) (by simp; omega))
          clear hO3 ho3 HB2 HC2 hst htk
          go_loopw [15, 16, 17] (fun a15 a16 i wr => ∃ q : Nat, q ≤ j ∧ i = .int .i64 q ∧ a15 = .bool ((List.range q).all fun i => !mbit c0 i || mbit c1 i) ∧ a16 = .bool ((List.range q).any (mbit c0)) ∧ Pm wr ma la 0 (sk j z0 z1 (mbit c0) (mbit c1) q) ∧ Only (fun i => i = ma ∨ i = la) w3 wr)
            (fun _ _ i _ => j - (intOf i).toNat)
          case atStart => exact ⟨0, Nat.zero_le _, rfl, rfl, rfl, hA3, Only.refl _ _⟩
          case round =>
            clear hA3
            obtain ⟨q, hq, rfl, rfl, rfl, hA, ho⟩ := hrel
            have Hall := Lib.hid (all_succ (u := mbit c0) (d := mbit c1) q)
            have Hany := Lib.hid (any_succ (mbit c0) q)
            by_cases hlt : q < j
            · have hlt' : (q : Int) < (j : Int) := by omega
              have hq6 : (q : Int) < 6 := by omega
              have hc := ho.cell (HC3.out q hlt) (by simp; omega)
              have hb0 := ho.cell HB3.out.1 (by simp; omega)
              have hb1 := ho.cell HB3.out.2 (by simp; omega)
              generalize hall0 : ((List.range q).all fun i => !mbit c0 i || mbit c1 i) = A at *
              generalize hany0 : (List.range q).any (mbit c0) = Y at *
              clear hall0 hany0
              cases hu : mbit c0 q <;> cases hd : mbit c1 q
              · have hu' : (bits BinOp.and IntKind.u8 (c0 / 2 ^ q) 1 == 1) = false := hu
                have hd' : (bits BinOp.and IntKind.u8 (c1 / 2 ^ q) 1 == 1) = false := hd
                rw [sk_none hu] at hA
                have HA := Lib.hid hA
                rw [hu] at Hany
                rw [hu, hd] at Hall
                clear hA hu hd
                go_wp2
                go_roundw
                case rel => exact ⟨q + 1, by omega, by go_num, by rw [Hall.out]; simp, by rw [Hany.out]; simp, HA.out, ho⟩
                case measure => simp [intOf]; omega
              · have hu' : (bits BinOp.and IntKind.u8 (c0 / 2 ^ q) 1 == 1) = false := hu
                have hd' : (bits BinOp.and IntKind.u8 (c1 / 2 ^ q) 1 == 1) = true := hd
                have hcall := pm_done' hA (q : Int) q (by omega) (by decide) (by omega) 0 (by unfold St.err; rw [sk_len, if_pos hlt]) _ (sk_done hlt hu)
                rw [hu] at Hany
                rw [hu, hd] at Hall
                clear hA hu hd
                go_wp2_with (go_at_call 12; refine hcall.mono ?_; rintro e w4 ⟨rfl, hA2, ho2⟩)
                go_roundw
                case rel => exact ⟨q + 1, by omega, by go_num, by rw [Hall.out]; simp, by rw [Hany.out]; simp, hA2, ho.trans ho2⟩
                case measure => simp [intOf]; omega
              · have hu' : (bits BinOp.and IntKind.u8 (c0 / 2 ^ q) 1 == 1) = true := hu
                have hd' : (bits BinOp.and IntKind.u8 (c1 / 2 ^ q) 1 == 1) = false := hd
                have hcall := pm_up' hA z1 (by omega) (by omega) (q : Int) q (by omega) (by decide) (by omega) 0 (by unfold St.err; rw [sk_len, if_pos hlt]) _ ((sk_up hlt).trans (su_next hu hd))
                rw [hu] at Hany
                rw [hu, hd] at Hall
                clear hA hu hd
                cases A
                all_goals
                  go_wp2_with (go_at_call 10; refine hcall.mono ?_; rintro e w4 ⟨rfl, hA2, ho2⟩)
                  go_roundw
                  case rel => exact ⟨q + 1, by omega, by go_num, by rw [Hall.out]; simp, by rw [Hany.out]; simp, hA2, ho.trans ho2⟩
                  case measure => simp [intOf]; omega
              · have hu' : (bits BinOp.and IntKind.u8 (c0 / 2 ^ q) 1 == 1) = true := hu
                have hd' : (bits BinOp.and IntKind.u8 (c1 / 2 ^ q) 1 == 1) = true := hd
                have hcall := pm_up' hA z1 (by omega) (by omega) (q : Int) q (by omega) (by decide) (by omega) 0 (by unfold St.err; rw [sk_len, if_pos hlt]) _ (sk_up hlt)
                have Hdone := Lib.hid (fun (wx : World) (hx : Pm wx ma la 0 (su j z0 z1 (mbit c0) (mbit c1) q)) => pm_done' hx (q : Int) q (by omega) (by decide) (by omega) 0 (by unfold St.err su; simp [hlt]) _ (su_done hlt hu hd))
                rw [hu] at Hany
                rw [hu, hd] at Hall
                clear hA hu hd
                cases A
                all_goals
                  go_wp2_with fail
                  refine hcall.mono ?_
                  rintro e w4 ⟨rfl, hA2, ho2⟩
                  have hc4 := ho2.cell hc (by simp; omega)
                  have hb4 := ho2.cell hb1 (by simp; omega)
                  have hcall2 := Hdone.out w4 hA2
                  have ho4 := ho.trans ho2
                  clear hcall hc hb0 hb1 hA2 ho ho2
                  go_wp2_with fail
                  refine hcall2.mono ?_
                  rintro e w5 ⟨rfl, hA3, ho3⟩
                  clear hcall2
                  go_wp2_with fail
                  go_roundw
                  case rel => exact ⟨q + 1, by omega, by go_num, by rw [Hall.out]; simp, by rw [Hany.out]; simp, hA3, ho4.trans ho3⟩
                  case measure => simp [intOf]; omega
            · have hqj : q = j := by omega
              subst hqj
              have hO5 := hO4.andThen ho (fun i hi h => by omega)
              have Hdue := Lib.hid (due_small hz0 hz0' hz1 hz1')
              clear hO4 ho HB3 HC3 Hall Hany
              have hLv := lives_any
              by_cases hany : (List.range q).any (mbit c0) = false
              · obtain ⟨he, ht, hs1⟩ := sk_idle (base := z0) (start := z1) (d := mbit c1) hany (z1 + z0)
                have hst := pm_state' hA 1 hs1
                have htk := pm_tick' hA (z1 + z0) false he _ ht
                clear hA he ht hs1
                go_wp2_with (first
                  | (go_at_call 9; refine hst.mono ?_; rintro e w' ⟨rfl, rfl⟩)
                  | (go_at_call 13; refine htk.mono ?_; rintro e w6 ⟨rfl, _, ho6⟩)
                  | (go_at_call 7; refine (hLv _).mono ?_; rintro e w7 ⟨rfl, ho7⟩))
                go_ret
                exact ⟨rfl, (hO5.andThen ho6 (fun i hi h => by omega)).trans ho7⟩
              · have hany' : (List.range q).any (mbit c0) = true := by simpa using hany
                clear hany
                obtain ⟨he, hs2⟩ := sk_ends (base := z0) (start := z1) (d := mbit c1) hany' z1
                have hE := fun now => (sk_ends (base := z0) (start := z1) (d := mbit c1) hany' now).1
                rw [Hdue.out] at he
                simp only [Hdue.out] at hE
                have HE := Lib.hid hE
                clear hE
                generalize sk q z0 z1 (mbit c0) (mbit c1) q = s at *
                generalize hallx : ((List.range q).all fun i => !mbit c0 i || mbit c1 i) = A at *
                clear hallx
                have hst := pm_state' hA 2 hs2
                by_cases hx : A = true ∨ z0 = 0
                · have he1 : s.ends z1 = true := by
                    rw [he]
                    rcases hx with rfl | h0
                    · rfl
                    · rw [h0]; simp
                  have htk := pm_tick' hA z1 true he1 _ rfl
                  have hs0 := tick_st he1
                  have hst2 := fun (wx : World) (hx : Pm wx ma la 0 (s.tick z1)) => pm_state' hx 0 hs0
                  have Hst2 := Lib.hid hst2
                  clear hA he hs2 hs0 hst2 he1
                  rcases hx with rfl | hz
                  · go_wp2_with fail
                    refine hst.mono ?_
                    rintro e w' ⟨rfl, rfl⟩
                    go_wp2_with fail
                    refine htk.mono ?_
                    rintro e w6 ⟨rfl, hA6, ho6⟩
                    have hst3 := Hst2.out _ hA6
                    clear hst htk hA6
                    go_wp2_with fail
                    refine hst3.mono ?_
                    rintro e w' ⟨rfl, rfl⟩
                    go_wp2_with fail
                    refine (hLv _).mono ?_
                    rintro e w7 ⟨rfl, ho7⟩
                    go_wp2_with fail
                    go_ret
                    exact ⟨rfl, (hO5.andThen ho6 (fun i hi h => by omega)).trans ho7⟩
                  · subst hz
                    cases A
                    all_goals
                      go_wp2_with fail
                      refine hst.mono ?_
                      rintro e w' ⟨rfl, rfl⟩
                      go_wp2_with fail
                      refine htk.mono ?_
                      rintro e w6 ⟨rfl, hA6, ho6⟩
                      have hst3 := Hst2.out _ hA6
                      clear hst htk hA6
                      go_wp2_with fail
                      refine hst3.mono ?_
                      rintro e w' ⟨rfl, rfl⟩
                      go_wp2_with fail
                      refine (hLv _).mono ?_
                      rintro e w7 ⟨rfl, ho7⟩
                      go_wp2_with fail
                      go_ret
                      exact ⟨rfl, (hO5.andThen ho6 (fun i hi h => by omega)).trans ho7⟩
                · have hA0 : A = false := by cases A <;> simp_all
                  have hz : ¬ z0 = 0 := fun h => hx (Or.inr h)
                  have hzb : (z0 == 0) = false := by simpa using hz
                  clear hx
                  subst hA0
                  have e1 : s.ends z1 = false := by rw [HE.out]; simp; omega
                  have e2 : s.ends (z1 + z0 - 1) = false := by rw [HE.out]; simp; omega
                  have e3 : s.ends (z1 + z0) = true := by rw [HE.out]; simp
                  have htk1 := pm_tick' hA z1 false e1 _ (tick_same e1)
                  have Ht2 := Lib.hid (fun (wx : World) (hx : Pm wx ma la 0 s) => pm_tick' hx (z1 + z0 - 1) false e2 _ (tick_same e2))
                  have Hs2 := Lib.hid (fun (wx : World) (hx : Pm wx ma la 0 s) => pm_state' hx 2 hs2)
                  have Ht3 := Lib.hid (fun (wx : World) (hx : Pm wx ma la 0 s) => pm_tick' hx (z1 + z0) true e3 _ rfl)
                  have Hs3 := Lib.hid (fun (wx : World) (hx : Pm wx ma la 0 (s.tick (z1 + z0))) => pm_state' hx 0 (tick_st e3))
                  clear hA he hs2 e1 e2 e3 HE
                  go_wp2_with fail
                  refine hst.mono ?_
                  rintro e w' ⟨rfl, rfl⟩
                  go_wp2_with fail
                  refine htk1.mono ?_
                  rintro e w6 ⟨rfl, hA6, ho6⟩
                  have hO6 := hO5.andThen ho6 (fun i hi h => by omega)
                  have hn := Ht2.out _ hA6
                  clear hst htk1 hA6 hO5 ho6
                  go_wp2_with fail
                  refine hn.mono ?_
                  rintro e w7 ⟨rfl, hA7, ho7⟩
                  have hO7 := hO6.andThen ho7 (fun i hi h => by omega)
                  have hn7 := Hs2.out _ hA7
                  clear hn hO6 ho7
                  go_wp2_with fail
                  refine hn7.mono ?_
                  rintro e w' ⟨rfl, rfl⟩
                  have hn8 := Ht3.out _ hA7
                  clear hn7 hA7
                  go_wp2_with fail
                  refine hn8.mono ?_
                  rintro e w9 ⟨rfl, hA9, ho9⟩
                  have hO9 := hO7.andThen ho9 (fun i hi h => by omega)
                  have hn9 := Hs3.out _ hA9
                  clear hn8 hA9 hO7 ho9
                  go_wp2_with fail
                  refine hn9.mono ?_
                  rintro e w' ⟨rfl, rfl⟩
                  go_wp2_with fail
                  refine (hLv _).mono ?_
                  rintro e wl ⟨rfl, hol⟩
                  go_wp2_with fail
                  go_ret
                  exact ⟨rfl, hO9.trans hol⟩

end Go.Proofs.Ytofdmfibffcojaa
