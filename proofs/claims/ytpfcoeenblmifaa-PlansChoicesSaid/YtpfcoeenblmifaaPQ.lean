/-
  Plans: heights: the walk.
-/
import Derived.Test.YtpfcoeenblmifaaPP
namespace Go.Proofs.Ytpfcoeenblmifaa
open Go.RowKit Go.PC

set_option maxHeartbeats 4000000 in
set_option maxRecDepth 100000 in
theorem heights_ok (G : Nat) (d : List Int) (n cap N : Nat) (hn : d.length = n) (hn1 : 1 ≤ n) (hn12 : n ≤ 12) (w : World) (hr : Row w G 3 N (its d)) (hne : ways d ≠ []) :
    Calls Try.prog 27 #[.slice (some ⟨G, 0, none⟩) n cap] w fun e w' =>
      Only (fun _ => False) w w' ∧ ∃ g h, e = .returned (.slice (some ⟨g, 0, none⟩) n n) ∧ w.heap.size ≤ g ∧ Row w' g 3 n (its h) ∧ Hts d h := by
  have HR := Lib.hid hr
  have hO0 := (Only.refl (fun _ => False) w).alloc (.cells #[.slice (some ⟨G, 0, none⟩) n cap] 37)
  have hc0 : (w.alloc (.cells #[.slice (some ⟨G, 0, none⟩) n cap] 37)).cell? ⟨w.heap.size, 0, none⟩ = some (.slice (some ⟨G, 0, none⟩) n cap) := World.cell?_alloc_new w #[.slice (some ⟨G, 0, none⟩) n cap] 37 0
  have hsz : (w.alloc (.cells #[.slice (some ⟨G, 0, none⟩) n cap] 37)).heap.size = w.heap.size + 1 := by simp
  have hGw := hr.lt
  obtain ⟨i0, hi, hz0i, hz1i, hz2i⟩ := info_parts infoInt
  clear hr
  go_enter Try.func27, Try.ntmps27
  go_wp2_with fail
  generalize w.alloc (.cells #[.slice (some ⟨G, 0, none⟩) n cap] 37) = w0 at *
  obtain ⟨B, hB⟩ : ∃ B, w.heap.size = B := ⟨_, rfl⟩
  rw [hB] at hc0 hsz hGw
  simp only [hB]
  have HB := Lib.hid hB
  have HS0 := Lib.hid hsz
  clear hB hsz
  go_loopw [3, 11] (fun v i wr => ∃ (k m : Nat), k ≤ n ∧ i = .int .i64 k ∧ m ≤ k ∧ Hid (wr.ownsRow w0.heap.size 3 1 v m (its (nats ((List.range k).filter fun i => decide (0 ≤ o d i))))) ∧ Only (fun _ => False) w0 wr)
    (fun _ i _ => n - (intOf i).toNat)
  case atStart => exact ⟨0, 0, Nat.zero_le _, rfl, Nat.le_refl _, Lib.hid (World.ownsRow_nil _ _ _ _), Only.refl _ _⟩
  case round =>
    obtain ⟨k, m, hk, rfl, hmk, HOwn, ho⟩ := hrel
    have hsz := ho.size
    by_cases hlt : k < n
    · have hlt' : (k : Int) < (n : Int) := by omega
      have hck := (hO0.trans ho).cell (HR.out.cell (its_at (o_get (out := d) (i := k) (by omega)))) (by simp)
      have HW := Lib.hid (ways_step (d := d) (k := k))
      obtain ⟨v, hv⟩ : ∃ v, o d k = v := ⟨_, rfl⟩
      rw [hv] at hck HW
      by_cases hneg : v < 0
      · have hW : ((List.range (k + 1)).filter fun i => decide (0 ≤ o d i)) = ((List.range k).filter fun i => decide (0 ≤ o d i)) := by rw [HW.out, if_neg (by omega), List.append_nil]
        have HW2 := Lib.hid hW
        have hnn : ¬ 0 ≤ v := by omega
        clear hW HW hv
        go_wp2_with fail
        go_roundw
        case rel => exact ⟨k + 1, m, hlt, by go_num, by omega, Lib.hid (by rw [HW2.out]; exact HOwn.out), ho⟩
        case measure => simp [intOf]; omega
      · have hnn : 0 ≤ v := by omega
        have hW : ((List.range (k + 1)).filter fun i => decide (0 ≤ o d i)) = ((List.range k).filter fun i => decide (0 ≤ o d i)) ++ [k] := by rw [HW.out, if_pos hnn]
        have HW2 := Lib.hid hW
        have hown := HOwn.out
        clear hW HW hv HOwn
        go_wp2_with (first
          | (at_builtin; refine wpList_append_own _ rfl _ _ 37 rfl w0.heap.size 3 i0 (.int .i64 0) 1 8 Try.underlying37 hi hz0i hz1i hz2i rfl (by decide) _ _ _ rfl (hown.alloc _) ⟨wr.heap.size, 0, none⟩ 1 1 [.int .i64 k] rfl rfl (cell_one_new _ _ _) (ints_oneCell .i64 [(k : Int)]) (by unfold maxLen; omega) (by omega) (by simp; omega) ?_; intro v' w3 hown' hgrow _)
          | fail)
        go_roundw
        case rel =>
          refine ⟨k + 1, m + 1, hlt, by go_num, by omega, Lib.hid (by rw [HW2.out]; simpa [its, nats] using hown'), (ho.alloc _).andThen (Only.of_grownBy hgrow) ?_⟩
          intro i hi h
          have := (hown.lt i h.symm).1
          omega
        case measure => simp [intOf]; omega
    · have hkn : k = n := by omega
      subst hkn
      have hway : ((List.range k).filter fun i => decide (0 ≤ o d i)) = ways d := by unfold ways; rw [hn]
      rw [hway] at HOwn
      clear hway
      have hwl : (ways d).length ≤ k := by
        have h1 : (ways d).length ≤ (List.range d.length).length := List.length_filter_le _ _
        simpa [hn] using h1
      have hown := HOwn.out
      have hm : m = (ways d).length := by have := hown.1; simp [its, nats] at this; omega
      subst hm
      obtain ⟨g, cp, hu3, hbg, hrow⟩ : ∃ g cp, u3 = .slice (some ⟨g, 0, none⟩) (ways d).length cp ∧ w0.heap.size ≤ g ∧ Row wr g 3 cp (its (nats (ways d))) := by
        rcases hown.2 with ⟨_, h0⟩ | ⟨g, cp, cur, h1, h2, h3, h4, h5, h6, h7⟩
        · exact absurd (List.eq_nil_of_length_eq_zero h0) hne
        · exact ⟨g, cp, h1, h2, cur, h3, by omega, by rw [show (its (nats (ways d))).length = (ways d).length by simp [its, nats]]; simpa using h7⟩
      subst hu3
      have hb1 := HS0.out
      have hb2 := HB.out
      have hcl : ∀ wx, Only (fun i => i = g) wr wx → ∀ a ∈ ways d, ∀ b ∈ ways d, ∀ q, Calls Try.prog 38 (#[.int .i64 a, .int .i64 b] ++ #[.pointer (some ⟨B, 0, none⟩)]) (wx.drewN q) fun e w' => e = .returned (.int .i64 (cmpI (o d a) (o d b))) ∧ ∃ m, w' = wx.drewN m :=
        fun wx hx a ha b hb q => heights1_any B G k cap d a b wx (hx.cell (ho.cell hc0 (by simp)) (by simp only; omega)) N ((HR.out.only (hO0.trans ho) (by simp)).only hx (by omega)) hn (by have := (ways_mem.1 ha).1; omega) (by have := (ways_mem.1 hb).1; omega) q
      have hsort := sort_ints (o d) (fun x y => x < y) #[.pointer (some ⟨B, 0, none⟩)] g cp (ways d) cp wr hrow (by omega) (ways_asc d) hcl
      have HSort := Lib.hid hsort
      have HHO := Lib.hid (And.intro ho hO0)
      have HBG := Lib.hid (And.intro hbg (And.intro hb1 (And.intro hb2 hGw)))
      have HC0 := Lib.hid hc0
      have HNE := Lib.hid hne
      clear hown HOwn hrow hcl hsort ho hO0 hbg hb1 hb2 hGw hc0 hsz hne
      go_wp2_with fail
      refine HSort.out.mono ?_
      rintro e w5 ⟨rfl, ho5, ys, hys, hrow5⟩
      have hys1 := hys.length
      have hO5 : Only (fun _ => False) w0 w5 := HHO.out.1.andThen ho5 (fun i hi h => by have := HBG.out.1; omega)
      have hc5 : w5.cell? ⟨B, 0, none⟩ = some (.slice (some ⟨G, 0, none⟩) k cap) := hO5.cell HC0.out (by simp)
      have HRow5 := Lib.hid hrow5
      have HYs := Lib.hid hys
      have hrep := repeat_small w5.heap.size k hn1 hn12 (-1) (w5.alloc (.cells #[.int .i64 (-1)] 3)) (World.cell?_alloc_new w5 #[.int .i64 (-1)] 3 0)
      have HRep := Lib.hid hrep
      have hbB : B < w5.heap.size := lt_of_cell hc5
      clear hrep hys hrow5 ho5 HSort
      go_wp2_with fail
      refine HRep.out.mono ?_
      rintro e w6 ⟨rfl, ho6, hrow6⟩
      have hO6 := (hO5.alloc (.cells #[.int .i64 (-1)] 3)).trans ho6
      have hgs : (w5.alloc (.cells #[.int .i64 (-1)] 3)).heap.size = w5.heap.size + 1 := by simp
      rw [hgs] at hrow6
      simp only [hgs]
      have hgl := HRow5.out.lt
      have HRow6 := Lib.hid (HRow5.out.only (((Only.refl (fun _ => False) w5).alloc (.cells #[.int .i64 (-1)] 3)).trans ho6) (by simp))
      have hsz5 := hO5.size
      obtain ⟨G2, hG2⟩ : ∃ G2, w5.heap.size + 1 = G2 := ⟨_, rfl⟩
      rw [hG2] at hrow6
      simp only [hG2]
      have HOut6 := Lib.hid hrow6
      have hgG2 : g ≠ G2 := by omega
      have hG2w : w0.heap.size ≤ G2 := by omega
      clear hrow6 hgs ho6 hc5 hbB HRep HRow5 hO5 hsz5 hgl
      rw [← hys1]
      have hyl : ys.length ≤ 12 := by omega
      clear hys1 hwl
      go_wp2_with fail
      go_loopw [32] (fun v wr2 => ∃ j : Nat, j ≤ ys.length ∧ v = .int .i64 j ∧ Only (fun _ => False) w0 wr2 ∧ Hid (Row wr2 G2 3 k (its (hts k ys j))) ∧ Hid (Row wr2 g 3 cp (its (nats ys)))) (fun v _ => ys.length - (intOf v).toNat)
      case atStart => exact ⟨0, Nat.zero_le _, rfl, hO6, HOut6, HRow6⟩
      case round =>
        clear hO6 HOut6 HRow6
        obtain ⟨j, hj, rfl, ho, HOut, HRow⟩ := hrel
        obtain ⟨wo, hwo⟩ : ∃ wo : World, wo = wr := ⟨_, rfl⟩
        rw [← hwo] at ho HOut HRow ⊢
        clear hwo wr
        by_cases hjl : j < ys.length
        · have hjl' : (j : Int) < (ys.length : Int) := by omega
          obtain ⟨x, hx⟩ : ∃ x, ys[j]? = some x := ⟨_, List.getElem?_eq_getElem hjl⟩
          have c0 := HRow.out.cell (itn_at hx)
          have hxm := List.mem_of_getElem? hx
          have hxk : x < k := by have := (ways_mem.1 (HYs.out.1.subset hxm)).1; omega
          have hxk' : (x : Int) < (k : Int) := by omega
          have hxl : x < (hts k ys j).length := by rw [hts_len]; exact hxk
          have c1 := HOut.out.cell (its_at (o_get hxl))
          have f1 := HOut.out.frozen x
          have HS : Hid (hts k ys (j + 1) = (hts k ys j).set x j) := Lib.hid (by rw [hts, List.getD_eq_getElem?_getD, hx]; rfl)
          have HOut2 := Lib.hid (p := Row (wo.setCell ⟨G2, x, none⟩ (.int .i64 j)) G2 3 k (its (hts k ys (j + 1)))) (by
            have := HOut.out.set x (.int .i64 j)
            rw [HS.out]
            simpa [its, List.map_set] using this)
          have hO2 : Only (fun i => i = G2) wo (wo.setCell ⟨G2, x, none⟩ (.int .i64 j)) := (Only.refl _ _).setCell (p := ⟨G2, x, none⟩) _ (fun _ => rfl)
          have HRow2 := Lib.hid (HRow.out.only hO2 hgG2)
          have hN2 : Only (fun _ => False) w0 (wo.setCell ⟨G2, x, none⟩ (.int .i64 j)) := ho.andThen hO2 (fun i hi h => by omega)
          obtain ⟨vx, hvx⟩ : ∃ vx, o (hts k ys j) x = vx := ⟨_, rfl⟩
          rw [hvx] at c1
          clear hx hxm hxl hvx ho HOut HRow hO2
          go_wp2_with fail
          go_roundw
          case rel => exact ⟨j + 1, hjl, by go_num, hN2, HOut2, HRow2⟩
          case measure => simp [intOf]; omega
        · have hje : j = ys.length := by omega
          subst hje
          have HH := Lib.hid (hts_ok HYs.out)
          rw [hn] at HH
          go_wp2_with fail
          go_ret
          exact ⟨HHO.out.2.trans ho, G2, _, rfl, by have := HBG.out; omega, HOut.out, HH.out⟩

end Go.Proofs.Ytpfcoeenblmifaa
