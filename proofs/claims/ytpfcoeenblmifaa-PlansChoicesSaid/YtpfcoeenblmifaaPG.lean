/-
  Plans: the sort of a few codes.
-/
import Derived.Test.YtpfcoeenblmifaaPC
import Derived.Test.YtpfcoeenblmifaaRow
import Derived.Deep.QuietTactic
import Derived.Deep.Draws
namespace Go.Proofs.Ytpfcoeenblmifaa
open Go.RowKit Go.PC

theorem less_point (x y : Int) (w : World) : Calls Try.prog 68 #[.int .u16 x, .int .u16 y] w fun e w' => e = .returned (.bool (decide (x < y))) ∧ w = w' := by
  have h1 := isNaN_point x w
  have h2 := isNaN_point y w
  go_enter Try.func68, Try.ntmps68
  go_wp2_with fail
  refine h1.mono ?_
  rintro e w1 ⟨rfl, rfl⟩
  go_wp2_with fail
  go_ret
  exact ⟨rfl, rfl⟩

abbrev pts (xs : List Int) : List Value := xs.map (Value.int .u16)

theorem pts_at {xs : List Int} {i : Nat} {x : Int} (h : xs[i]? = some x) : (pts xs)[i]? = some (.int .u16 x) := by simp [pts, h]

set_option maxHeartbeats 4000000 in
set_option maxRecDepth 100000 in
theorem insertion_points (g N : Nat) (xs : List Int) (cap : Nat) (w : World) (hr : Row w g 34 N (pts xs)) (hl : xs.length ≤ 1000) :
    Calls Try.prog 62 #[.slice (some ⟨g, 0, none⟩) xs.length cap, .int .i64 0, .int .i64 xs.length] w fun e w' =>
      e = .returned (.tuple #[]) ∧ Only (fun i => i = g) w w' ∧ ∃ ys, SortedBy id (fun _ _ => True) xs ys ∧ Row w' g 34 N (pts ys) := by
  have HR := Lib.hid hr
  have HT := Lib.hid (p := xs.Pairwise (fun _ _ => True)) (List.pairwise_iff_getElem.2 fun _ _ _ _ _ => trivial)
  clear hr
  by_cases hne : xs = []
  · subst hne
    go_enter Try.func62, Try.ntmps62
    go_wp2
    go_rounds 1
    all_goals (go_end0; exact ⟨rfl, Only.refl _ _, [], ⟨List.Perm.refl _, List.Pairwise.nil⟩, HR.out⟩)
  have HI := Lib.hid (Ins.start (key := id) (R := fun _ _ => True) hne)
  have hpos : 0 < xs.length := List.length_pos_iff.2 hne
  clear hne
  go_enter Try.func62, Try.ntmps62
  go_wp2
  go_loopw [6] (fun v wr => ∃ (i : Nat) (ys : List Int), v = .int .i64 i ∧ 1 ≤ i ∧ i ≤ xs.length ∧ Only (fun i => i = g) w wr ∧ Hid (Row wr g 34 N (pts ys)) ∧ Hid (Ins id (fun _ _ => True) xs i ys))
    (fun v _ => xs.length - (intOf v).toNat)
  case atStart => exact ⟨1, xs, rfl, Nat.le_refl _, hpos, Only.refl _ _, HR, HI⟩
  case round =>
    clear HR HI
    obtain ⟨i, ys, rfl, hi1, hin, ho, HRow, HI⟩ := hrel
    by_cases hlt : i < xs.length
    · have hlt' : (i : Int) < (xs.length : Int) := by omega
      have HD := Lib.hid (HI.out.down hlt)
      clear HI
      go_wp2_with fail
      go_loopw [7] (fun v wr2 => ∃ (j : Nat) (zs : List Int), v = .int .i64 j ∧ j ≤ i ∧ Only (fun i => i = g) w wr2 ∧ Hid (Row wr2 g 34 N (pts zs)) ∧ Hid (InsI id (fun _ _ => True) xs i j zs))
        (fun v _ => (intOf v).toNat)
      case atStart => exact ⟨i, ys, rfl, Nat.le_refl _, ho, HRow, HD⟩
      case round =>
        clear ho HRow HD
        obtain ⟨j, zs, rfl, hji, ho, HRow, HI⟩ := hrel
        obtain ⟨wo, hwo⟩ : ∃ wo : World, wo = wr := ⟨_, rfl⟩
        rw [← hwo] at ho HRow ⊢
        clear hwo wr
        by_cases hj0 : j = 0
        · subst hj0
          have HO := Lib.hid (HI.out.stop HT.out (Or.inl rfl))
          clear HI
          go_wp2_with fail
          go_quiet (fail)
          go_wp2_with fail
          go_roundw
          case rel => exact ⟨i + 1, zs, by go_num, by omega, by omega, ⟨ho.os, ho.tape, ho.output, ho.size, ho.block⟩, HRow, HO⟩
          case measure => simp [intOf]; omega
        · obtain ⟨k, hk⟩ : ∃ k, j = k + 1 := ⟨j - 1, by omega⟩
          rw [hk] at HI
          obtain ⟨x, y, hx, hy⟩ := HI.out.two
          have c0 : wo.cell? ⟨g, j, none⟩ = some (.int .u16 x) := by rw [hk]; exact HRow.out.cell (pts_at hx)
          have c1 : wo.cell? ⟨g, j - 1, none⟩ = some (.int .u16 y) := by rw [hk]; exact HRow.out.cell (pts_at hy)
          have f0 := HRow.out.frozen j
          have f1 := HRow.out.frozen (j - 1)
          have hg : decide (0 < j) = true := by simp; omega
          have hjx : (j : Int) < (xs.length : Int) := by omega
          have hi0 : (0 : Int) ≤ (j : Int) - 1 := by omega
          have hi1 : (j : Int) - 1 < (xs.length : Int) := by omega
          have hl1 := less_point x y
          have HX := Lib.hid hx
          have HY := Lib.hid hy
          have HK := Lib.hid hk
          clear hx hy hk
          by_cases hxy : x < y
          · rw [show decide (x < y) = true by simpa using hxy] at hl1
            have HN := Lib.hid (HI.out.go HX.out HY.out hxy)
            clear HI hxy
            go_wp2_with fail
            go_quiet (first | (go_at_call 68; refine Calls.quiet_of_same ((hl1 _).mono fun _ _ ⟨h1, h2⟩ => ⟨h1, h2.symm⟩)))
            go_wp2_with fail
            go_region
            all_goals go_wp2_with fail
            have e1 : j - 1 = k := by have := HK.out; omega
            have HR2 := Lib.hid (((HRow.out.of_block (w' := wo.drewN (nq + 1)) rfl).set j (.int .u16 y)).set (j - 1) (.int .u16 x))
            refine ⟨⟨k, (zs.set (k + 1) y).set k x, by have := HK.out; go_num, by omega, ?_, ?_, HN⟩, ?_⟩
            · exact Only.setCell (p := ⟨g, j - 1, none⟩) (Only.setCell (p := ⟨g, j, none⟩) (b := wo.drewN (nq + 1)) ⟨ho.os, ho.tape, ho.output, ho.size, ho.block⟩ _ (fun _ => rfl)) _ (fun _ => rfl)
            · refine Lib.hid ?_
              have h := HR2.out
              rw [e1, HK.out] at h ⊢
              simpa [pts, List.map_set] using h
            · simp [intOf]; omega
          · rw [show decide (x < y) = false by simpa using hxy] at hl1
            have HO := Lib.hid (HI.out.stop HT.out (Or.inr ⟨x, y, HX.out, HY.out, hxy⟩))
            clear HI hxy
            go_wp2_with fail
            go_quiet (first | (go_at_call 68; refine Calls.quiet_of_same ((hl1 _).mono fun _ _ ⟨h1, h2⟩ => ⟨h1, h2.symm⟩)))
            go_wp2_with fail
            go_roundw
            case rel => exact ⟨i + 1, zs, by go_num, by omega, by omega, ⟨ho.os, ho.tape, ho.output, ho.size, ho.block⟩, HRow, HO⟩
            case measure => simp [intOf]; omega
    · go_wp2_with fail
      have HS := Lib.hid (HI.out.sorted (by omega))
      go_end0
      exact ⟨rfl, ho, ys, HS.out, HRow.out⟩

end Go.Proofs.Ytpfcoeenblmifaa
