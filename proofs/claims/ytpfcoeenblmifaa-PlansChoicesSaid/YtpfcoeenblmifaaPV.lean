/-
  Plans: Choices: insertion.
-/
import Derived.Test.YtpfcoeenblmifaaPU
namespace Go.Proofs.Ytpfcoeenblmifaa
open Go.RowKit Go.PC

set_option maxHeartbeats 4000000 in
set_option maxRecDepth 100000 in
theorem insertion_choices (R : Int × Int → Int × Int → Prop) (g N : Nat) (xs : List (Int × Int)) (cap : Nat) (w : World) (hr : Row w g 49 N (chs xs)) (hl : xs.length ≤ 1000) (hR : xs.Pairwise R) :
    Calls Try.prog 55 #[.slice (some ⟨g, 0, none⟩) xs.length cap, .int .i64 0, .int .i64 xs.length, .func (.func 31) #[] #[]] w fun e w' =>
      e = .returned (.tuple #[]) ∧ Only (fun i => i = g) w w' ∧ ∃ ys, SortedBy Prod.snd R xs ys ∧ Row w' g 49 N (chs ys) := by
  have HR := Lib.hid hr
  have HT := Lib.hid hR
  clear hr hR
  by_cases hne : xs = []
  · subst hne
    go_enter Try.func55, Try.ntmps55
    go_wp2
    go_rounds 1
    all_goals (go_end0; exact ⟨rfl, Only.refl _ _, [], ⟨List.Perm.refl _, List.Pairwise.nil⟩, HR.out⟩)
  have HI := Lib.hid (Ins.start (key := Prod.snd) (R := R) hne)
  have hpos : 0 < xs.length := List.length_pos_iff.2 hne
  clear hne
  go_enter Try.func55, Try.ntmps55
  go_wp2
  go_loopw [8] (fun v wr => ∃ (i : Nat) (ys : List (Int × Int)), v = .int .i64 i ∧ 1 ≤ i ∧ i ≤ xs.length ∧ Only (fun i => i = g) w wr ∧ Hid (Row wr g 49 N (chs ys)) ∧ Hid (Ins Prod.snd R xs i ys))
    (fun v _ => xs.length - (intOf v).toNat)
  case atStart => exact ⟨1, xs, rfl, Nat.le_refl _, hpos, Only.refl _ _, HR, HI⟩
  case round =>
    clear HR HI
    obtain ⟨i, ys, rfl, hi1, hin, ho, HRow, HI⟩ := hrel
    by_cases hlt : i < xs.length
    · have hlt' : (i : Int) < (xs.length : Int) := by omega
      have HD := Lib.hid (HI.out.down hlt)
      clear HI
      go_wp2_with fail
      go_loopw [9] (fun v wr2 => ∃ (j : Nat) (zs : List (Int × Int)), v = .int .i64 j ∧ j ≤ i ∧ Only (fun i => i = g) w wr2 ∧ Hid (Row wr2 g 49 N (chs zs)) ∧ Hid (InsI Prod.snd R xs i j zs))
        (fun v _ => (intOf v).toNat)
      case atStart => exact ⟨i, ys, rfl, Nat.le_refl _, ho, HRow, HD⟩
      case round =>
        clear ho HRow HD
        obtain ⟨j, zs, rfl, hji, ho, HRow, HI⟩ := hrel
        obtain ⟨wo, hwo⟩ : ∃ wo : World, wo = wr := ⟨_, rfl⟩
        rw [← hwo] at ho HRow ⊢
        clear hwo wr
        by_cases hj0 : j = 0
        · subst hj0
          have HO := Lib.hid (HI.out.stop HT.out (Or.inl rfl))
          clear HI
          go_wp2_with fail
          go_quiet (fail)
          go_wp2_with fail
          go_roundw
          case rel => exact ⟨i + 1, zs, by go_num, by omega, by omega, ⟨ho.os, ho.tape, ho.output, ho.size, ho.block⟩, HRow, HO⟩
          case measure => simp [intOf]; omega
        · obtain ⟨k, hk⟩ : ∃ k, j = k + 1 := ⟨j - 1, by omega⟩
          rw [hk] at HI
          obtain ⟨⟨xa, xr⟩, ⟨ya, yr⟩, hx, hy⟩ := HI.out.two
          have c0 : wo.cell? ⟨g, j * 2, none⟩ = some (.int .u16 xa) := by rw [hk]; exact HRow.out.cell (chs_at hx).1
          have c1 : wo.cell? ⟨g, j * 2 + 1, none⟩ = some (.int .i64 xr) := by rw [hk]; exact HRow.out.cell (chs_at hx).2
          have d0 : wo.cell? ⟨g, (j - 1) * 2, none⟩ = some (.int .u16 ya) := by rw [hk]; exact HRow.out.cell (chs_at hy).1
          have d1 : wo.cell? ⟨g, (j - 1) * 2 + 1, none⟩ = some (.int .i64 yr) := by rw [hk]; exact HRow.out.cell (chs_at hy).2
          have f0 := HRow.out.frozen (j * 2)
          have f1 := HRow.out.frozen (j * 2 + 1)
          have f2 := HRow.out.frozen ((j - 1) * 2)
          have f3 := HRow.out.frozen ((j - 1) * 2 + 1)
          have hg : decide (0 < j) = true := by simp; omega
          have hjx : (j : Int) < (xs.length : Int) := by omega
          have hi0 : (0 : Int) ≤ (j : Int) - 1 := by omega
          have hi2 : (1 : Int) ≤ (j : Int) := by omega
          have hi1 : (j : Int) - 1 < (xs.length : Int) := by omega
          have hw1 : IntKind.i64.wrap ((j : Int) - 1) = (j : Int) - 1 := IntWalk.i64_in _ (by omega)
          have hw2 : ((j : Int) - 1).toNat = j - 1 := by omega
          have hl1 := Choices1_any xa ya xr yr
          have HX := Lib.hid hx
          have HY := Lib.hid hy
          have HK := Lib.hid hk
          clear hx hy hk
          by_cases hxy : xr < yr
          · rw [show cmpI xr yr = -1 from if_pos hxy] at hl1
            have HL := Lib.hid hl1
            have HN := Lib.hid (HI.out.go HX.out HY.out hxy)
            clear HI hxy hl1
            go_wp2_with fail
            go_still_tail 14, (by kernel_rfl)
            change wpList _ _ _ _ _ wo.drew
            have hOd : Only (fun _ => False) wo wo.drew := (Only.refl _ wo).drew
            clear hw1 hw2 hi2 c0 c1 d0 d1 f0 f1 f2 f3
            generalize wo.drew = w5 at *
            go_wp2_with fail
            refine (HL.out _).mono ?_
            rintro e w6 ⟨rfl, ho6⟩
            have hO6 := hOd.trans ho6
            have hR6 := HRow.out.only hO6 (by simp)
            have hoN : Only (fun i => i = g) w w6 := ho.andThen hO6 (fun _ _ h => h.elim)
            have c0 : w6.cell? ⟨g, j * 2, none⟩ = some (.int .u16 xa) := by rw [HK.out]; exact hR6.cell (chs_at HX.out).1
            have c1 : w6.cell? ⟨g, j * 2 + 1, none⟩ = some (.int .i64 xr) := by rw [HK.out]; exact hR6.cell (chs_at HX.out).2
            have d0 : w6.cell? ⟨g, (j - 1) * 2, none⟩ = some (.int .u16 ya) := by rw [HK.out]; exact hR6.cell (chs_at HY.out).1
            have d1 : w6.cell? ⟨g, (j - 1) * 2 + 1, none⟩ = some (.int .i64 yr) := by rw [HK.out]; exact hR6.cell (chs_at HY.out).2
            have f0 := hR6.frozen (j * 2)
            have f1 := hR6.frozen (j * 2 + 1)
            have f2 := hR6.frozen ((j - 1) * 2)
            have f3 := hR6.frozen ((j - 1) * 2 + 1)
            have HR6 := Lib.hid hR6
            clear hR6 hO6 ho6 hOd HL HRow ho
            go_wp2_with fail
            go_region
            all_goals go_wp2_with fail
            have e1 : j - 1 = k := by have := HK.out; omega
            have HR2 := Lib.hid ((((HR6.out.set (j * 2) (.int .u16 ya)).set (j * 2 + 1) (.int .i64 yr)).set ((j - 1) * 2) (.int .u16 xa)).set ((j - 1) * 2 + 1) (.int .i64 xr))
            refine ⟨⟨k, (zs.set (k + 1) (ya, yr)).set k (xa, xr), by have := HK.out; go_num, by omega, ?_, ?_, HN⟩, ?_⟩
            · exact Only.drew (Only.setCell (p := ⟨g, (j - 1) * 2 + 1, none⟩) (Only.setCell (p := ⟨g, (j - 1) * 2, none⟩) (Only.setCell (p := ⟨g, j * 2 + 1, none⟩) (Only.setCell (p := ⟨g, j * 2, none⟩) hoN _ (fun _ => rfl)) _ (fun _ => rfl)) _ (fun _ => rfl)) _ (fun _ => rfl))
            · refine Lib.hid (Row.of_block (w := ((((w6.setCell ⟨g, j * 2, none⟩ (.int .u16 ya)).setCell ⟨g, j * 2 + 1, none⟩ (.int .i64 yr)).setCell ⟨g, (j - 1) * 2, none⟩ (.int .u16 xa)).setCell ⟨g, (j - 1) * 2 + 1, none⟩ (.int .i64 xr))) ?_ rfl)
              have h := HR2.out
              rw [e1, HK.out] at h ⊢
              rw [chs_set, chs_set]
              exact h
            · simp [intOf]; omega
          · have hcmp : 0 ≤ cmpI xr yr := by unfold cmpI; rw [if_neg hxy]; split <;> decide
            have HO := Lib.hid (HI.out.stop HT.out (Or.inr ⟨_, _, HX.out, HY.out, hxy⟩))
            have HL := Lib.hid hl1
            clear HI hxy hl1
            generalize cmpI xr yr = cv at *
            have hcv : ¬ cv < 0 := by omega
            go_wp2_with fail
            go_still_tail 14, (by kernel_rfl)
            change wpList _ _ _ _ _ wo.drew
            have hOd : Only (fun _ => False) wo wo.drew := (Only.refl _ wo).drew
            clear hw1 hw2 hi2 c0 c1 d0 d1 f0 f1 f2 f3
            generalize wo.drew = w5 at *
            go_wp2_with fail
            refine (HL.out _).mono ?_
            rintro e w6 ⟨rfl, ho6⟩
            have hO6 := hOd.trans ho6
            have hR6 := HRow.out.only hO6 (by simp)
            have hoN : Only (fun i => i = g) w w6 := ho.andThen hO6 (fun _ _ h => h.elim)
            have HR6 := Lib.hid hR6
            clear hR6 hO6 ho6 hOd HL HRow ho
            go_wp2_with fail
            go_roundw
            case rel => exact ⟨i + 1, zs, by go_num, by omega, by omega, hoN, HR6, HO⟩
            case measure => simp [intOf]; omega
    · go_wp2_with fail
      have HS := Lib.hid (HI.out.sorted (by omega))
      go_end0
      exact ⟨rfl, ho, ys, HS.out, HRow.out⟩

set_option maxHeartbeats 4000000 in
theorem stable_choices (R : Int × Int → Int × Int → Prop) (g N : Nat) (xs : List (Int × Int)) (cap : Nat) (w : World) (hr : Row w g 49 N (chs xs)) (hl : xs.length ≤ 12) (hR : xs.Pairwise R) :
    Calls Try.prog 46 #[.slice (some ⟨g, 0, none⟩) xs.length cap, .int .i64 xs.length, .func (.func 31) #[] #[]] w fun e w' =>
      e = .returned (.tuple #[]) ∧ Only (fun i => i = g) w w' ∧ ∃ ys, SortedBy Prod.snd R xs ys ∧ Row w' g 49 N (chs ys) := by
  have H := Lib.hid (insertion_choices R g N xs cap w hr (by omega) hR)
  have h12 : (xs.length : Int) ≤ 12 := by omega
  clear hr hR
  go_enter Try.func46, Try.ntmps46
  go_wp2_with fail
  go_loopw [7, 8] (fun a b wr => a = .int .i64 0 ∧ b = .int .i64 20 ∧ wr = w) (fun _ _ _ => 1)
  case atStart => exact ⟨rfl, rfl, rfl⟩
  case round =>
    obtain ⟨rfl, rfl, rfl⟩ := hrel
    go_wp2_with fail
    refine H.out.mono ?_
    rintro e w1 ⟨rfl, ho, ys, hs, hrow⟩
    have HS := Lib.hid hs
    have HRow := Lib.hid hrow
    clear hs hrow H
    go_wp2_with fail
    go_loopw [6] (fun a wr2 => a = .int .i64 20 ∧ wr2 = w1) (fun _ _ => 1)
    case atStart => exact ⟨rfl, rfl⟩
    case round =>
      obtain ⟨rfl, rfl⟩ := hrel
      go_wp2_with fail
      go_end0
      exact ⟨rfl, ho, ys, HS.out, HRow.out⟩

theorem sort_choices (R : Int × Int → Int × Int → Prop) (g N : Nat) (xs : List (Int × Int)) (cap : Nat) (w : World) (hr : Row w g 49 N (chs xs)) (hl : xs.length ≤ 12) (hR : xs.Pairwise R) :
    Calls Try.prog 30 #[.slice (some ⟨g, 0, none⟩) xs.length cap, .func (.func 31) #[] #[]] w fun e w' =>
      e = .returned (.tuple #[]) ∧ Only (fun i => i = g) w w' ∧ ∃ ys, SortedBy Prod.snd R xs ys ∧ Row w' g 49 N (chs ys) := by
  have H := Lib.hid (stable_choices R g N xs cap w hr (by omega) hR)
  clear hr hR
  go_enter Try.func30, Try.ntmps30
  go_wp2_with fail
  refine H.out.mono ?_
  rintro e w1 ⟨rfl, ho, ys, hs, hrow⟩
  have HS := Lib.hid hs
  have HRow := Lib.hid hrow
  clear hs hrow H
  go_wp2_with fail
  go_end0
  exact ⟨rfl, ho, ys, HS.out, HRow.out⟩

/-! No choice at all: a nil slice. -/
theorem insertion_choices_nil (w : World) : Calls Try.prog 55 #[.slice none 0 0, .int .i64 0, .int .i64 0, .func (.func 31) #[] #[]] w fun e w' => e = .returned (.tuple #[]) ∧ w' = w := by
  go_enter Try.func55, Try.ntmps55
  go_wp2
  go_rounds 1
  all_goals (go_end0; exact ⟨rfl, rfl⟩)

theorem stable_choices_nil (w : World) : Calls Try.prog 46 #[.slice none 0 0, .int .i64 0, .func (.func 31) #[] #[]] w fun e w' => e = .returned (.tuple #[]) ∧ w' = w := by
  have H := Lib.hid (insertion_choices_nil w)
  go_enter Try.func46, Try.ntmps46
  go_wp2_with fail
  go_loopw [7, 8] (fun a b wr => a = .int .i64 0 ∧ b = .int .i64 20 ∧ wr = w) (fun _ _ _ => 1)
  case atStart => exact ⟨rfl, rfl, rfl⟩
  case round =>
    obtain ⟨rfl, rfl, rfl⟩ := hrel
    go_wp2_with fail
    refine H.out.mono ?_
    rintro e w1 ⟨rfl, rfl⟩
    go_wp2_with fail
    go_loopw [6] (fun a wr2 => a = .int .i64 20 ∧ wr2 = w1) (fun _ _ => 1)
    case atStart => exact ⟨rfl, rfl⟩
    case round =>
      obtain ⟨rfl, rfl⟩ := hrel
      go_wp2_with fail
      go_end0
      exact ⟨rfl, rfl⟩

theorem sort_choices_own (base : Nat) (v : Value) (R : Int × Int → Int × Int → Prop) (xs : List (Int × Int)) (w : World) (hr : w.ownsRow base 49 2 v xs.length (chs xs)) (hl : xs.length ≤ 12) (hR : xs.Pairwise R) :
    Calls Try.prog 30 #[v, .func (.func 31) #[] #[]] w fun e w' =>
      e = .returned (.tuple #[]) ∧ Only (fun i => some i = v.ownBlock) w w' ∧ ∃ ys, SortedBy Prod.snd R xs ys ∧ w'.ownsRow base 49 2 v xs.length (chs ys) := by
  rcases hr.2 with ⟨rfl, h0⟩ | ⟨g, cap, cur, rfl, hb, hg, hnc, hm, hs, ht⟩
  · have hx : xs = [] := List.eq_nil_of_length_eq_zero h0
    subst hx
    have HR := Lib.hid hr
    have H := Lib.hid (stable_choices_nil w)
    clear hr
    go_enter Try.func30, Try.ntmps30
    go_wp2_with fail
    refine H.out.mono ?_
    rintro e w1 ⟨rfl, rfl⟩
    go_wp2_with fail
    go_end0
    exact ⟨rfl, Only.refl _ _, [], ⟨List.Perm.refl _, List.Pairwise.nil⟩, HR.out⟩
  · have hrow : Row w g 49 (cap * 2) (chs xs) := ⟨cur, hg, hs, by rw [hr.1]; exact ht⟩
    refine (sort_choices R g (cap * 2) xs cap w hrow hl hR).mono ?_
    rintro e w' ⟨rfl, ho, ys, hys, hrow'⟩
    exact ⟨rfl, ho.mono (fun i _ h => by simp [Value.ownBlock, h]), ys, hys, Row.owns hrow' hb (by rw [chs_len, hys.length]) hnc hm⟩

/-- slices.Clip. -/
theorem clip_choices (base n : Nat) (v : Value) (xs : List Value) (w : World) (hr : w.ownsRow base 49 2 v n xs) :
    Calls Try.prog 33 #[v] w fun e w' => ∃ a, e = .returned (.slice a n n) ∧ w' = w ∧ ((a = none ∧ xs = []) ∨ ∃ g, a = some ⟨g, 0, none⟩ ∧ base ≤ g ∧ ∃ cap, Row w g 49 cap xs) := by
  rcases hr.2 with ⟨rfl, rfl⟩ | ⟨g, cap, cur, rfl, hb, hg, hnc, hm, hs, ht⟩
  · have hx : xs = [] := List.eq_nil_of_length_eq_zero (by simpa using hr.1)
    clear hr
    go_enter Try.func33, Try.ntmps33
    go_wp2_with fail
    go_ret
    exact ⟨none, rfl, rfl, Or.inl ⟨rfl, hx⟩⟩
  · have HR := Lib.hid (p := Row w g 49 (cap * 2) xs) ⟨cur, hg, hs, by have := hr.1; rw [this]; exact ht⟩
    have h63 : n ≤ 9223372036854775807 := by unfold maxLen at hm; omega
    have hnn : (n : Int) ≤ cap := by omega
    have HB := Lib.hid (And.intro hb hm)
    clear hr hg hs ht hb hm
    go_enter Try.func33, Try.ntmps33
    go_wp2_with fail
    go_ret
    exact ⟨_, rfl, rfl, Or.inr ⟨g, rfl, HB.out.1, _, HR.out⟩⟩

end Go.Proofs.Ytpfcoeenblmifaa
