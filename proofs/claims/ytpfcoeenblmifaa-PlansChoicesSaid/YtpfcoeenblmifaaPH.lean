/-
  Plans: slices.Sort, Compact, Clip of a few codes.
-/
import Derived.Test.YtpfcoeenblmifaaPG
import Derived.Test.YtpfcoeenblmifaaDedup
import Derived.Lib.SliceRun
namespace Go.Proofs.Ytpfcoeenblmifaa
open Go.RowKit Go.PC

theorem nat_small {n : Nat} (h : n ≤ 12) : n = 0 ∨ n = 1 ∨ n = 2 ∨ n = 3 ∨ n = 4 ∨ n = 5 ∨ n = 6 ∨ n = 7 ∨ n = 8 ∨ n = 9 ∨ n = 10 ∨ n = 11 ∨ n = 12 := by omega

set_option maxHeartbeats 4000000 in
set_option maxRecDepth 1000000 in
theorem len64_small (n : Nat) (hn : n ≤ 12) (w : World) : Calls Try.prog 72 #[.int .u64 n] w fun e w' => (∃ v, e = .returned (.int .i64 v)) ∧ w = w' := by
  rcases nat_small hn with rfl | rfl | rfl | rfl | rfl | rfl | rfl | rfl | rfl | rfl | rfl | rfl | rfl <;>
  · go_enter Try.func72, Try.ntmps72
    go_wp2
    go_ret
    exact ⟨⟨_, rfl⟩, rfl⟩

theorem len_small (n : Nat) (hn : n ≤ 12) (w : World) : Calls Try.prog 54 #[.int .u64 n] w fun e w' => (∃ v, e = .returned (.int .i64 v)) ∧ w = w' := by
  have h1 := len64_small n hn w
  go_enter Try.func54, Try.ntmps54
  go_wp2_with fail
  refine h1.mono ?_
  rintro e w' ⟨⟨v, rfl⟩, rfl⟩
  go_wp2_with fail
  go_ret
  exact ⟨⟨_, rfl⟩, rfl⟩

set_option maxHeartbeats 4000000 in
theorem pdq_small (g N : Nat) (xs : List Int) (cap : Nat) (l : Int) (w : World) (hr : Row w g 34 N (pts xs)) (hl : xs.length ≤ 12) :
    Calls Try.prog 53 #[.slice (some ⟨g, 0, none⟩) xs.length cap, .int .i64 0, .int .i64 xs.length, .int .i64 l] w fun e w' =>
      e = .returned (.tuple #[]) ∧ Only (fun i => i = g) w w' ∧ ∃ ys, SortedBy id (fun _ _ => True) xs ys ∧ Row w' g 34 N (pts ys) := by
  have H := Lib.hid (insertion_points g N xs cap w hr (by omega))
  have h12 : (xs.length : Int) ≤ 12 := by omega
  clear hr
  go_enter Try.func53, Try.ntmps53
  go_wp2_with fail
  go_loopw [1, 2, 3] (fun a b c wr => a = .int .i64 0 ∧ b = .int .i64 xs.length ∧ c = .int .i64 l ∧ wr = w) (fun _ _ _ _ => 1)
  case atStart => exact ⟨rfl, rfl, rfl, rfl⟩
  case round =>
    obtain ⟨rfl, rfl, rfl, rfl⟩ := hrel
    go_wp2_with fail
    refine H.out.mono ?_
    rintro e w1 ⟨rfl, ho, hys⟩
    go_wp2_with fail
    exact bodyPost_ret (results_none rfl _ _ _) rfl ⟨rfl, ho, hys⟩

theorem insertion_nil (w : World) : Calls Try.prog 62 #[.slice none 0 0, .int .i64 0, .int .i64 0] w fun e w' => e = .returned (.tuple #[]) ∧ w' = w := by
  go_enter Try.func62, Try.ntmps62
  go_wp2
  go_rounds 1
  all_goals (go_end0; exact ⟨rfl, rfl⟩)

theorem pdq_nil (l : Int) (w : World) : Calls Try.prog 53 #[.slice none 0 0, .int .i64 0, .int .i64 0, .int .i64 l] w fun e w' => e = .returned (.tuple #[]) ∧ w' = w := by
  have H := Lib.hid (insertion_nil w)
  go_enter Try.func53, Try.ntmps53
  go_wp2_with fail
  go_loopw [1, 2, 3] (fun a b c wr => a = .int .i64 0 ∧ b = .int .i64 0 ∧ c = .int .i64 l ∧ wr = w) (fun _ _ _ _ => 1)
  case atStart => exact ⟨rfl, rfl, rfl, rfl⟩
  case round =>
    obtain ⟨rfl, rfl, rfl, rfl⟩ := hrel
    go_wp2_with fail
    refine H.out.mono ?_
    rintro e w1 ⟨rfl, rfl⟩
    go_wp2_with fail
    exact bodyPost_ret (results_none rfl _ _ _) rfl ⟨rfl, rfl⟩

theorem sort_points (base n : Nat) (v : Value) (xs : List Int) (w : World) (hr : w.ownsRow base 34 1 v n (pts xs)) (hl : xs.length ≤ 12) :
    Calls Try.prog 43 #[v] w fun e w' =>
      e = .returned (.tuple #[]) ∧ Only (fun i => some i = v.ownBlock) w w' ∧ ∃ ys, SortedBy id (fun _ _ => True) xs ys ∧ w'.ownsRow base 34 1 v n (pts ys) := by
  have hn : n = xs.length := by have := hr.1; simp at this; omega
  subst hn
  rcases hr.2 with ⟨rfl, h0⟩ | ⟨g, cap, cur, rfl, hb, hg, hnc, hm, hs, ht⟩
  · have hx : xs = [] := List.eq_nil_of_length_eq_zero h0
    subst hx
    have H1 := len_small 0 (by decide) w
    have H2 := fun l => pdq_nil l w
    have HR := Lib.hid hr
    clear hr
    go_enter Try.func43, Try.ntmps43
    go_wp2_with fail
    refine H1.mono ?_
    rintro e w1 ⟨⟨l, rfl⟩, rfl⟩
    go_wp2_with fail
    refine (H2 l).mono ?_
    rintro e w1 ⟨rfl, rfl⟩
    go_wp2_with fail
    go_end0
    exact ⟨rfl, Only.refl _ _, [], ⟨List.Perm.refl _, List.Pairwise.nil⟩, HR.out⟩
  · have hrow : Row w g 34 cap (pts xs) := ⟨cur, hg, by omega, by simpa using ht⟩
    have H1 := len_small xs.length hl w
    have H2 := Lib.hid (fun l => pdq_small g cap xs cap l w hrow hl)
    have h63 : (xs.length : Int) ≤ 12 := by omega
    have HB := Lib.hid (And.intro hb (And.intro hnc hm))
    clear hr hrow hg hs ht hb hnc hm
    go_enter Try.func43, Try.ntmps43
    go_wp2_with fail
    refine H1.mono ?_
    rintro e w1 ⟨⟨l, rfl⟩, rfl⟩
    go_wp2_with fail
    refine (H2.out l).mono ?_
    rintro e w1 ⟨rfl, ho, ys, hs, hrow⟩
    have HS := Lib.hid hs
    have HRow := Lib.hid hrow
    clear hs hrow
    go_wp2_with fail
    go_end0
    refine ⟨rfl, ho.mono (fun i _ h => by simp [Value.ownBlock, h]), ys, HS.out, ?_⟩
    exact Row.owns (by simpa using HRow.out) HB.out.1 (by simp [HS.out.length]) HB.out.2.1 HB.out.2.2

/-- slices.Clip. -/
theorem clip_points (base n : Nat) (v : Value) (xs : List Value) (w : World) (hr : w.ownsRow base 34 1 v n xs) :
    Calls Try.prog 44 #[v] w fun e w' => ∃ a, e = .returned (.slice a n n) ∧ w' = w ∧ ((a = none ∧ xs = []) ∨ ∃ g, a = some ⟨g, 0, none⟩ ∧ base ≤ g ∧ ∃ cap, Row w g 34 cap xs) := by
  rcases hr.2 with ⟨rfl, rfl⟩ | ⟨g, cap, cur, rfl, hb, hg, hnc, hm, hs, ht⟩
  · have hx : xs = [] := List.eq_nil_of_length_eq_zero (by simpa using hr.1)
    clear hr
    go_enter Try.func44, Try.ntmps44
    go_wp2_with fail
    go_ret
    exact ⟨none, rfl, rfl, Or.inl ⟨rfl, hx⟩⟩
  · have HR := Lib.hid (p := Row w g 34 cap xs) ⟨cur, hg, by omega, by have := hr.1; rw [this]; exact ht⟩
    have h63 : n ≤ 9223372036854775807 := by unfold maxLen at hm; omega
    have hnn : (n : Int) ≤ cap := by omega
    have HB := Lib.hid (And.intro hb hm)
    clear hr hg hs ht hb hm
    go_enter Try.func44, Try.ntmps44
    go_wp2_with fail
    go_ret
    exact ⟨_, rfl, rfl, Or.inr ⟨g, rfl, HB.out.1, cap, HR.out⟩⟩

end Go.Proofs.Ytpfcoeenblmifaa
