/-
  Plans: the stable sort of a few places by their distances.
-/
import Derived.Test.YtpfcoeenblmifaaPM
namespace Go.Proofs.Ytpfcoeenblmifaa
open Go.RowKit Go.PC

theorem isNaN_int (x : Int) (w : World) : Calls Try.prog 47 #[.int .i64 x] w fun e w' => e = .returned (.bool false) ∧ w = w' := by
  go_enter Try.func47, Try.ntmps47
  go_wp2
  go_ret
  exact ⟨rfl, rfl⟩

theorem compare_int (x y : Int) (w : World) : Calls Try.prog 32 #[.int .i64 x, .int .i64 y] w fun e w' => e = .returned (.int .i64 (cmpI x y)) ∧ w = w' := by
  have h1 := isNaN_int x w
  have h2 := isNaN_int y w
  unfold cmpI
  by_cases hxy : x < y
  · rw [if_pos hxy]
    go_enter Try.func32, Try.ntmps32
    go_wp2_with fail
    refine h1.mono ?_
    rintro e w1 ⟨rfl, rfl⟩
    go_wp2_with fail
    refine h2.mono ?_
    rintro e w1 ⟨rfl, rfl⟩
    go_wp2_with fail
    go_ret
    exact ⟨rfl, rfl⟩
  · rw [if_neg hxy]
    by_cases hyx : y < x
    · rw [if_pos hyx]
      go_enter Try.func32, Try.ntmps32
      go_wp2_with fail
      refine h1.mono ?_
      rintro e w1 ⟨rfl, rfl⟩
      go_wp2_with fail
      refine h2.mono ?_
      rintro e w1 ⟨rfl, rfl⟩
      go_wp2_with fail
      go_ret
      exact ⟨rfl, rfl⟩
    · rw [if_neg hyx]
      go_enter Try.func32, Try.ntmps32
      go_wp2_with fail
      refine h1.mono ?_
      rintro e w1 ⟨rfl, rfl⟩
      go_wp2_with fail
      refine h2.mono ?_
      rintro e w1 ⟨rfl, rfl⟩
      go_wp2_with fail
      go_ret
      exact ⟨rfl, rfl⟩

/-- The closure of heights: it compares the numbers at two places. -/
theorem heights1_any (B g n cap : Nat) (d : List Int) (a b : Nat) (w : World) (hb : w.cell? ⟨B, 0, none⟩ = some (.slice (some ⟨g, 0, none⟩) n cap)) (N : Nat) (hr : Row w g 3 N (its d)) (hn : d.length = n) (ha : a < n) (hb' : b < n) (q : Nat) :
    Calls Try.prog 38 #[.int .i64 a, .int .i64 b, .pointer (some ⟨B, 0, none⟩)] (w.drewN q) fun e w' => e = .returned (.int .i64 (cmpI (o d a) (o d b))) ∧ ∃ m, w' = w.drewN m := by
  have c0 : (w.drewN q).cell? ⟨B, 0, none⟩ = some (.slice (some ⟨g, 0, none⟩) n cap) := hb
  have c1 : (w.drewN q).cell? ⟨g, a, none⟩ = some (.int .i64 (o d a)) := hr.cell (its_at (o_get (by omega)))
  have c2 : (w.drewN q).cell? ⟨g, b, none⟩ = some (.int .i64 (o d b)) := hr.cell (its_at (o_get (by omega)))
  have HE := Lib.hid (p := ∀ k, ∃ m, (w.drewN q).drewN k = w.drewN m) (fun k => ⟨q + k, by simp [World.drewN, Nat.add_assoc]⟩)
  have hai : (a : Int) < (n : Int) := by omega
  have hbi : (b : Int) < (n : Int) := by omega
  generalize o d a = x at *
  generalize o d b = y at *
  generalize w.drewN q = w1 at *
  clear hb hr
  go_enter Try.func38, Try.ntmps38
  go_wp2_with fail
  go_quiet (first | (go_at_call 32; refine Calls.quiet_of_same ((compare_int _ _ _).mono fun _ _ ⟨h1, h2⟩ => ⟨h1, h2.symm⟩)))
  go_wp2_with fail
  go_ret
  exact ⟨rfl, HE.out _⟩

end Go.Proofs.Ytpfcoeenblmifaa
