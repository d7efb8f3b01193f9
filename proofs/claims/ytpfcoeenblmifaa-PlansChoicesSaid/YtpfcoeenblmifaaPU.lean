/-
  Plans: Choices: the closure, and the sort by ranks.
-/
import Derived.Test.YtpfcoeenblmifaaPT
namespace Go.Proofs.Ytpfcoeenblmifaa
open Go.RowKit Go.PC

theorem Choices1_any (a b x y : Int) (w : World) : Calls Try.prog 31 #[.agg #[.int .u16 a, .int .i64 x], .agg #[.int .u16 b, .int .i64 y]] w fun e w' => e = .returned (.int .i64 (cmpI x y)) ∧ Only (fun _ => False) w w' := by
  go_enter Try.func31, Try.ntmps31
  go_wp2_with fail
  refine (compare_int x y _).mono ?_
  rintro e w1 ⟨rfl, rfl⟩
  go_wp2_with fail
  go_ret
  exact ⟨rfl, ((Only.refl _ _).alloc _).alloc _⟩

/-- Choices: code and rank. -/
abbrev chs (xs : List (Int × Int)) : List Value := xs.flatMap fun p => [.int .u16 p.1, .int .i64 p.2]

theorem chs_len (xs : List (Int × Int)) : (chs xs).length = xs.length * 2 := by
  induction xs with
  | nil => rfl
  | cons x xs ih => simp only [chs, List.flatMap_cons, List.length_append, List.length_cons, List.length_nil] at ih ⊢; omega

theorem chs_at {xs : List (Int × Int)} : ∀ {i : Nat} {p : Int × Int}, xs[i]? = some p → (chs xs)[i * 2]? = some (.int .u16 p.1) ∧ (chs xs)[i * 2 + 1]? = some (.int .i64 p.2) := by
  induction xs with
  | nil => intro i p h; simp at h
  | cons x xs ih =>
    intro i p h
    cases i with
    | zero => simp at h; subst h; exact ⟨rfl, rfl⟩
    | succ i =>
      have h' : xs[i]? = some p := by simpa using h
      obtain ⟨h1, h2⟩ := ih h'
      have e1 : (i + 1) * 2 = i * 2 + 1 + 1 := by omega
      rw [e1]
      exact ⟨h1, h2⟩

theorem chs_set {xs : List (Int × Int)} : ∀ {i : Nat} (p : Int × Int), chs (xs.set i p) = ((chs xs).set (i * 2) (.int .u16 p.1)).set (i * 2 + 1) (.int .i64 p.2) := by
  induction xs with
  | nil => intro i p; simp
  | cons x xs ih =>
    intro i p
    cases i with
    | zero => rfl
    | succ i =>
      have e1 : (i + 1) * 2 = i * 2 + 1 + 1 := by omega
      rw [e1]
      show Value.int .u16 x.1 :: Value.int .i64 x.2 :: chs (xs.set i p) = _
      rw [ih]
      rfl

theorem chs_append (xs ys : List (Int × Int)) : chs (xs ++ ys) = chs xs ++ chs ys := by simp [chs]

end Go.Proofs.Ytpfcoeenblmifaa
