/-
  Machines that New has not made (nil, the zero one): every method answers with nothing.
-/
import Derived.Test.YtofdmfibffcojaaLives
namespace Go.Proofs.Ytofdmfibffcojaa
open Go.RowKit Go.PC

/-- p is nil or leads to a machine that is not made. -/
def Dead (w : World) (p : Option Addr) : Prop := p = none ∨ ∃ b, p = some ⟨b, 0, none⟩ ∧ w.cell? ⟨b, 0, none⟩ = some (.bool false)

section
variable {w : World} {p : Option Addr}

theorem state_dead (h : Dead w p) : Calls Try.prog 9 #[.pointer p] w fun e w' => e = .returned (.int .u8 1) ∧ w = w' := by
  rcases h with rfl | ⟨b, rfl, c0⟩
  all_goals
    go_enter Try.func9, Try.ntmps9
    go_wp2
    go_ret
    exact ⟨rfl, rfl⟩

theorem check_dead (h : Dead w p) (x : Int) : Calls Try.prog 14 #[.pointer p, .int .u16 x] w fun e w' => e = .returned (.int .i64 2) ∧ w = w' := by
  rcases h with rfl | ⟨b, rfl, c0⟩
  all_goals
    go_enter Try.func14, Try.ntmps14
    go_wp2
    go_ret
    exact ⟨rfl, rfl⟩

theorem up_dead (h : Dead w p) (now x : Int) : Calls Try.prog 10 #[.pointer p, .int .i64 now, .int .u16 x] w fun e w' => e = .returned (.int .i64 2) ∧ w = w' := by
  have hc := check_dead h x
  clear h
  go_enter Try.func10, Try.ntmps10
  go_wp2_with (go_at_call 14; refine hc.mono ?_; rintro e w1 ⟨rfl, rfl⟩)
  go_ret
  exact ⟨rfl, rfl⟩

theorem down_dead (h : Dead w p) (x : Int) : Calls Try.prog 11 #[.pointer p, .int .u16 x] w fun e w' => e = .returned (.int .i64 2) ∧ w = w' := by
  have hc := check_dead h x
  clear h
  go_enter Try.func11, Try.ntmps11
  go_wp2_with (go_at_call 14; refine hc.mono ?_; rintro e w1 ⟨rfl, rfl⟩)
  go_ret
  exact ⟨rfl, rfl⟩

theorem done_dead (h : Dead w p) (x : Int) : Calls Try.prog 12 #[.pointer p, .int .u16 x] w fun e w' => e = .returned (.int .i64 2) ∧ w = w' := by
  have hc := check_dead h x
  clear h
  go_enter Try.func12, Try.ntmps12
  go_wp2_with (go_at_call 14; refine hc.mono ?_; rintro e w1 ⟨rfl, rfl⟩)
  go_ret
  exact ⟨rfl, rfl⟩

theorem tick_dead (h : Dead w p) (now : Int) : Calls Try.prog 13 #[.pointer p, .int .i64 now] w fun e w' => e = .returned (.bool false) ∧ w = w' := by
  have hc := state_dead h
  clear h
  go_enter Try.func13, Try.ntmps13
  go_wp2_with (go_at_call 9; refine hc.mono ?_; rintro e w1 ⟨rfl, rfl⟩)
  go_ret
  exact ⟨rfl, rfl⟩
end

end Go.Proofs.Ytofdmfibffcojaa
