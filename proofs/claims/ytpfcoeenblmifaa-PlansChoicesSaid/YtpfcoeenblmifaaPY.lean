/-
  Plans: ints.
-/
import Derived.Test.YtpfcoeenblmifaaPX
namespace Go.Proofs.Ytpfcoeenblmifaa
open Go.RowKit Go.PC

set_option maxHeartbeats 4000000 in
set_option maxRecDepth 100000 in
theorem ints_same (g h n m : Nat) (xs : List Int) (w : World) (hn : xs.length = n) (hn12 : n ≤ 12) (hg : ∀ i x, xs[i]? = some x → w.cell? ⟨g, i, none⟩ = some (.int .i64 x)) (hh : ∀ i x, xs[i]? = some x → w.cell? ⟨h, i, none⟩ = some (.int .i64 x)) :
    Calls Try.prog 26 #[.slice (some ⟨g, 0, none⟩) n n, .slice (some ⟨h, 0, none⟩) n m] w fun e w' => e = .returned (.bool true) ∧ ∃ q, w' = w.drewN q := by
  have HG := Lib.hid hg
  have HH := Lib.hid hh
  clear hg hh
  go_enter Try.func26, Try.ntmps26
  go_wp2_with fail
  go_loopw [5] (fun v wr => ∃ k : Nat, k ≤ n ∧ v = .int .i64 k ∧ ∃ q, wr = w.drewN q) (fun v _ => n - (intOf v).toNat)
  case atStart => exact ⟨0, Nat.zero_le _, rfl, 0, rfl⟩
  case round =>
    obtain ⟨k, hk, rfl, q, rfl⟩ := hrel
    by_cases hlt : k < n
    · have hlt' : (k : Int) < (n : Int) := by omega
      obtain ⟨x, hx⟩ : ∃ x, xs[k]? = some x := ⟨_, List.getElem?_eq_getElem (by omega)⟩
      have c0 : (w.drewN q).cell? ⟨g, k, none⟩ = some (.int .i64 x) := HG.out k x hx
      have c1 : (w.drewN q).cell? ⟨h, k, none⟩ = some (.int .i64 x) := HH.out k x hx
      have HE := Lib.hid (p := ∀ k, ∃ m, (w.drewN q).drewN k = w.drewN m) (fun k => ⟨q + k, by simp [World.drewN, Nat.add_assoc]⟩)
      generalize w.drewN q = w1 at *
      go_wp2_with fail
      go_quiet (fail)
      go_wp2_with fail
      go_roundw
      case rel => exact ⟨k + 1, hlt, by go_num, HE.out _⟩
      case measure => simp [intOf]; omega
    · go_wp2_with fail
      go_ret
      exact ⟨rfl, q, rfl⟩

/-- The example is a small plan. -/
theorem ringP_ok : PlanOK ringP where
  ne := by simp [ringP]
  np := by simp [ringP]
  asc := by simp [ringP, Asc]
  codes := by simp [ringP]
  nl := by simp [ringP]
  lines := by simp [ringP, lnOf]
  sorted := by simp [ringP, LtL, lnOf]
  ends := by decide
  rate := by simp [ringP]
  room := by simp [ringP]
  marks := by simp [ringP]

theorem ringP_small {pa la : Option Addr} {w : World} (h1 : RdP w pa ringP.ps) (h2 : RdL w la ringP.ls) : Small pa la ringP w := ⟨h1, h2, ringP_ok, by simp [ringP], by simp [ringP]⟩

end Go.Proofs.Ytpfcoeenblmifaa
