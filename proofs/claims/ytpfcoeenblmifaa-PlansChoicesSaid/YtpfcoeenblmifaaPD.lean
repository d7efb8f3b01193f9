/-
  Plans: a valid plan, and that Check accepts it.
-/
import Derived.Test.YtpfcoeenblmifaaPC
namespace Go.Proofs.Ytpfcoeenblmifaa
open Go.RowKit Go.PC

structure Pn where
  ps : List (Int × Bool)
  ls : List Ln
  rate : Int
  room : Int
  m0 : Int
  m1 : Int
  m2 : Int

/-- l comes ahead of m. -/
def LtL (l m : Ln) : Prop := l.a < m.a ∨ (l.a = m.a ∧ (l.b < m.b ∨ (l.b = m.b ∧ l.c < m.c)))

structure PlanOK (P : Pn) : Prop where
  ne : P.ps ≠ []
  np : P.ps.length ≤ 64
  asc : Asc P.ps
  codes : ∀ p ∈ P.ps, 0 ≤ p.1 ∧ p.1 ≤ 16383
  nl : P.ls.length ≤ 1024
  lines : ∀ l ∈ P.ls, l.a < l.b ∧ 0 ≤ l.a ∧ l.b ≤ 65535 ∧ 0 ≤ l.c ∧ l.c ≤ 15 ∧ 1 ≤ l.d ∧ l.d ≤ 64
  sorted : P.ls.Pairwise LtL
  ends : ∀ l ∈ P.ls, hasCode P.ps l.a = true ∧ hasCode P.ps l.b = true
  rate : 1 ≤ P.rate ∧ P.rate ≤ 16
  room : 1 ≤ P.room ∧ P.room ≤ 64
  marks : 1 ≤ P.m0 ∧ P.m0 < P.m1 ∧ P.m1 < P.m2 ∧ P.m2 ≤ P.room

theorem cmpL_lt {l m : Ln} (h : LtL l m) : or3 (cmpI l.a m.a) (cmpI l.b m.b) (cmpI l.c m.c) = -1 := by
  unfold LtL at h
  unfold or3 cmpI
  rcases h with h | ⟨h1, h | ⟨h2, h⟩⟩
  · rw [if_pos h]; rfl
  · have e1 : ¬ l.a < m.a := by omega
    have e2 : ¬ m.a < l.a := by omega
    simp [e1, e2, h]
  · have e1 : ¬ l.a < m.a := by omega
    have e2 : ¬ m.a < l.a := by omega
    have e3 : ¬ l.b < m.b := by omega
    have e4 : ¬ m.b < l.b := by omega
    simp [e1, e2, e3, e4, h]

/-- The value of a plan. -/
def planV (pa la : Option Addr) (pc lc : Nat) (P : Pn) : Value := .agg #[.slice pa P.ps.length pc, .slice la P.ls.length lc, .int .i64 P.rate, .int .i64 P.room, .int .i64 P.m0, .int .i64 P.m1, .int .i64 P.m2]

set_option maxHeartbeats 1000000 in
set_option maxRecDepth 100000 in
theorem places_ok (pa : Option Addr) (ps : List (Int × Bool)) (cap : Nat) (w : World) (hr : RdP w pa ps) (hs : Asc ps) (hne : ps ≠ []) (hl : ps.length ≤ 64) (hc : ∀ p ∈ ps, 0 ≤ p.1 ∧ p.1 ≤ 16383) :
    Calls Try.prog 48 #[.slice pa ps.length cap] w fun e w' => e = .returned (.int .i64 0) ∧ Only (fun _ => False) w w' := by
  have Hr := Lib.hid (p := RdP w pa ps) hr
  have Hs := Lib.hid (p := Asc ps) hs
  have Hc := Lib.hid (p := ∀ p ∈ ps, 0 ≤ p.1 ∧ p.1 ≤ 16383) hc
  have hlen : 0 < ps.length := List.length_pos_iff.2 hne
  clear hr hs hc hne
  go_enter Try.func48, Try.ntmps48
  go_wp2
  go_loopw [7] (fun v wr => ∃ k : Nat, k ≤ ps.length ∧ v = .int .i64 k ∧ Only (fun _ => False) w wr) (fun v _ => ps.length - (intOf v).toNat)
  case atStart => exact ⟨0, Nat.zero_le _, rfl, Only.refl _ _⟩
  case round =>
    obtain ⟨k, hk, rfl, ho⟩ := hrel
    by_cases hlt : k < ps.length
    · have hlt' : (k : Int) < (ps.length : Int) := by omega
      obtain ⟨b, off, ha, hcell⟩ := Hr.out.resolve_left (fun he => by rw [he] at hlt; cases hlt)
      subst ha
      obtain ⟨⟨x, t⟩, hp⟩ : ∃ p, ps[k]? = some p := ⟨_, List.getElem?_eq_getElem hlt⟩
      obtain ⟨c0, c1⟩ := hcell k _ hp
      have c0 := ho.cell c0 (by simp)
      have c1 := ho.cell c1 (by simp)
      obtain ⟨hx0, hx1⟩ := Hc.out _ (List.mem_of_getElem? hp)
      simp only at c0 c1 hx0 hx1
      have Hp := Lib.hid hp
      clear hp
      by_cases hk0 : k = 0
      · subst hk0
        clear hcell
        simp only [Nat.zero_mul, Nat.add_zero] at c0 c1
        have hg1 : decide (16383 < x) = false := by simpa using hx1
        go_wp2_with fail
        go_quiet (fail)
        go_wp2_with fail
        go_roundw
        case rel => exact ⟨1, hlt, rfl, OnlyF.drewN (ho.alloc _) _⟩
        case measure => simp [intOf]; omega
      · obtain ⟨⟨y, t'⟩, hq⟩ : ∃ p, ps[k - 1]? = some p := ⟨_, List.getElem?_eq_getElem (by omega)⟩
        obtain ⟨d0, d1⟩ := hcell _ _ hq
        have hyx : y < x := by have := Hs.out.lt hq Hp.out (by omega); simpa using this
        have d0 := ho.cell d0 (by simp)
        simp only at d0
        clear hcell d1 hq
        have hg1 : decide (16383 < x) = false := by simpa using hx1
        have hg2 : decide (0 < k) = true := by simp; omega
        have hg3 : decide (x ≤ y) = false := by simp; omega
        have hi0 : (0 : Int) ≤ (k : Int) - 1 := by omega
        have hi1 : (k : Int) - 1 < (ps.length : Int) := by omega
        have hb : b < wr.heap.size := lt_of_cell c0
        go_wp2_with fail
        go_quiet (fail)
        go_wp2_with fail
        go_roundw
        case rel => exact ⟨k + 1, hlt, by go_num, OnlyF.drewN (ho.alloc _) _⟩
        case measure => simp [intOf]; omega
    · go_wp2
      go_ret
      exact ⟨rfl, ho⟩

end Go.Proofs.Ytpfcoeenblmifaa
