/-
  Plans: the order of links, the other end of a link.
-/
import Derived.Test.YtpfcoeenblmifaaPB
import Derived.StillTailTactics
namespace Go.Proofs.Ytpfcoeenblmifaa
open Go.RowKit Go.PC

theorem isNaN_u8 (x : Int) (w : World) : Calls Try.prog 83 #[.int .u8 x] w fun e w' => e = .returned (.bool false) ∧ w = w' := by
  go_enter Try.func83, Try.ntmps83
  go_wp2
  go_ret
  exact ⟨rfl, rfl⟩

theorem compare_u8 (x y : Int) (w : World) : Calls Try.prog 75 #[.int .u8 x, .int .u8 y] w fun e w' => e = .returned (.int .i64 (cmpI x y)) ∧ w = w' := by
  have h1 := isNaN_u8 x w
  have h2 := isNaN_u8 y w
  unfold cmpI
  by_cases hxy : x < y
  · rw [if_pos hxy]
    go_enter Try.func75, Try.ntmps75
    go_wp2_with fail
    refine h1.mono ?_
    rintro e w1 ⟨rfl, rfl⟩
    go_wp2_with fail
    refine h2.mono ?_
    rintro e w1 ⟨rfl, rfl⟩
    go_wp2_with fail
    go_ret
    exact ⟨rfl, rfl⟩
  · rw [if_neg hxy]
    by_cases hyx : y < x
    · rw [if_pos hyx]
      go_enter Try.func75, Try.ntmps75
      go_wp2_with fail
      refine h1.mono ?_
      rintro e w1 ⟨rfl, rfl⟩
      go_wp2_with fail
      refine h2.mono ?_
      rintro e w1 ⟨rfl, rfl⟩
      go_wp2_with fail
      go_ret
      exact ⟨rfl, rfl⟩
    · rw [if_neg hyx]
      go_enter Try.func75, Try.ntmps75
      go_wp2_with fail
      refine h1.mono ?_
      rintro e w1 ⟨rfl, rfl⟩
      go_wp2_with fail
      refine h2.mono ?_
      rintro e w1 ⟨rfl, rfl⟩
      go_wp2_with fail
      go_ret
      exact ⟨rfl, rfl⟩

/-- cmp.Or of three numbers. -/
def or3 (x y z : Int) : Int := if x ≠ 0 then x else if y ≠ 0 then y else z

set_option maxHeartbeats 1000000 in
theorem or_any (b : Nat) (x y z : Int) (w : World) (h0 : w.cell? ⟨b, 0, none⟩ = some (.int .i64 x)) (h1 : w.cell? ⟨b, 1, none⟩ = some (.int .i64 y)) (h2 : w.cell? ⟨b, 2, none⟩ = some (.int .i64 z)) :
    Calls Try.prog 74 #[.slice (some ⟨b, 0, none⟩) 3 3] w fun e w' => e = .returned (.int .i64 (or3 x y z)) ∧ w = w' := by
  unfold or3
  by_cases hx : x = 0
  · rw [if_neg (by simpa using hx)]
    by_cases hy : y = 0
    · rw [if_neg (by simpa using hy)]
      subst hx hy
      by_cases hz : z = 0
      · subst hz
        go_enter Try.func74, Try.ntmps74
        go_wp2
        go_rounds 4
        all_goals (go_ret; exact ⟨rfl, rfl⟩)
      · have hzb : (z != 0) = true := by simpa using hz
        go_enter Try.func74, Try.ntmps74
        go_wp2
        go_rounds 3
        all_goals (go_ret; exact ⟨rfl, rfl⟩)
    · rw [if_pos hy]
      subst hx
      have hyb : (y != 0) = true := by simpa using hy
      go_enter Try.func74, Try.ntmps74
      go_wp2
      go_rounds 2
      all_goals (go_ret; exact ⟨rfl, rfl⟩)
  · rw [if_pos hx]
    have hxb : (x != 0) = true := by simpa using hx
    go_enter Try.func74, Try.ntmps74
    go_wp2
    go_rounds 1
    all_goals (go_ret; exact ⟨rfl, rfl⟩)

/-- labels.Compare. -/
def cmpL (l m : Ln) : Int := or3 (cmpI l.a m.a) (cmpI l.b m.b) (cmpI l.c m.c)

set_option maxHeartbeats 2000000 in
set_option maxRecDepth 100000 in
theorem compareL_any (a b c a' b' c' : Int) (w : World) :
    Calls Try.prog 57 #[.agg #[.int .u16 a, .int .u16 b, .int .u8 c], .agg #[.int .u16 a', .int .u16 b', .int .u8 c']] w fun e w' =>
      e = .returned (.int .i64 (or3 (cmpI a a') (cmpI b b') (cmpI c c'))) ∧ Only (fun _ => False) w w' := by
  go_enter Try.func57, Try.ntmps57
  go_wp2
  have hO := ((Only.refl (fun _ => False) w).alloc (.cells #[.int .u16 a, .int .u16 b, .int .u8 c] 55)).alloc (.cells #[.int .u16 a', .int .u16 b', .int .u8 c'] 55)
  have hc0 := World.cell?_alloc_new (w.alloc (.cells #[.int .u16 a, .int .u16 b, .int .u8 c] 55)) #[.int .u16 a', .int .u16 b', .int .u8 c'] 55
  rw [World.size_alloc] at hc0
  have hd : ∀ i, ((w.alloc (.cells #[.int .u16 a, .int .u16 b, .int .u8 c] 55)).alloc (.cells #[.int .u16 a', .int .u16 b', .int .u8 c'] 55)).cell? ⟨w.heap.size, i, none⟩ = #[.int .u16 a, .int .u16 b, .int .u8 c][i]? := fun i => by
    rw [World.cell?_alloc_lt _ _ _ (by simp)]; exact World.cell?_alloc_new w _ _ i
  obtain ⟨q0, q1, q2⟩ := And.intro (hc0 0) (And.intro (hc0 1) (hc0 2))
  obtain ⟨p0, p1, p2⟩ := And.intro (hd 0) (And.intro (hd 1) (hd 2))
  clear hc0 hd
  generalize ((w.alloc (.cells #[.int .u16 a, .int .u16 b, .int .u8 c] 55)).alloc (.cells #[.int .u16 a', .int .u16 b', .int .u8 c'] 55)) = w2 at *
  go_still_tail 15, (by kernel_rfl)
  still_call ((compare_point _ _ _).mono fun _ _ ⟨h1, h2⟩ => ⟨h1, h2.symm⟩)
  repeat still_step
  still_call ((compare_point _ _ _).mono fun _ _ ⟨h1, h2⟩ => ⟨h1, h2.symm⟩)
  repeat still_step
  still_call ((compare_u8 _ _ _).mono fun _ _ ⟨h1, h2⟩ => ⟨h1, h2.symm⟩)
  try refine wpStill_nil ?_
  change wpList _ _ _ _ _ w2.drew
  have hO2 := hO.drew
  clear hO q0 q1 q2 p0 p1 p2
  generalize w2.drew = w3 at *
  go_wp2_with fail
  have hc := World.cell?_alloc_new w3 #[.int .i64 (cmpI a a'), .int .i64 (cmpI b b'), .int .i64 (cmpI c c')] 3
  refine (or_any w3.heap.size _ _ _ (w3.alloc (.cells #[.int .i64 (cmpI a a'), .int .i64 (cmpI b b'), .int .i64 (cmpI c c')] 3)) (hc 0) (hc 1) (hc 2)).mono ?_
  rintro e w4 ⟨rfl, rfl⟩
  have hO3 := hO2.alloc (.cells #[.int .i64 (cmpI a a'), .int .i64 (cmpI b b'), .int .i64 (cmpI c c')] 3)
  clear hc
  go_wp2_with fail
  go_ret
  exact ⟨rfl, hO3⟩

/-- labels.Other. -/
def otherL (l : Ln) (p : Int) : Int × Bool := if l.a = l.b then (0, false) else if l.a = p then (l.b, true) else if l.b = p then (l.a, true) else (0, false)

theorem other_any (a b c p : Int) (w : World) (hab : a ≠ b) :
    Calls Try.prog 42 #[.agg #[.int .u16 a, .int .u16 b, .int .u8 c], .int .u16 p] w fun e w' =>
      e = .returned (.tuple #[.int .u16 (if a = p then b else if b = p then a else 0), .bool (decide (a = p ∨ b = p))]) ∧ Only (fun _ => False) w w' := by
  have h1 : (a == b) = false := by simpa using hab
  by_cases ha : a = p
  · have h2 : (a == p) = true := by simpa using ha
    rw [if_pos ha, show decide (a = p ∨ b = p) = true by simp [ha]]
    clear hab ha
    go_enter Try.func42, Try.ntmps42
    go_wp2
    go_ret2
    exact ⟨rfl, (Only.refl _ _).alloc _⟩
  · have h2 : (a == p) = false := by simpa using ha
    rw [if_neg ha]
    by_cases hb : b = p
    · have h3 : (b == p) = true := by simpa using hb
      rw [if_pos hb, show decide (a = p ∨ b = p) = true by simp [hb]]
      clear hab ha hb
      go_enter Try.func42, Try.ntmps42
      go_wp2
      go_ret2
      exact ⟨rfl, (Only.refl _ _).alloc _⟩
    · have h3 : (b == p) = false := by simpa using hb
      rw [if_neg hb, show decide (a = p ∨ b = p) = false by simp [ha, hb]]
      clear hab ha hb
      go_enter Try.func42, Try.ntmps42
      go_wp2
      go_ret2
      exact ⟨rfl, (Only.refl _ _).alloc _⟩

end Go.Proofs.Ytpfcoeenblmifaa
