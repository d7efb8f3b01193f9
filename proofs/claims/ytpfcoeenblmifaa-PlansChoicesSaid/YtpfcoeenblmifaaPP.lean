/-
  Plans: the stable sort of a few places; heights.
-/
import Derived.Test.YtpfcoeenblmifaaPO
namespace Go.Proofs.Ytpfcoeenblmifaa
open Go.RowKit Go.PC

set_option maxHeartbeats 4000000 in
theorem stable_ints (key : Nat → Int) (R : Nat → Nat → Prop) (cb : Array Value) (g N : Nat) (xs : List Nat) (cap : Nat) (w : World) (hr : Row w g 3 N (its (nats xs))) (hl : xs.length ≤ 12) (hR : xs.Pairwise R)
    (hc : ∀ wx, Only (fun i => i = g) w wx → ∀ a ∈ xs, ∀ b ∈ xs, ∀ q, Calls Try.prog 38 (#[.int .i64 a, .int .i64 b] ++ cb) (wx.drewN q) fun e w' => e = .returned (.int .i64 (cmpI (key a) (key b))) ∧ ∃ m, w' = wx.drewN m) :
    Calls Try.prog 51 #[.slice (some ⟨g, 0, none⟩) xs.length cap, .int .i64 xs.length, .func (.func 38) #[] cb] w fun e w' =>
      e = .returned (.tuple #[]) ∧ Only (fun i => i = g) w w' ∧ ∃ ys, SortedBy key R xs ys ∧ Row w' g 3 N (its (nats ys)) := by
  have H := Lib.hid (insertion_ints key R cb g N xs cap w hr (by omega) hR hc)
  have h12 : (xs.length : Int) ≤ 12 := by omega
  clear hr hR hc
  go_enter Try.func51, Try.ntmps51
  go_wp2_with fail
  go_loopw [7, 8] (fun a b wr => a = .int .i64 0 ∧ b = .int .i64 20 ∧ wr = w) (fun _ _ _ => 1)
  case atStart => exact ⟨rfl, rfl, rfl⟩
  case round =>
    obtain ⟨rfl, rfl, rfl⟩ := hrel
    go_wp2_with fail
    refine H.out.mono ?_
    rintro e w1 ⟨rfl, ho, ys, hs, hrow⟩
    have HS := Lib.hid hs
    have HRow := Lib.hid hrow
    clear hs hrow H
    go_wp2_with fail
    go_loopw [6] (fun a wr2 => a = .int .i64 20 ∧ wr2 = w1) (fun _ _ => 1)
    case atStart => exact ⟨rfl, rfl⟩
    case round =>
      obtain ⟨rfl, rfl⟩ := hrel
      go_wp2_with fail
      go_end0
      exact ⟨rfl, ho, ys, HS.out, HRow.out⟩

theorem sort_ints (key : Nat → Int) (R : Nat → Nat → Prop) (cb : Array Value) (g N : Nat) (xs : List Nat) (cap : Nat) (w : World) (hr : Row w g 3 N (its (nats xs))) (hl : xs.length ≤ 12) (hR : xs.Pairwise R)
    (hc : ∀ wx, Only (fun i => i = g) w wx → ∀ a ∈ xs, ∀ b ∈ xs, ∀ q, Calls Try.prog 38 (#[.int .i64 a, .int .i64 b] ++ cb) (wx.drewN q) fun e w' => e = .returned (.int .i64 (cmpI (key a) (key b))) ∧ ∃ m, w' = wx.drewN m) :
    Calls Try.prog 37 #[.slice (some ⟨g, 0, none⟩) xs.length cap, .func (.func 38) #[] cb] w fun e w' =>
      e = .returned (.tuple #[]) ∧ Only (fun i => i = g) w w' ∧ ∃ ys, SortedBy key R xs ys ∧ Row w' g 3 N (its (nats ys)) := by
  have H := Lib.hid (stable_ints key R cb g N xs cap w hr (by omega) hR hc)
  clear hr hR hc
  go_enter Try.func37, Try.ntmps37
  go_wp2_with fail
  refine H.out.mono ?_
  rintro e w1 ⟨rfl, ho, ys, hs, hrow⟩
  have HS := Lib.hid hs
  have HRow := Lib.hid hrow
  clear hs hrow H
  go_wp2_with fail
  go_end0
  exact ⟨rfl, ho, ys, HS.out, HRow.out⟩

/-- The places with a way, in the order of their numbers. -/
def ways (d : List Int) : List Nat := (List.range d.length).filter fun i => decide (0 ≤ o d i)

theorem ways_step {d : List Int} {k : Nat} : ((List.range (k + 1)).filter fun i => decide (0 ≤ o d i)) = ((List.range k).filter fun i => decide (0 ≤ o d i)) ++ (if 0 ≤ o d k then [k] else []) := by
  rw [List.range_succ, List.filter_append]
  congr 1
  by_cases h : 0 ≤ o d k
  · simp [h]
  · simp [h]

theorem ways_asc (d : List Int) : (ways d).Pairwise fun x y => x < y := List.Pairwise.filter _ List.pairwise_lt_range
theorem ways_mem {d : List Int} {i : Nat} : i ∈ ways d ↔ i < d.length ∧ 0 ≤ o d i := by
  unfold ways
  rw [List.mem_filter, List.mem_range]
  simp

/-- The heights. -/
structure Hts (d h : List Int) : Prop where
  len : h.length = d.length
  no : ∀ i, i < d.length → o d i < 0 → o h i = -1
  yes : ∀ i, i < d.length → 0 ≤ o d i → o h i = ((List.range d.length).countP fun k => decide (0 ≤ o d k ∧ (o d k < o d i ∨ (o d k = o d i ∧ k < i))) : Nat)

/-- Heights written down, the first k places of the order. -/
def hts (n : Nat) (ys : List Nat) : Nat → List Int
  | 0 => List.replicate n (-1)
  | k + 1 => (hts n ys k).set (ys.getD k 0) k

theorem hts_len (n : Nat) (ys : List Nat) (k : Nat) : (hts n ys k).length = n := by
  induction k with
  | zero => simp [hts]
  | succ k ih => simp [hts, ih]

theorem hts_spec {n : Nat} {ys : List Nat} (hnd : ys.Nodup) (hlt : ∀ i ∈ ys, i < n) : ∀ k, k ≤ ys.length →
    (∀ (j i : Nat), j < k → ys[j]? = some i → o (hts n ys k) i = (j : Int)) ∧ (∀ i, (∀ j, j < k → ys[j]? ≠ some i) → o (hts n ys k) i = -1) := by
  intro k
  induction k with
  | zero =>
    intro _
    refine ⟨fun j i h => by omega, fun i _ => ?_⟩
    unfold hts o
    rw [List.getD_eq_getElem?_getD, List.getElem?_replicate]
    split <;> rfl
  | succ k ih =>
    intro hk
    obtain ⟨h1, h2⟩ := ih (by omega)
    obtain ⟨y, hy⟩ : ∃ y, ys[k]? = some y := ⟨_, List.getElem?_eq_getElem (by omega)⟩
    have hyd : ys.getD k 0 = y := by rw [List.getD_eq_getElem?_getD, hy]; rfl
    have hyn : y < (hts n ys k).length := by rw [hts_len]; exact hlt y (List.mem_of_getElem? hy)
    have hs : ∀ i, o (hts n ys (k + 1)) i = if i = y then (k : Int) else o (hts n ys k) i := fun i => by
      rw [hts, hyd, o_set _ hyn]
    refine ⟨fun j i hj hji => ?_, fun i hi => ?_⟩
    · rw [hs]
      by_cases e : i = y
      · rw [if_pos e]
        subst e
        obtain ⟨a1, a2⟩ := List.getElem?_eq_some_iff.1 hji
        obtain ⟨b1, b2⟩ := List.getElem?_eq_some_iff.1 hy
        have := (List.getElem_inj (h₀ := a1) (h₁ := b1) hnd).1 (a2.trans b2.symm)
        omega
      · rw [if_neg e]
        refine h1 j i ?_ hji
        rcases Nat.lt_or_ge j k with h | h
        · exact h
        · have : j = k := by omega
          subst this
          rw [hy] at hji
          cases hji
          exact absurd rfl e
    · rw [hs, if_neg]
      · exact h2 i (fun j hj => hi j (by omega))
      · intro e
        subst e
        exact hi k (by omega) hy

theorem hts_ok {d : List Int} {ys : List Nat} (hs : SortedBy (o d) (fun x y => x < y) (ways d) ys) : Hts d (hts d.length ys ys.length) := by
  obtain ⟨hp, hb⟩ := hs
  have hnd : ys.Nodup := hp.nodup_iff.2 ((ways_asc d).imp fun h => Nat.ne_of_lt h)
  have hmem : ∀ i, i ∈ ys ↔ i < d.length ∧ 0 ≤ o d i := fun i => (hp.mem_iff).trans ways_mem
  obtain ⟨h1, h2⟩ := hts_spec (n := d.length) hnd (fun i hi => ((hmem i).1 hi).1) ys.length (Nat.le_refl _)
  refine ⟨hts_len _ _ _, fun i _ hi => h2 i (fun j _ hj => ?_), fun i hil hi => ?_⟩
  · have := ((hmem i).1 (List.mem_of_getElem? hj)).2
    omega
  · obtain ⟨k, hk⟩ := List.getElem?_of_mem ((hmem i).2 ⟨hil, hi⟩)
    obtain ⟨hkl, hke⟩ := List.getElem?_eq_some_iff.1 hk
    rw [h1 k i hkl hk]
    congr 1
    have e1 : ((List.range d.length).countP fun k => decide (0 ≤ o d k ∧ (o d k < o d i ∨ (o d k = o d i ∧ k < i)))) = ys.countP fun k => decide (o d k < o d i ∨ (o d k = o d i ∧ k < i)) := by
      rw [hp.countP_eq]
      unfold ways
      rw [List.countP_filter]
      congr 1
      funext x
      by_cases h : 0 ≤ o d x <;> simp [h]
    rw [e1, ← List.take_append_drop k ys, List.countP_append]
    have e2 : (ys.take k).countP (fun k => decide (o d k < o d i ∨ (o d k = o d i ∧ k < i))) = k := by
      rw [List.countP_eq_length.2]
      · simp; omega
      · intro x hx
        obtain ⟨a, ha, ea⟩ := List.getElem_of_mem hx
        rw [List.getElem_take] at ea
        simp at ha
        have := List.pairwise_iff_getElem.1 hb a k (by omega) hkl (by omega)
        rw [ea, hke] at this
        simpa [Bef] using this
    have e3 : (ys.drop k).countP (fun k => decide (o d k < o d i ∨ (o d k = o d i ∧ k < i))) = 0 := by
      rw [List.countP_eq_zero]
      intro x hx
      obtain ⟨a, ha, ea⟩ := List.getElem_of_mem hx
      rw [List.getElem_drop] at ea
      simp at ha
      rcases Nat.eq_zero_or_pos a with h0 | h0
      · subst h0
        have : x = i := by rw [← ea, ← hke]; rfl
        subst this
        simp
      · have := List.pairwise_iff_getElem.1 hb k (k + a) hkl (by omega) (by omega)
        rw [ea, hke] at this
        unfold Bef at this
        simp
        omega
    omega

end Go.Proofs.Ytpfcoeenblmifaa
