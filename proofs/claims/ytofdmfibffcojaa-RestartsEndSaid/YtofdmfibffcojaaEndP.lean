/-
  RestartsEnd: the machine's states on the way, as plain lists.
-/
import Derived.Test.YtofdmfibffcojaaCommon
namespace Go.Proofs.Ytofdmfibffcojaa

theorem lt_of_cell {w : World} {p : Addr} {v : Value} (hc : w.cell? p = some v) : p.block < w.heap.size := by
  rcases Nat.lt_or_ge p.block w.heap.size with h' | h'
  · exact h'
  · simp [World.cell?, Array.getElem?_eq_none h'] at hc

/-- Behind k calls of Down. -/
def sd (n : Nat) (base : Int) (k : Nat) : St := ⟨if k = n then 1 else 0, base, 0, (List.range n).map fun i => if i < k then (false, false) else (true, false)⟩

theorem sd_zero {n : Nat} (hn : 0 < n) (base : Int) : sd n base 0 = ⟨0, base, 0, List.replicate n (true, false)⟩ := by
  unfold sd
  rw [if_neg (by omega)]
  congr 1
  apply List.ext_getElem <;> simp

theorem sd_len (n : Nat) (base : Int) (k : Nat) : (sd n base k).ps.length = n := by simp [sd]

theorem sd_down {n : Nat} {base : Int} {k : Nat} (hk : k < n) : (sd n base k).down k = sd n base (k + 1) := by
  have hset : ((List.range n).map fun i => if i < k then (false, false) else (true, false)).set k (false, false) = (List.range n).map fun i => if i < k + 1 then (false, false) else (true, false) := by
    apply List.ext_getElem
    · simp
    · intro i h1 h2
      rw [List.getElem_set]
      by_cases hik : k = i
      · subst hik; simp
      · rw [if_neg hik]
        simp only [List.getElem_map, List.getElem_range]
        by_cases h : i < k
        · rw [if_pos h, if_pos (by omega)]
        · rw [if_neg h, if_neg (by omega)]
  unfold St.down
  rw [if_pos (by rw [sd_len]; exact hk)]
  unfold sd
  simp only [hset]
  have hany : ((List.range n).map fun i => if i < k + 1 then (false, false) else (true, false)).any (fun p => p.1) = decide (k + 1 < n) := by
    rw [Bool.eq_iff_iff, List.any_eq_true, decide_eq_true_iff]
    constructor
    · rintro ⟨p, hp, h⟩
      obtain ⟨i, hi, rfl⟩ := List.mem_map.1 hp
      have := List.mem_range.1 hi
      split at h
      · cases h
      · omega
    · intro h
      exact ⟨(true, false), List.mem_map.2 ⟨k + 1, List.mem_range.2 h, by simp⟩, rfl⟩
  rw [hany]
  by_cases h : k + 1 < n
  · have h1 : ¬ k = n := by omega
    have h2 : ¬ k + 1 = n := by omega
    simp [h, h1, h2]
  · have h1 : k + 1 = n := by omega
    simp [h1]

/-- Behind the round k - 1 of the loop over the masks; u and d: which are up, and which of these are done. -/
def sk (n : Nat) (base start : Int) (u d : Nat → Bool) (k : Nat) : St :=
  ⟨if (List.range k).any u then 2 else 1, base, if (List.range k).any u then start else 0, (List.range n).map fun i => if i < k then (u i, u i && d i) else (false, false)⟩

theorem sk_len (n : Nat) (base start : Int) (u d : Nat → Bool) (k : Nat) : (sk n base start u d k).ps.length = n := by simp [sk]

theorem sk_zero (n : Nat) (base start : Int) (u d : Nat → Bool) : sk n base start u d 0 = sd n base n := by
  unfold sk sd
  simp

theorem any_succ (u : Nat → Bool) (k : Nat) : (List.range (k + 1)).any u = ((List.range k).any u || u k) := by
  rw [List.range_succ, List.any_append]; simp

theorem sk_set {n : Nat} {u d : Nat → Bool} {k : Nat} (p : Bool × Bool) (hp : p = (u k, u k && d k)) :
    ((List.range n).map fun i => if i < k then (u i, u i && d i) else (false, false)).set k p = (List.range n).map fun i => if i < k + 1 then (u i, u i && d i) else (false, false) := by
  apply List.ext_getElem
  · simp
  · intro i h1 h2
    rw [List.getElem_set]
    by_cases hik : k = i
    · subst hik; simp [hp]
    · rw [if_neg hik]
      simp only [List.getElem_map, List.getElem_range]
      by_cases h : i < k
      · rw [if_pos h, if_pos (by omega)]
      · rw [if_neg h, if_neg (by omega)]

section
variable {n : Nat} {base start : Int} {u d : Nat → Bool} {k : Nat}

theorem sk_none (hu : u k = false) : sk n base start u d k = sk n base start u d (k + 1) := by
  unfold sk
  rw [any_succ, hu, Bool.or_false, ← sk_set (n := n) (u := u) (d := d) (k := k) (false, false) (by rw [hu]; rfl)]
  congr 1
  apply List.ext_getElem
  · simp
  · intro i h1 h2
    rw [List.getElem_set]
    split
    · rename_i h; subst h; simp
    · rfl

theorem sk_up_ps (hk : k < n) : (sk n base start u d k).ps[k]?.getD (false, false) = (false, false) := by
  simp [sk, hk]

/-- Up at k. -/
def su (n : Nat) (base start : Int) (u d : Nat → Bool) (k : Nat) : St :=
  ⟨2, base, start, ((List.range n).map fun i => if i < k then (u i, u i && d i) else (false, false)).set k (true, false)⟩

theorem sk_up (hk : k < n) : (sk n base start u d k).up start k = su n base start u d k := by
  unfold St.up
  rw [if_pos (by rw [sk_len]; exact hk), sk_up_ps hk]
  unfold sk su
  cases (List.range k).any u <;> simp

theorem su_next (hu : u k = true) (hd : d k = false) : su n base start u d k = sk n base start u d (k + 1) := by
  unfold su sk
  rw [any_succ, hu, Bool.or_true, sk_set _ (by rw [hu, hd]; rfl)]
  simp

theorem su_done (hk : k < n) (hu : u k = true) (hd : d k = true) : (su n base start u d k).done k = sk n base start u d (k + 1) := by
  unfold St.done
  rw [if_pos ⟨by simp [su, hk], by simp [su, hk], rfl⟩]
  unfold su sk
  simp only [List.set_set]
  rw [any_succ, hu, Bool.or_true, sk_set _ (by rw [hu, hd]; rfl)]
  simp

theorem sk_done (hk : k < n) (hu : u k = false) : (sk n base start u d k).done k = sk n base start u d (k + 1) := by
  rw [← sk_none hu]
  unfold St.done
  rw [if_neg]
  rintro ⟨_, h, _⟩
  rw [sk_up_ps hk] at h
  cases h

/-- All that are up are done. -/
theorem sk_all (k : Nat) (hkn : k ≤ n) : (sk n base start u d k).ps.all (fun p => p.2 || !p.1) = (List.range k).all fun i => !u i || d i := by
  rw [Bool.eq_iff_iff, List.all_eq_true, List.all_eq_true]
  constructor
  · intro h i hi
    have := List.mem_range.1 hi
    have := h (u i, u i && d i) (List.mem_map.2 ⟨i, List.mem_range.2 (by omega), by simp [this]⟩)
    cases hu : u i <;> cases hd : d i <;> simp_all
  · intro h p hp
    obtain ⟨i, hi, rfl⟩ := List.mem_map.1 hp
    by_cases hik : i < k
    · have := h i (List.mem_range.2 hik)
      rw [if_pos hik]
      cases hu : u i <;> cases hd : d i <;> simp_all
    · rw [if_neg hik]; rfl

theorem all_succ (k : Nat) : ((List.range (k + 1)).all fun i => !u i || d i) = (((List.range k).all fun i => !u i || d i) && (!u k || d k)) := by
  rw [List.range_succ, List.all_append]; simp

theorem tick_st {s : St} {now : Int} (h : s.ends now = true) : (s.tick now).st = 0 := by
  unfold St.tick
  rw [h, if_pos rfl]
theorem tick_same {s : St} {now : Int} (h : s.ends now = false) : s.tick now = s := by
  unfold St.tick
  rw [h, if_neg (by decide)]
theorem due_small {base since : Int} (h0 : 0 ≤ base) (h1 : base ≤ 65535) (h2 : 0 ≤ since) (h3 : since ≤ 65535) : dueAt base since = since + base := by
  unfold dueAt
  rw [if_neg (by omega)]

/-- The bit i of a mask. -/
def mbit (c : Int) (i : Nat) : Bool := bits BinOp.and IntKind.u8 (c / 2 ^ i) 1 == 1

/-- A tick behind the loop. -/
theorem sk_idle (hany : (List.range n).any u = false) (now : Int) : (sk n base start u d n).ends now = false ∧ (sk n base start u d n).tick now = sk n base start u d n ∧ (sk n base start u d n).st = 1 := by
  have h1 : (sk n base start u d n).st = 1 := by unfold sk; rw [hany]; rfl
  have h2 : (sk n base start u d n).ends now = false := by unfold St.ends; rw [h1]; rfl
  refine ⟨h2, ?_, h1⟩
  unfold St.tick
  rw [h2, if_neg (by decide)]

theorem sk_ends (hany : (List.range n).any u = true) (now : Int) : (sk n base start u d n).ends now = (((List.range n).all fun i => !u i || d i) || decide (dueAt base start ≤ now)) ∧ (sk n base start u d n).st = 2 := by
  have h1 : (sk n base start u d n).st = 2 := by unfold sk; rw [hany]; rfl
  refine ⟨?_, h1⟩
  unfold St.ends
  rw [h1, sk_all n (Nat.le_refl _)]
  have h2 : (sk n base start u d n).base = base := rfl
  have h3 : (sk n base start u d n).since = start := by unfold sk; rw [hany]; rfl
  rw [h2, h3]
  rfl
end

end Go.Proofs.Ytofdmfibffcojaa
