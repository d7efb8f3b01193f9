/-
  Distances by lowering until nothing changes. No program is named here.
-/
import Derived.Test.YtpfcoeenblmifaaBfs
import Derived.Test.YtpfcoeenblmifaaRow
namespace Go.PC

/-- Between the distances and no way at all. -/
structure Rel (n src : Nat) (d out : List Int) : Prop where
  len : out.length = n
  src0 : o out src = 0
  val : ∀ i, i < n → (o out i = 99 ∨ (0 ≤ o d i ∧ o d i ≤ o out i ∧ o out i < 99))

def tot (out : List Int) : Nat := (out.map Int.toNat).sum

theorem tot_set {v : Int} : ∀ {out : List Int} {i : Nat}, i < out.length → 0 ≤ v → v < o out i → tot (out.set i v) < tot out := by
  intro out
  induction out with
  | nil => intro i h; simp at h
  | cons x xs ih =>
    intro i hi h0 hlt
    cases i with
    | zero =>
      have : o (x :: xs) 0 = x := by simp [o]
      rw [this] at hlt
      simp only [tot, List.set_cons_zero, List.map_cons, List.sum_cons]
      omega
    | succ i =>
      have hi' : i < xs.length := by simpa using hi
      have he : o (x :: xs) (i + 1) = o xs i := by simp [o]
      rw [he] at hlt
      have := ih hi' h0 hlt
      simp only [tot, List.set_cons_succ, List.map_cons, List.sum_cons] at this ⊢
      omega

section
variable {n src : Nat} {pass : Nat → Prop} {adj : Nat → Nat → Prop} {d out out0 : List Int}

theorem Rel.low (h : Rel n src d out) {i : Nat} (hi : i < n) : 0 ≤ o out i ∧ o out i ≤ 99 := by
  rcases h.val i hi with h | h <;> omega

theorem Rel.step (hd : Dist n src pass adj d) (h : Rel n src d out) {i k : Nat} (hi : i < n) (hk : k < n) (hp : pass k) (ha : adj k i) (hlt : o out k + 1 < o out i) : Rel n src d (out.set i (o out k + 1)) := by
  have hl : i < out.length := by rw [h.len]; exact hi
  have lk := h.low hk
  have li := h.low hi
  have hns : i ≠ src := fun e => by rw [e, h.src0] at hlt; omega
  have ho := o_set (out := out) (o out k + 1) hl
  refine ⟨by rw [List.length_set]; exact h.len, by rw [ho, if_neg (fun e => hns e.symm)]; exact h.src0, fun j hj => ?_⟩
  rw [ho]
  by_cases e : j = i
  · rw [if_pos e]
    subst e
    rcases h.val k hk with hv | hv
    · omega
    · have := hd.clo k hv.1 hp j ha
      exact Or.inr (by omega)
  · rw [if_neg e]
    exact h.val j hj

theorem Rel.start (hs : src < n) (hd : Dist n src pass adj d) : Rel n src d ((List.range n).map fun i => if i = src then 0 else 99) := by
  have ho : ∀ i, i < n → o ((List.range n).map fun i => if i = src then (0 : Int) else 99) i = if i = src then 0 else 99 := fun i hi => o_at (by simp [List.getElem?_range hi])
  refine ⟨by simp, by rw [ho src hs, if_pos rfl], fun i hi => ?_⟩
  rw [ho i hi]
  by_cases e : i = src
  · rw [if_pos e, e, hd.src0]; exact Or.inr (by omega)
  · rw [if_neg e]; exact Or.inl rfl

/-- What has been looked at is in order. -/
def Chk (n : Nat) (pass : Nat → Prop) (adj : Nat → Nat → Prop) (out : List Int) (i k : Nat) : Prop :=
  ∀ i' k', k' < n → (i' < i ∨ (i' = i ∧ k' < k)) → pass k' → adj k' i' → o out i' ≤ o out k' + 1

/-- The pass over all pairs. -/
def Pst (n : Nat) (pass : Nat → Prop) (adj : Nat → Nat → Prop) (out0 : List Int) (c : Bool) (out : List Int) (i k : Nat) : Prop :=
  (c = false ∧ out = out0 ∧ Chk n pass adj out i k) ∨ (c = true ∧ tot out < tot out0)

theorem Pst.start : Pst n pass adj out false out 0 0 := Or.inl ⟨rfl, rfl, fun i' k' _ h => by omega⟩
theorem Pst.next {c : Bool} {i : Nat} (h : Pst n pass adj out0 c out i n) : Pst n pass adj out0 c out (i + 1) 0 := by
  rcases h with ⟨h1, h2, h3⟩ | h
  · refine Or.inl ⟨h1, h2, fun i' k' hk hik => h3 i' k' hk ?_⟩
    omega
  · exact Or.inr h
theorem Pst.skip {c : Bool} {i k : Nat} (h : Pst n pass adj out0 c out i k) (hs : pass k → adj k i → o out i ≤ o out k + 1) : Pst n pass adj out0 c out i (k + 1) := by
  rcases h with ⟨h1, h2, h3⟩ | h
  · refine Or.inl ⟨h1, h2, fun i' k' hk hik hp ha => ?_⟩
    by_cases e : i' = i ∧ k' = k
    · obtain ⟨rfl, rfl⟩ := e
      exact hs hp ha
    · exact h3 i' k' hk (by omega) hp ha
  · exact Or.inr h
theorem Pst.low {c : Bool} {i k j : Nat} {v : Int} (h : Pst n pass adj out0 c out i k) (hj : j < out.length) (h0 : 0 ≤ v) (hv : v < o out j) : Pst n pass adj out0 true (out.set j v) i (k + 1) := by
  have h1 := tot_set hj h0 hv
  rcases h with ⟨_, rfl, _⟩ | ⟨_, h⟩
  · exact Or.inr ⟨rfl, h1⟩
  · exact Or.inr ⟨rfl, by omega⟩

theorem Rel.fin (hd : Dist n src pass adj d) (h : Rel n src d out) (hn : n ≤ 12) (hc : Chk n pass adj out n 0) (hlt : ∀ k i, adj k i → k < n ∧ i < n) : out = d.map fun v => if v < 0 then 99 else v := by
  have key : ∀ (v : Nat) (i : Nat), i < n → o d i = (v : Int) → o out i ≤ v := by
    intro v
    induction v with
    | zero =>
      intro i hi hv
      by_cases e : i = src
      · rw [e, h.src0]; omega
      · obtain ⟨m, a1, a2, _⟩ := hd.pre i (by omega) e
        omega
    | succ v ih =>
      intro i hi hv
      by_cases e : i = src
      · rw [e, hd.src0] at hv; omega
      · obtain ⟨m, a1, a2, a3, a4⟩ := hd.pre i (by omega) e
        have hm := (hlt m i a4).1
        have h1 := ih m hm (by omega)
        have h2 := hc i m hm (Or.inl hi) a3 a4
        omega
  apply List.ext_getElem?
  intro i
  rcases Nat.lt_or_ge i n with hi | hi
  · rw [List.getElem?_map, o_get (by rw [h.len]; exact hi), o_get (by rw [hd.len]; exact hi)]
    simp only [Option.map_some]
    congr 1
    have hh := hd.high i
    have hv := h.val i hi
    by_cases e : o d i < 0
    · rw [if_pos e]; omega
    · rw [if_neg e]
      have := key (o d i).toNat i hi (by omega)
      omega
  · rw [List.getElem?_eq_none (by rw [h.len]; exact hi), List.getElem?_eq_none (by rw [List.length_map, hd.len]; exact hi)]

end

theorem Row.ex {w : World} {g N : Nat} {e : TypeId} {xs : List Value} (h : Row w g e N xs) {i : Nat} (hi : i < N) : ∃ v, w.cell? ⟨g, i, none⟩ = some v := by
  obtain ⟨cur, hg, hs, _⟩ := h
  exact ⟨cur[i]'(by omega), by rw [cell_of_row w g i cur e (0, 0) hg]; exact Array.getElem?_eq_getElem (by omega)⟩

theorem Row.push {w : World} {g N : Nat} {e : TypeId} {xs : List Value} (h : Row w g e N xs) (hl : xs.length < N) (v : Value) : Row (w.setCell ⟨g, xs.length, none⟩ v) g e N (xs ++ [v]) := by
  obtain ⟨cur, hg, hs, ht⟩ := h
  refine ⟨cur.setIfInBounds xs.length v, Go.heap_setCell_same w g xs.length cur e v hg, by simpa using hs, ?_⟩
  have hlt : xs.length < cur.toList.length := by have h1 : cur.toList.length = cur.size := Array.length_toList; omega
  rw [Array.toList_setIfInBounds, List.length_append, List.length_singleton, List.take_add_one, List.take_set, ht, List.getElem?_set_self hlt, Option.toList_some]
  congr 1
  exact List.set_eq_of_length_le (Nat.le_refl _)

end Go.PC
