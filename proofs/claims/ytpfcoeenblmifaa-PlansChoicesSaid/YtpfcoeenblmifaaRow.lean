/-
  Rows of cells, and insertion: what a sort by insertion makes of a list. No program is named here.
-/
import Derived.Test.YtpfcoeenblmifaaMap
import Derived.Laws.AppendOwn
import Derived.Laws.Rows
namespace Go.PC

/-- Block g has N cells, the first of which are xs. -/
def Row (w : World) (g : Nat) (e : TypeId) (N : Nat) (xs : List Value) : Prop :=
  ∃ cur, w.heap[g]? = some (.cells cur e (0, 0)) ∧ cur.size = N ∧ cur.toList.take xs.length = xs

section
variable {w w' : World} {g N : Nat} {e : TypeId} {xs ys : List Value}

theorem Row.lt (h : Row w g e N xs) : g < w.heap.size := by
  obtain ⟨cur, hg, _⟩ := h
  exact lt_of_heap hg

theorem Row.len (h : Row w g e N xs) : xs.length ≤ N := by
  obtain ⟨cur, hg, hs, ht⟩ := h
  have := congrArg List.length ht
  rw [← hs, ← Array.length_toList]
  rw [List.length_take] at this
  omega

theorem Row.cell (h : Row w g e N xs) {i : Nat} {v : Value} (hv : xs[i]? = some v) : w.cell? ⟨g, i, none⟩ = some v := by
  obtain ⟨cur, hg, hs, ht⟩ := h
  rw [cell_of_row w g i cur e (0, 0) hg]
  have hi := (List.getElem?_eq_some_iff.1 hv).1
  rw [← ht, List.getElem?_take, if_pos hi] at hv
  simpa using hv

theorem Row.frozen (h : Row w g e N xs) (i : Nat) : w.frozen? ⟨g, i, none⟩ = false := by
  obtain ⟨cur, hg, hs, ht⟩ := h
  simp [World.frozen?, hg]

theorem Row.of_block (h : Row w g e N xs) (hb : w'.heap[g]? = w.heap[g]?) : Row w' g e N xs := by
  obtain ⟨cur, hg, hs⟩ := h
  exact ⟨cur, hb.trans hg, hs⟩

theorem Row.only {S : Nat → Prop} (h : Row w g e N xs) (ho : Only S w w') (hS : ¬ S g) : Row w' g e N xs := h.of_block (ho.block g h.lt hS)

theorem Row.set (h : Row w g e N xs) (i : Nat) (v : Value) : Row (w.setCell ⟨g, i, none⟩ v) g e N (xs.set i v) := by
  obtain ⟨cur, hg, hs, ht⟩ := h
  refine ⟨cur.setIfInBounds i v, Go.heap_setCell_same w g i cur e v hg, by simpa using hs, ?_⟩
  rw [List.length_set, Array.toList_setIfInBounds, List.take_set, ht]

theorem Row.take (h : Row w g e N xs) (k : Nat) : Row w g e N (xs.take k) := by
  obtain ⟨cur, hg, hs, ht⟩ := h
  refine ⟨cur, hg, hs, ?_⟩
  rw [← ht]
  rw [List.length_take, List.length_take, List.take_take]
  congr 1
  rw [Array.length_toList]
  have := congrArg List.length ht
  rw [List.length_take, Array.length_toList] at this
  omega

theorem Row.of_owns {base size n cap : Nat} {a : Addr} (h : w.ownsRow base e size (.slice (some a) n cap) n xs) : ∃ g, a = ⟨g, 0, none⟩ ∧ base ≤ g ∧ n ≤ cap ∧ cap ≤ maxLen ∧ xs.length = n * size ∧ Row w g e (cap * size) xs := by
  obtain ⟨hl, h | ⟨g, cap', cur, hv, hb, hg, hn, hm, hs, ht⟩⟩ := h
  · exact absurd h.1 (by simp)
  · injection hv with h1 h2 h3
    injection h1 with h1
    subst h1 h3
    exact ⟨g, rfl, hb, hn, hm, hl, cur, hg, hs, by rw [hl]; exact ht⟩

theorem Row.owns {base size n cap : Nat} (h : Row w g e (cap * size) xs) (hb : base ≤ g) (hl : xs.length = n * size) (hn : n ≤ cap) (hm : cap ≤ maxLen) : w.ownsRow base e size (.slice (some ⟨g, 0, none⟩) n cap) n xs := by
  obtain ⟨cur, hg, hs, ht⟩ := h
  exact ⟨hl, Or.inr ⟨g, cap, cur, rfl, hb, hg, hn, hm, hs, by rw [← hl]; exact ht⟩⟩
end

/-! ### Insertion -/
section
variable {α : Type} (key : α → Int) (R : α → α → Prop)

def Bef (x y : α) : Prop := key x < key y ∨ (key x = key y ∧ R x y)
/-- xs in the order of their keys; those with equal keys as they were. -/
def SortedBy (xs ys : List α) : Prop := ys.Perm xs ∧ ys.Pairwise (Bef key R)

/-- The first i are in order. -/
def Ins (xs : List α) (i : Nat) (ys : List α) : Prop :=
  ∃ S, ys = S ++ xs.drop i ∧ S.length = i ∧ S.Perm (xs.take i) ∧ S.Pairwise (Bef key R)
/-- The element i has come down to j. -/
def InsI (xs : List α) (i j : Nat) (ys : List α) : Prop :=
  ∃ pre x back, ys = pre ++ x :: (back ++ xs.drop (i + 1)) ∧ pre.length = j ∧ pre.length + back.length = i ∧ xs[i]? = some x ∧ (pre ++ back).Perm (xs.take i) ∧ (pre ++ back).Pairwise (Bef key R) ∧ (∀ z ∈ back, key x < key z)

variable {key R} {xs ys : List α} {i j : Nat}

theorem Ins.start (h : xs ≠ []) : Ins key R xs 1 xs := by
  cases xs with
  | nil => exact absurd rfl h
  | cons x l => exact ⟨[x], rfl, rfl, List.Perm.refl _, by simp⟩

theorem Ins.start0 : Ins key R xs 0 xs := ⟨[], rfl, rfl, List.Perm.refl _, List.Pairwise.nil⟩

theorem Ins.length (h : Ins key R xs i ys) (hi : i ≤ xs.length) : ys.length = xs.length := by
  obtain ⟨S, rfl, hl, _, _⟩ := h
  simp
  omega

theorem Ins.down (h : Ins key R xs i ys) (hi : i < xs.length) : InsI key R xs i i ys := by
  obtain ⟨S, rfl, hl, hp, hs⟩ := h
  refine ⟨S, xs[i], [], ?_, hl, by simp [hl], List.getElem?_eq_getElem hi, by simpa using hp, by simpa using hs, by simp⟩
  rw [List.nil_append, ← List.drop_eq_getElem_cons hi]

theorem InsI.length (h : InsI key R xs i j ys) : ys.length = xs.length := by
  obtain ⟨pre, x, back, rfl, h1, h2, h3, _⟩ := h
  have := (List.getElem?_eq_some_iff.1 h3).1
  simp
  omega

theorem InsI.bound (h : InsI key R xs i j ys) : j ≤ i ∧ i < xs.length := by
  obtain ⟨pre, x, back, rfl, h1, h2, h3, _⟩ := h
  exact ⟨by omega, (List.getElem?_eq_some_iff.1 h3).1⟩

theorem InsI.go {x y : α} (h : InsI key R xs i (j + 1) ys) (hx : ys[j + 1]? = some x) (hy : ys[j]? = some y) (hlt : key x < key y) : InsI key R xs i j ((ys.set (j + 1) y).set j x) := by
  obtain ⟨pre, x', back, rfl, h1, h2, h3, h4, h5, h6⟩ := h
  have ex : x' = x := by
    rw [List.getElem?_append_right (by omega), show j + 1 - pre.length = 0 by omega] at hx
    simpa using hx
  subst ex
  obtain ⟨pre', y', rfl⟩ : ∃ pre' y', pre = pre' ++ [y'] := by
    rcases List.eq_nil_or_concat pre with h | ⟨p, q, h⟩
    · subst h; simp at h1
    · exact ⟨p, q, by simpa using h⟩
  have hl : pre'.length = j := by simpa using h1
  have ey : y' = y := by
    rw [List.append_assoc, List.getElem?_append_right (by omega), show j - pre'.length = 0 by omega] at hy
    simpa using hy
  subst ey
  refine ⟨pre', x', y' :: back, ?_, hl, by simp at h2 ⊢; omega, h3, by simpa using h4, by simpa using h5, ?_⟩
  · subst hl
    simp
  · intro z hz
    rcases List.mem_cons.1 hz with rfl | hz
    · exact hlt
    · exact h6 z hz

theorem InsI.two (h : InsI key R xs i (j + 1) ys) : ∃ x y, ys[j + 1]? = some x ∧ ys[j]? = some y := by
  have h1 := h.length
  have h2 := h.bound
  exact ⟨ys[j + 1], ys[j], List.getElem?_eq_getElem (by omega), List.getElem?_eq_getElem (by omega)⟩

theorem InsI.mem (h : InsI key R xs i j ys) {z : α} (hz : z ∈ ys) : z ∈ xs := by
  obtain ⟨pre, x, back, rfl, h1, h2, h3, h4, h5, h6⟩ := h
  have h : z ∈ pre ++ back ∨ z = x ∨ z ∈ xs.drop (i + 1) := by
    simp only [List.mem_append, List.mem_cons] at hz ⊢
    rcases hz with h | h | h | h
    · exact Or.inl (Or.inl h)
    · exact Or.inr (Or.inl h)
    · exact Or.inl (Or.inr h)
    · exact Or.inr (Or.inr h)
  rcases h with h | h | h
  · exact List.mem_of_mem_take (h4.subset h)
  · rw [h]; exact List.mem_of_getElem? h3
  · exact List.mem_of_mem_drop h

theorem pair_at {xs : List α} (hR : xs.Pairwise R) {i : Nat} {x : α} (hx : xs[i]? = some x) {y : α} (hy : y ∈ xs.take i) : R y x := by
  obtain ⟨k, hk, ek⟩ := List.getElem_of_mem hy
  obtain ⟨hi, rfl⟩ := List.getElem?_eq_some_iff.1 hx
  rw [List.getElem_take] at ek
  subst ek
  have hki : k < i := by simp at hk; omega
  exact List.pairwise_iff_getElem.1 hR k i (by omega) hi hki

theorem InsI.stop (hR : xs.Pairwise R) (h : InsI key R xs i j ys) (hs : j = 0 ∨ ∃ x y, ys[j]? = some x ∧ ys[j - 1]? = some y ∧ ¬ key x < key y) : Ins key R xs (i + 1) ys := by
  obtain ⟨pre, x, back, rfl, h1, h2, h3, h4, h5, h6⟩ := h
  have hi := (List.getElem?_eq_some_iff.1 h3).1
  refine ⟨pre ++ x :: back, by simp, by simp; omega, ?_, ?_⟩
  · have e := (List.getElem?_eq_some_iff.1 h3).2
    rw [List.take_add_one, h3, Option.toList_some]
    refine List.Perm.trans ?_ (h4.append_right [x])
    refine List.perm_middle.trans ?_
    exact (List.perm_append_singleton x (pre ++ back)).symm
  · rw [List.pairwise_append] at h5 ⊢
    obtain ⟨p1, p2, p3⟩ := h5
    have hle : ∀ y ∈ pre, ¬ key x < key y := by
      rcases hs with hs | ⟨x', y', hx, hy, hn⟩
      · intro y hy
        have hn : pre = [] := List.eq_nil_of_length_eq_zero (by omega)
        rw [hn] at hy
        cases hy
      · have ex : x = x' := by
          rw [List.getElem?_append_right (by omega), show j - pre.length = 0 by omega] at hx
          simpa using hx
        subst ex
        intro y hym
        obtain ⟨k, hk, ek⟩ := List.getElem_of_mem hym
        have hy' : pre[j - 1]? = some y' := by rw [List.getElem?_append_left (by omega)] at hy; exact hy
        obtain ⟨hj1, ej⟩ := List.getElem?_eq_some_iff.1 hy'
        rcases Nat.lt_or_ge k (j - 1) with hlt | hge
        · have := List.pairwise_iff_getElem.1 p1 k (j - 1) hk hj1 hlt
          rw [ek, ej] at this
          unfold Bef at this
          omega
        · have : k = j - 1 := by omega
          subst this
          rw [← ek, ej]
          exact hn
    refine ⟨p1, List.pairwise_cons.2 ⟨fun z hz => Or.inl (h6 z hz), p2⟩, ?_⟩
    intro y hy z hz
    rcases List.mem_cons.1 hz with rfl | hz
    · have hyx := hle y hy
      rcases Int.lt_or_le (key y) (key z) with hlt | hge
      · exact Or.inl hlt
      · exact Or.inr ⟨by omega, pair_at hR h3 (h4.subset (List.mem_append_left _ hy))⟩
    · exact p3 y hy z hz

theorem Ins.sorted (h : Ins key R xs i ys) (hi : xs.length ≤ i) : SortedBy key R xs ys := by
  obtain ⟨S, rfl, hl, hp, hs⟩ := h
  rw [List.take_of_length_le hi] at hp
  rw [List.drop_eq_nil_of_le hi, List.append_nil]
  exact ⟨hp, hs⟩
end

theorem SortedBy.length {α : Type} {key : α → Int} {R : α → α → Prop} {xs ys : List α} (h : SortedBy key R xs ys) : ys.length = xs.length := h.1.length_eq
end Go.PC
