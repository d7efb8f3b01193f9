/-
  Plans: lines in order, and what the insertion of a line makes of them.
-/
import Derived.Test.YtpfcoeenblmifaaPD
namespace Go.Proofs.Ytpfcoeenblmifaa
open Go.RowKit Go.PC

def LeK (l m : Ln) : Prop := l.a < m.a ∨ (l.a = m.a ∧ l.b ≤ m.b)
def leAB (a b : Int) (l : Ln) : Bool := decide (l.a < a) || (decide (l.a = a) && decide (l.b ≤ b))
def eqAB (a b : Int) (l : Ln) : Bool := decide (l.a = a) && decide (l.b = b)

theorem leAB_iff {a b : Int} {l : Ln} : leAB a b l = true ↔ l.a < a ∨ (l.a = a ∧ l.b ≤ b) := by simp [leAB]
theorem eqAB_iff {a b : Int} {l : Ln} : eqAB a b l = true ↔ l.a = a ∧ l.b = b := by simp [eqAB]

/-- Lines in the order of their ends; those between the same two places are numbered from 0 on. -/
structure Good (ls : List Ln) : Prop where
  sorted : ls.Pairwise LeK
  codes : ∀ i l, ls[i]? = some l → l.c = (((ls.take i).countP (eqAB l.a l.b) : Nat) : Int)

def insLn (ls : List Ln) (a b d : Int) : List Ln := ls.take (ls.countP (leAB a b)) ++ ⟨a, b, ((ls.countP (eqAB a b) : Nat) : Int), d⟩ :: ls.drop (ls.countP (leAB a b))

theorem Good.nil : Good [] := ⟨List.Pairwise.nil, fun i l h => by simp at h⟩

theorem LeK.trans' {l m : Ln} {a b : Int} (h : LeK l m) (hm : leAB a b m = true) : leAB a b l = true := by
  rw [leAB_iff] at *
  unfold LeK at h
  omega

/-- All that stand ahead of one that is not behind (a, b) are not either. -/
theorem Good.before {ls : List Ln} (h : ls.Pairwise LeK) {a b : Int} {k : Nat} {l : Ln} (hk : ls[k]? = some l) (hl : leAB a b l = true) : (ls.take (k + 1)).countP (leAB a b) = k + 1 := by
  have hlt := (List.getElem?_eq_some_iff.1 hk).1
  have hlen : (ls.take (k + 1)).length = k + 1 := by rw [List.length_take]; omega
  have hall : (ls.take (k + 1)).countP (leAB a b) = (ls.take (k + 1)).length := by
   rw [List.countP_eq_length]
   intro x hx
   obtain ⟨i, hi⟩ := List.mem_iff_getElem?.1 hx
   have hik : i < k + 1 := by
     have := (List.getElem?_eq_some_iff.1 hi).1
     omega
   rw [List.getElem?_take, if_pos hik] at hi
   by_cases he : i = k
   · subst he
     rw [hk] at hi
     cases hi
     exact hl
   · have hp := List.pairwise_iff_getElem.1 h i k (by omega) hlt (by omega)
     have e1 := (List.getElem?_eq_some_iff.1 hi).2
     have e2 := (List.getElem?_eq_some_iff.1 hk).2
     rw [e1, e2] at hp
     exact hp.trans' hl
  rw [hall, hlen]

theorem countP_step {p : Ln → Bool} {ls : List Ln} {k : Nat} {l : Ln} (hk : ls[k]? = some l) : (ls.take (k + 1)).countP p = (ls.take k).countP p + (if p l = true then 1 else 0) := by
  rw [List.take_add_one, hk, Option.toList_some, List.countP_append, List.countP_singleton]

theorem Good.at_step {ls : List Ln} (h : ls.Pairwise LeK) {a b : Int} {k : Nat} {l : Ln} (hk : ls[k]? = some l) : (ls.take (k + 1)).countP (leAB a b) = if leAB a b l = true then k + 1 else (ls.take k).countP (leAB a b) := by
  by_cases hl : leAB a b l = true
  · rw [if_pos hl, Good.before h hk hl]
  · rw [countP_step hk, if_neg hl, if_neg hl]
    rfl

/-- The lines that are not behind (a, b) come first. -/
theorem Good.split {ls : List Ln} (h : ls.Pairwise LeK) (a b : Int) : (∀ l ∈ ls.take (ls.countP (leAB a b)), leAB a b l = true) ∧ (∀ l ∈ ls.drop (ls.countP (leAB a b)), leAB a b l = false) := by
  induction ls with
  | nil => simp
  | cons x xs ih =>
    obtain ⟨h1, h2⟩ := ih (List.pairwise_cons.1 h).2
    by_cases hx : leAB a b x = true
    · rw [List.countP_cons_of_pos hx]
      refine ⟨fun l hl => ?_, fun l hl => h2 l (by simpa using hl)⟩
      rw [List.take_succ_cons] at hl
      rcases List.mem_cons.1 hl with rfl | hl
      · exact hx
      · exact h1 l hl
    · have h0 : xs.countP (leAB a b) = 0 := by
        rw [List.countP_eq_zero]
        intro y hy hle
        exact hx (((List.pairwise_cons.1 h).1 y hy).trans' hle)
      rw [List.countP_cons_of_neg hx, h0]
      refine ⟨fun l hl => by simp at hl, fun l hl => ?_⟩
      rw [List.drop_zero] at hl
      rcases List.mem_cons.1 hl with rfl | hl
      · simpa using hx
      · have := List.countP_eq_zero.1 h0 l hl
        simpa using this

theorem eq_le {a b : Int} {l : Ln} (h : eqAB a b l = true) : leAB a b l = true := by
  rw [eqAB_iff] at h
  rw [leAB_iff]
  omega

theorem count_eq_take {ls : List Ln} (h : ls.Pairwise LeK) (a b : Int) : (ls.take (ls.countP (leAB a b))).countP (eqAB a b) = ls.countP (eqAB a b) := by
  have h2 := (Good.split h a b).2
  have h0 : (ls.drop (ls.countP (leAB a b))).countP (eqAB a b) = 0 := by
    rw [List.countP_eq_zero]
    intro y hy he
    have := h2 y hy
    rw [eq_le he] at this
    cases this
  have := congrArg (List.countP (eqAB a b)) (List.take_append_drop (ls.countP (leAB a b)) ls)
  rw [List.countP_append, h0] at this
  omega

theorem insLn_length (ls : List Ln) (a b d : Int) : (insLn ls a b d).length = ls.length + 1 := by
  have := List.countP_le_length (p := leAB a b) (l := ls)
  simp [insLn]
  omega

theorem insLn_mem {ls : List Ln} {a b d : Int} {l : Ln} : l ∈ insLn ls a b d ↔ l = ⟨a, b, ((ls.countP (eqAB a b) : Nat) : Int), d⟩ ∨ l ∈ ls := by
  unfold insLn
  rw [List.mem_append, List.mem_cons]
  have : l ∈ ls ↔ l ∈ ls.take (ls.countP (leAB a b)) ∨ l ∈ ls.drop (ls.countP (leAB a b)) := by
    rw [← List.mem_append, List.take_append_drop]
  rw [this]
  constructor
  · rintro (h | h | h) <;> simp [h]
  · rintro (h | h | h) <;> simp [h]

theorem Good.insert {ls : List Ln} (h : Good ls) (a b d : Int) : Good (insLn ls a b d) := by
  have hs := Good.split h.sorted a b
  have hct := count_eq_take h.sorted a b
  have hle := List.countP_le_length (p := leAB a b) (l := ls)
  have hap : (ls.take (ls.countP (leAB a b)) ++ ls.drop (ls.countP (leAB a b))).Pairwise LeK := by rw [List.take_append_drop]; exact h.sorted
  rw [List.pairwise_append] at hap
  obtain ⟨hp1, hp2, hp3⟩ := hap
  unfold insLn
  generalize hn : ls.countP (leAB a b) = n at *
  refine ⟨?_, ?_⟩
  · rw [List.pairwise_append, List.pairwise_cons]
    refine ⟨hp1, ⟨fun y hy => ?_, hp2⟩, fun x hx y hy => ?_⟩
    · have := hs.2 y hy
      have h' : ¬ (leAB a b y = true) := by rw [this]; simp
      rw [leAB_iff] at h'
      unfold LeK
      simp only
      omega
    · rcases List.mem_cons.1 hy with rfl | hy
      · have := hs.1 x hx
        rw [leAB_iff] at this
        unfold LeK
        simpa using this
      · exact hp3 x hx y hy
  · intro i l hi
    have hlt : (ls.take n).length = n := by rw [List.length_take]; omega
    by_cases h1 : i < n
    · rw [List.getElem?_append_left (by omega), List.getElem?_take, if_pos h1] at hi
      rw [h.codes i l hi, List.take_append_of_le_length (by omega), List.take_take, Nat.min_eq_left (by omega)]
    · rw [List.getElem?_append_right (by omega), hlt] at hi
      rw [List.take_append, List.take_of_length_le (l := ls.take n) (by omega), hlt]
      rcases Nat.eq_or_lt_of_le (Nat.le_of_not_lt h1) with h2 | h2
      · subst h2
        rw [Nat.sub_self] at hi ⊢
        simp at hi
        subst hi
        simp [hct]
      · obtain ⟨j, hj⟩ : ∃ j, i = n + 1 + j := ⟨i - n - 1, by omega⟩
        subst hj
        rw [show n + 1 + j - n = j + 1 by omega] at hi ⊢
        rw [List.getElem?_cons_succ] at hi
        rw [List.take_succ_cons, List.countP_append, List.countP_cons_of_neg]
        · have hi' : ls[n + j]? = some l := by rw [← hi, List.getElem?_drop]
          rw [h.codes _ l hi', ← List.countP_append]
          congr 2
          rw [List.take_add]
        · have := hs.2 l (List.mem_of_getElem? hi)
          have h' : ¬ (leAB a b l = true) := by rw [this]; simp
          rw [leAB_iff] at h'
          rw [eqAB_iff]
          simp only
          omega

theorem Good.lt {ls : List Ln} (h : Good ls) : ls.Pairwise LtL := by
  rw [List.pairwise_iff_getElem]
  intro i j hi hj hij
  have hk := List.pairwise_iff_getElem.1 h.sorted i j hi hj hij
  have c1 := h.codes i _ (List.getElem?_eq_getElem hi)
  have c2 := h.codes j _ (List.getElem?_eq_getElem hj)
  generalize hx : ls[i] = x at *
  generalize hy : ls[j] = y at *
  unfold LeK at hk
  unfold LtL
  rcases hk with hk | ⟨hk, hk2⟩
  · exact Or.inl hk
  · refine Or.inr ⟨hk, ?_⟩
    rcases Int.lt_or_eq_of_le hk2 with h3 | h3
    · exact Or.inl h3
    · refine Or.inr ⟨h3, ?_⟩
      have hs := countP_step (p := eqAB x.a x.b) (List.getElem?_eq_getElem hi)
      rw [hx, if_pos (eqAB_iff.2 ⟨rfl, rfl⟩)] at hs
      have hm : (ls.take (i + 1)).countP (eqAB x.a x.b) ≤ (ls.take j).countP (eqAB x.a x.b) := by
        have hsub : (ls.take (i + 1)).Sublist (ls.take j) := by
          have := List.take_sublist (i + 1) (ls.take j)
          rwa [List.take_take, Nat.min_eq_left (by omega)] at this
        exact hsub.countP_le
      rw [c1, c2, ← hk, ← h3]
      omega

end Go.Proofs.Ytpfcoeenblmifaa
