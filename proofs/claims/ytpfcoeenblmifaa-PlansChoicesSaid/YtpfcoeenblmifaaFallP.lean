/-
  Plans: every choice leads down.
-/
import Derived.Test.YtpfcoeenblmifaaPW
namespace Go.Proofs.Ytpfcoeenblmifaa
open Go.RowKit Go.PC

theorem countP_lt' {p q : Nat → Bool} : ∀ {l : List Nat}, (∀ x ∈ l, p x = true → q x = true) → ∀ {m : Nat}, m ∈ l → p m = false → q m = true → l.countP p < l.countP q := by
  intro l
  induction l with
  | nil => intro _ m hm; cases hm
  | cons x xs ih =>
    intro h m hm h1 h2
    have hle : xs.countP p ≤ xs.countP q := List.countP_mono_left fun y hy hp => h y (List.mem_cons_of_mem _ hy) hp
    rw [List.countP_cons, List.countP_cons]
    rcases List.mem_cons.1 hm with rfl | hm
    · rw [h1, h2]
      simp only [if_true, Bool.false_eq_true, if_false]
      omega
    · have := ih (fun y hy => h y (List.mem_cons_of_mem _ hy)) hm h1 h2
      have hx := h x (List.mem_cons_self ..)
      cases hp : p x
      · simp only [Bool.false_eq_true, if_false]
        split <;> omega
      · rw [hx hp]
        simp only [if_true]
        omega

theorem hOf_nonneg {d : List Int} {i : Nat} : 0 ≤ hOf d i ↔ 0 ≤ o d i := by
  unfold hOf
  split
  · omega
  · constructor
    · intro _; omega
    · intro _; exact Int.natCast_nonneg _

theorem hOf_le (d : List Int) (i : Nat) : -1 ≤ hOf d i ∧ hOf d i ≤ d.length := by
  unfold hOf
  split
  · omega
  · have h1 := List.countP_le_length (p := fun k => decide (0 ≤ o d k ∧ (o d k < o d i ∨ (o d k = o d i ∧ k < i)))) (l := List.range d.length)
    rw [List.length_range] at h1
    omega

theorem hOf_lt {d : List Int} {m i : Nat} (hm : 0 ≤ o d m) (hi : 0 ≤ o d i) (hlt : o d m < o d i ∨ (o d m = o d i ∧ m < i)) : hOf d m < hOf d i := by
  unfold hOf
  rw [if_neg (by omega), if_neg (by omega)]
  have := countP_lt' (p := fun k => decide (0 ≤ o d k ∧ (o d k < o d m ∨ (o d k = o d m ∧ k < m)))) (q := fun k => decide (0 ≤ o d k ∧ (o d k < o d i ∨ (o d k = o d i ∧ k < i)))) (l := List.range d.length)
    (fun x _ h => by simp only [decide_eq_true_eq] at h ⊢; omega) (m := m) (List.mem_range.2 (o_lt hm)) (by simp) (by simp only [decide_eq_true_eq]; exact ⟨hm, hlt⟩)
  omega

theorem others_symm {ls : List Ln} {c z : Int} (hab : ∀ l ∈ ls, l.a ≠ l.b) (h : z ∈ othersOf ls c) : c ∈ othersOf ls z := by
  rw [others_mem] at *
  obtain ⟨l, hl, h | h⟩ := h
  · refine ⟨l, hl, ?_⟩
    have := hab l hl
    by_cases e : l.a = z
    · exfalso; omega
    · exact Or.inr ⟨e, h.2, h.1⟩
  · exact ⟨l, hl, Or.inl ⟨h.2.2, h.2.1⟩⟩

theorem adj_symm {P : Pn} (hok : PlanOK P) {m i : Nat} (h : adjP P m i) : adjP P i m := by
  obtain ⟨p, q, h1, h2, h3⟩ := h
  exact ⟨q, p, h2, h1, others_symm (fun l hl => by have := (hok.lines l hl).1; omega) h3⟩

/-- The choices at a place. -/
structure Chs (P : Pn) (d : List Int) (here : Nat) (c tgt : Int) (ys : List (Int × Int)) : Prop where
  lex : ys.Pairwise (fun p q => p.2 < q.2 ∨ (p.2 = q.2 ∧ p.1 < q.1))
  mem : ∀ p, p ∈ ys ↔ ∃ z ∈ othersOf P.ls c, mayGo P d here tgt z ∧ p = (z, o d (idxOf P.ps z))

theorem Chs.has1 {P : Pn} {d : List Int} {at' : Nat} {c tgt : Int} {t : Bool} {ys : List (Int × Int)} (h : Chs P d at' c tgt ys) (hok : PlanOK P) (hto : hasCode P.ps tgt = true) (hat : P.ps[at']? = some (c, t)) (hne : c ≠ tgt)
    (hd : Dist P.ps.length (idxOf P.ps tgt) (passP P (idxOf P.ps tgt)) (adjP P) d) (hp : 0 < hOf d at') : ∃ y ∈ ys, y.2 = o d at' - 1 := by
  have h0 : 0 ≤ o d at' := hOf_nonneg.1 (by omega)
  have hia : idxOf P.ps c = at' := idx_at hok.asc hat
  have hns : at' ≠ idxOf P.ps tgt := fun he => by
    obtain ⟨t', ht'⟩ := has_at hok.asc hto
    rw [← he, hat] at ht'
    cases ht'
    exact hne rfl
  obtain ⟨m, h1, h2, h3, h4⟩ := hd.pre at' h0 hns
  obtain ⟨z, hz, hzm⟩ := adj_of hok hat (adj_symm hok h4)
  refine ⟨(z, o d (idxOf P.ps z)), (h.mem _).2 ⟨z, hz, ⟨?_, ?_, ?_⟩, rfl⟩, by simp only; rw [hzm]; omega⟩
  · rw [hzm]; exact hOf_nonneg.2 h1
  · rw [hzm]; exact hOf_lt h1 h0 (Or.inl (by omega))
  · rcases h3 with h3 | ⟨c', h3⟩
    · left
      obtain ⟨t1, e1⟩ := has_at hok.asc (others_has hok hz)
      obtain ⟨t2, e2⟩ := has_at hok.asc hto
      rw [hzm, h3] at e1
      rw [e1] at e2
      cases e2
      rfl
    · right
      rw [hzm]
      exact ⟨c', h3⟩

theorem Chs.first {P : Pn} {d : List Int} {at' : Nat} {c tgt : Int} {t : Bool} {y : Int × Int} {ys : List (Int × Int)} (h : Chs P d at' c tgt (y :: ys)) (hok : PlanOK P) (hto : hasCode P.ps tgt = true) (hat : P.ps[at']? = some (c, t)) (hne : c ≠ tgt)
    (hd : Dist P.ps.length (idxOf P.ps tgt) (passP P (idxOf P.ps tgt)) (adjP P) d) : 0 < hOf d at' ∧ y.2 = o d at' - 1 := by
  obtain ⟨z, hz, ⟨m1, m2, m3⟩, hy⟩ := (h.mem y).1 (List.mem_cons_self ..)
  have hp : 0 < hOf d at' := by omega
  refine ⟨hp, ?_⟩
  obtain ⟨y', hy', hr⟩ := h.has1 hok hto hat hne hd hp
  have h1 : y.2 ≤ y'.2 := by
    rcases List.mem_cons.1 hy' with rfl | hy'
    · omega
    · have := (List.pairwise_cons.1 h.lex).1 y' hy'
      omega
  have hdz : 0 ≤ o d (idxOf P.ps z) := hOf_nonneg.1 m1
  have hadj : adjP P (idxOf P.ps z) at' := adj_symm hok (adj_idx hok hat hz)
  have hpass : passP P (idxOf P.ps tgt) (idxOf P.ps z) := by
    rcases m3 with rfl | m3
    · exact Or.inl rfl
    · exact Or.inr m3
  have h2 := (hd.clo _ hdz hpass _ hadj).2
  rw [hy] at h1 ⊢
  simp only at h1 ⊢
  omega

theorem Chs.down {P : Pn} {d : List Int} {at' : Nat} {c tgt : Int} {ys : List (Int × Int)} (h : Chs P d at' c tgt ys) (hok : PlanOK P) {y : Int × Int} (hy : y ∈ ys) : hasCode P.ps y.1 = true ∧ 0 ≤ hOf d (idxOf P.ps y.1) ∧ hOf d (idxOf P.ps y.1) < hOf d at' := by
  obtain ⟨z, hz, ⟨m1, m2, _⟩, rfl⟩ := (h.mem y).1 hy
  exact ⟨others_has hok hz, m1, m2⟩

end Go.Proofs.Ytpfcoeenblmifaa
