/-
  Plans: distances: the words, and where codes lie.
-/
import Derived.Test.YtpfcoeenblmifaaPJ
import Derived.Test.YtpfcoeenblmifaaPK
import Derived.Test.YtpfcoeenblmifaaBfs
namespace Go.Proofs.Ytpfcoeenblmifaa
open Go.RowKit Go.PC

def passP (P : Pn) (src m : Nat) : Prop := m = src ∨ ∃ c, P.ps[m]? = some (c, true)
def adjP (P : Pn) (m i : Nat) : Prop := ∃ p q : Int × Bool, P.ps[m]? = some p ∧ P.ps[i]? = some q ∧ q.1 ∈ othersOf P.ls p.1

theorem idx_at {ps : List (Int × Bool)} (hs : Asc ps) {i : Nat} {p : Int × Bool} (h : ps[i]? = some p) : idxOf ps p.1 = i :=
  idx_eq (Nat.le_of_lt (List.getElem?_eq_some_iff.1 h).1) (fun k q hk hki => hs.lt hk h hki) (fun k q hk hki => by
    rcases Nat.lt_or_ge i k with h' | h'
    · exact Int.le_of_lt (hs.lt h hk h')
    · have : k = i := by omega
      subst this
      rw [hk] at h
      cases h
      exact Int.le_refl _)

theorem has_at {ps : List (Int × Bool)} (hs : Asc ps) {c : Int} (h : hasCode ps c = true) : ∃ t, ps[idxOf ps c]? = some (c, t) := by
  unfold hasCode at h
  rw [List.any_eq_true] at h
  obtain ⟨p, hp, hc⟩ := h
  obtain ⟨k, hk⟩ := List.getElem?_of_mem hp
  have hc' : p.1 = c := by simpa using hc
  subst hc'
  rw [idx_at hs hk]
  exact ⟨p.2, hk⟩

theorem has_of {ps : List (Int × Bool)} {i : Nat} {p : Int × Bool} (h : ps[i]? = some p) : hasCode ps p.1 = true := by
  unfold hasCode
  rw [List.any_eq_true]
  exact ⟨p, List.mem_of_getElem? h, by simp⟩

theorem others_mem {ls : List Ln} {c z : Int} : z ∈ othersOf ls c ↔ ∃ l ∈ ls, (l.a = c ∧ l.b = z) ∨ (l.a ≠ c ∧ l.b = c ∧ l.a = z) := by
  unfold othersOf
  rw [List.mem_filterMap]
  constructor
  · rintro ⟨l, hl, h⟩
    refine ⟨l, hl, ?_⟩
    by_cases h1 : l.a = c
    · rw [if_pos h1] at h; cases h; exact Or.inl ⟨h1, rfl⟩
    · rw [if_neg h1] at h
      by_cases h2 : l.b = c
      · rw [if_pos h2] at h; cases h; exact Or.inr ⟨h1, h2, rfl⟩
      · rw [if_neg h2] at h; cases h
  · rintro ⟨l, hl, h | h⟩
    · exact ⟨l, hl, by rw [if_pos h.1, h.2]⟩
    · exact ⟨l, hl, by rw [if_neg h.1, if_pos h.2.1, h.2.2]⟩

theorem others_has {P : Pn} (hok : PlanOK P) {c z : Int} (h : z ∈ othersOf P.ls c) : hasCode P.ps z = true := by
  obtain ⟨l, hl, h | h⟩ := others_mem.1 h
  · rw [← h.2]; exact (hok.ends l hl).2
  · rw [← h.2.2]; exact (hok.ends l hl).1

theorem adj_idx {P : Pn} (hok : PlanOK P) {m : Nat} {p : Int × Bool} (hm : P.ps[m]? = some p) {z : Int} (h : z ∈ othersOf P.ls p.1) : adjP P m (idxOf P.ps z) := by
  obtain ⟨t, ht⟩ := has_at hok.asc (others_has hok h)
  exact ⟨p, (z, t), hm, ht, h⟩

theorem adj_of {P : Pn} (hok : PlanOK P) {m i : Nat} {p : Int × Bool} (hm : P.ps[m]? = some p) (h : adjP P m i) : ∃ z ∈ othersOf P.ls p.1, idxOf P.ps z = i := by
  obtain ⟨p', q, h1, h2, h3⟩ := h
  rw [hm] at h1
  cases h1
  exact ⟨q.1, h3, idx_at hok.asc h2⟩
end Go.Proofs.Ytpfcoeenblmifaa
