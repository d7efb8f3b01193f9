/-
  Plans: the example's numbers.
-/
import Derived.Test.YtpfcoeenblmifaaPY
namespace Go.Proofs.Ytpfcoeenblmifaa
open Go.RowKit Go.PC

def adjB (P : Pn) (m i : Nat) : Bool := match P.ps[m]?, P.ps[i]? with | some p, some q => (othersOf P.ls p.1).contains q.1 | _, _ => false
theorem adj_iff {P : Pn} {m i : Nat} : adjP P m i ↔ adjB P m i = true := by
  unfold adjP adjB
  cases P.ps[m]? with
  | none => simp
  | some p =>
    cases P.ps[i]? with
    | none => simp
    | some q => simp
def passB (P : Pn) (src m : Nat) : Bool := m == src || (match P.ps[m]? with | some p => p.2 | none => false)
theorem pass_iff {P : Pn} {src m : Nat} : passP P src m ↔ passB P src m = true := by
  unfold passP passB
  rw [Bool.or_eq_true, beq_iff_eq]
  cases P.ps[m]? with
  | none => simp
  | some p => obtain ⟨c, t⟩ := p; simp
theorem adj_lt {P : Pn} {m i : Nat} (h : adjP P m i) : m < P.ps.length ∧ i < P.ps.length := by
  obtain ⟨p, q, h1, h2, _⟩ := h
  exact ⟨(List.getElem?_eq_some_iff.1 h1).1, (List.getElem?_eq_some_iff.1 h2).1⟩

theorem ring_dist : Dist 4 3 (passP ringP 3) (adjP ringP) [2, 1, 1, 0] := by
  have hlt : ∀ i, 0 ≤ o [2, 1, 1, 0] i → i < 4 := fun i h => o_lt h
  refine ⟨rfl, rfl, ?_, ?_, ?_, ?_⟩
  · intro i
    rcases Nat.lt_or_ge i 4 with h | h
    · have : ∀ i, i < 4 → -1 ≤ o [2, 1, 1, 0] i := by decide
      exact this i h
    · rw [o_out (by simpa using h)]; omega
  · intro i
    rcases Nat.lt_or_ge i 4 with h | h
    · have : ∀ i, i < 4 → o [2, 1, 1, 0] i < ((4 : Nat) : Int) := by decide
      exact this i h
    · rw [o_out (by simpa using h)]; omega
  · intro m hm hp i ha
    have hi := (adj_lt ha).2
    rw [pass_iff] at hp
    rw [adj_iff] at ha
    have key : ∀ m, m < 4 → ∀ i, i < 4 → passB ringP 3 m = true → adjB ringP m i = true → 0 ≤ o [2, 1, 1, 0] i ∧ o [2, 1, 1, 0] i ≤ o [2, 1, 1, 0] m + 1 := by decide
    exact key m (hlt m hm) i (by simpa [ringP] using hi) hp ha
  · intro i hi hne
    have key : ∀ i, i < 4 → i ≠ 3 → ∃ m, m < 4 ∧ 0 ≤ o [2, 1, 1, 0] m ∧ o [2, 1, 1, 0] i = o [2, 1, 1, 0] m + 1 ∧ passB ringP 3 m = true ∧ adjB ringP m i = true := by decide
    obtain ⟨m, h0, h1, h2, h3, h4⟩ := key i (hlt i hi) hne
    exact ⟨m, h1, h2, pass_iff.2 h3, adj_iff.2 h4⟩

theorem ring_hts {h : List Int} (hh : Hts [2, 1, 1, 0] h) : h = [3, 1, 2, 0] := by
  have hl := hh.len
  apply List.ext_getElem?
  intro i
  rcases Nat.lt_or_ge i 4 with hi | hi
  · rw [o_get (by rw [hl]; exact hi), hh.eq (by exact hi)]
    have : ∀ i, i < 4 → some (hOf [2, 1, 1, 0] i) = ([3, 1, 2, 0] : List Int)[i]? := by decide
    exact this i hi
  · rw [List.getElem?_eq_none (by rw [hl]; exact hi), List.getElem?_eq_none (by exact hi)]

/-- The order of choices. -/
def Lex (p q : Int × Int) : Prop := p.2 < q.2 ∨ (p.2 = q.2 ∧ p.1 < q.1)
theorem lex_unique {ys zs : List (Int × Int)} (h1 : ys.Pairwise Lex) (h2 : zs.Pairwise Lex) (hm : ∀ p, p ∈ ys ↔ p ∈ zs) : ys = zs := by
  have hn : ∀ {l : List (Int × Int)}, l.Pairwise Lex → l.Nodup := fun h => h.imp fun {a b} hab e => by subst e; unfold Lex at hab; omega
  exact List.Perm.eq_of_pairwise (le := Lex) (fun a b _ _ hab hba => by unfold Lex at hab hba; omega) h1 h2 ((List.perm_ext_iff_of_nodup (hn h1) (hn h2)).2 hm)

def mayB (P : Pn) (d : List Int) (here : Nat) (tgt z : Int) : Bool :=
  decide (0 ≤ hOf d (idxOf P.ps z)) && (decide (hOf d (idxOf P.ps z) < hOf d here) && (decide (z = tgt) || (match P.ps[idxOf P.ps z]? with | some p => p.2 | none => false)))
theorem may_iff {P : Pn} {d : List Int} {here : Nat} {tgt z : Int} : mayGo P d here tgt z ↔ mayB P d here tgt z = true := by
  unfold mayGo mayB
  rw [Bool.and_eq_true, Bool.and_eq_true, Bool.or_eq_true, decide_eq_true_eq, decide_eq_true_eq, decide_eq_true_eq]
  cases P.ps[idxOf P.ps z]? with
  | none => simp
  | some p => obtain ⟨c, t⟩ := p; simp

/-- The choices, in a list. -/
def mayL (P : Pn) (d : List Int) (here : Nat) (tgt src : Int) : List (Int × Int) := ((othersOf P.ls src).filter (mayB P d here tgt)).map fun z => (z, o d (idxOf P.ps z))
theorem mem_mayL {P : Pn} {d : List Int} {here : Nat} {tgt src : Int} {p : Int × Int} : p ∈ mayL P d here tgt src ↔ ∃ z ∈ othersOf P.ls src, mayGo P d here tgt z ∧ p = (z, o d (idxOf P.ps z)) := by
  unfold mayL
  rw [List.mem_map]
  constructor
  · rintro ⟨z, hz, rfl⟩
    rw [List.mem_filter] at hz
    exact ⟨z, hz.1, may_iff.2 hz.2, rfl⟩
  · rintro ⟨z, hz, hm, rfl⟩
    exact ⟨z, List.mem_filter.2 ⟨hz, may_iff.1 hm⟩, rfl⟩

theorem ring_choices3 {ys : List (Int × Int)} (h1 : ys.Pairwise Lex) (h2 : ∀ p, p ∈ ys ↔ ∃ z ∈ othersOf ringP.ls 3, mayGo ringP [2, 1, 1, 0] 2 4 z ∧ p = (z, o [2, 1, 1, 0] (idxOf ringP.ps z))) : ys = [(4, 0), (2, 1)] := by
  refine lex_unique h1 (by simp [Lex]) fun p => ?_
  rw [h2 p, ← mem_mayL]
  have : mayL ringP [2, 1, 1, 0] 2 4 3 = [(2, 1), (4, 0)] := by decide
  rw [this]
  simp
  exact Or.comm
theorem ring_choices2 {ys : List (Int × Int)} (h1 : ys.Pairwise Lex) (h2 : ∀ p, p ∈ ys ↔ ∃ z ∈ othersOf ringP.ls 2, mayGo ringP [2, 1, 1, 0] 1 4 z ∧ p = (z, o [2, 1, 1, 0] (idxOf ringP.ps z))) : ys = [(4, 0)] := by
  refine lex_unique h1 (by simp) fun p => ?_
  rw [h2 p, ← mem_mayL]
  have : mayL ringP [2, 1, 1, 0] 1 4 2 = [(4, 0)] := by decide
  rw [this]

end Go.Proofs.Ytpfcoeenblmifaa
