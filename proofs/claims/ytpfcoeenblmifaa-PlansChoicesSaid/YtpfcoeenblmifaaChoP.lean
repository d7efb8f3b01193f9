/-
  Plans: the choices in the law's order: rank by rank, place by place. No walk.
-/
import Derived.Test.YtpfcoeenblmifaaUp
namespace Go.Proofs.Ytpfcoeenblmifaa
open Go.RowKit Go.PC

/-- The choice p lies ahead of the place k at the rank r. -/
def bef (P : Pn) (r : Int) (k : Nat) (p : Int × Int) : Prop := p.2 < r ∨ (p.2 = r ∧ idxOf P.ps p.1 < k)
/-- The choices ahead of it are the first n. -/
def Cnt (P : Pn) (ys : List (Int × Int)) (r : Int) (k n : Nat) : Prop := n ≤ ys.length ∧ ∀ j p, ys[j]? = some p → (j < n ↔ bef P r k p)

theorem Asc.idx {ps : List (Int × Bool)} (hs : Asc ps) {a b : Int} (ha : hasCode ps a = true) (hb : hasCode ps b = true) (h : a < b) : idxOf ps a < idxOf ps b := by
  obtain ⟨ta, ea⟩ := has_at hs ha
  obtain ⟨tb, eb⟩ := has_at hs hb
  rcases Nat.lt_trichotomy (idxOf ps a) (idxOf ps b) with h1 | h1 | h1
  · exact h1
  · rw [h1, eb] at ea
    cases ea
    omega
  · have := hs.lt eb ea h1
    simp only at this
    omega

structure ChW (P : Pn) (d : List Int) (here : Nat) (c tgt : Int) (ys : List (Int × Int)) : Prop where
  ok : PlanOK P
  hto : hasCode P.ps tgt = true
  hat : ∃ t, P.ps[here]? = some (c, t)
  hd : Dist P.ps.length (idxOf P.ps tgt) (passP P (idxOf P.ps tgt)) (adjP P) d
  ch : Chs P d here c tgt ys

theorem ChW.code {P : Pn} {d : List Int} {here : Nat} {c tgt : Int} {ys : List (Int × Int)} (h : ChW P d here c tgt ys) {p : Int × Int} (hp : p ∈ ys) : hasCode P.ps p.1 = true ∧ 0 ≤ p.2 ∧ p.2 < P.ps.length ∧ idxOf P.ps p.1 < P.ps.length := by
  obtain ⟨z, hz, ⟨m1, m2, _⟩, rfl⟩ := (h.ch.mem p).1 hp
  have hz' := others_has h.ok hz
  obtain ⟨t, ht⟩ := has_at h.ok.asc hz'
  exact ⟨hz', hOf_nonneg.1 m1, h.hd.high _, (List.getElem?_eq_some_iff.1 ht).1⟩

/-- The law's conditions say that a place is a choice. -/
theorem ChW.qual {P : Pn} {d : List Int} {here : Nat} {c tgt : Int} {ys : List (Int × Int)} (h : ChW P d here c tgt ys) {k : Nat} {ck : Int} {tk : Bool} (hk : P.ps[k]? = some (ck, tk)) {r : Int} (hr : r < 99) :
    ((o (d.map up) k = r ∧ (o (d.map up) k < o (d.map up) here ∨ (o (d.map up) k = o (d.map up) here ∧ k < here))) ∧ 0 < P.ls.countP (betw c ck) ∧ (tk = true ∨ ck = tgt)) ↔ (ck, r) ∈ ys := by
  obtain ⟨t, hat⟩ := h.hat
  have hkl : k < d.length := by rw [h.hd.len]; exact (List.getElem?_eq_some_iff.1 hk).1
  have hhl : here < d.length := by rw [h.hd.len]; exact (List.getElem?_eq_some_iff.1 hat).1
  have hdk := h.hd.high k
  have hdi := h.hd.high here
  have hlk := h.hd.low k
  have hik := idx_at h.ok.asc hk
  simp only at hik
  rw [o_up hkl, o_up hhl]
  have hadj := cnt_adj h.ok hat hk
  simp only at hadj
  rw [hadj]
  constructor
  · rintro ⟨⟨h1, h2⟩, ha, hp⟩
    have h0 : 0 ≤ o d k := by
      unfold up at h1
      split at h1 <;> omega
    have e1 : up (o d k) = o d k := by unfold up; rw [if_neg (by omega)]
    rw [e1] at h1 h2
    have hpass : passP P (idxOf P.ps tgt) k := by
      rcases hp with rfl | rfl
      · exact Or.inr ⟨ck, hk⟩
      · exact Or.inl hik.symm
    obtain ⟨hd0, hd1⟩ := h.hd.clo k h0 hpass here ha
    have e2 : up (o d here) = o d here := by unfold up; rw [if_neg (by omega)]
    rw [e2] at h2
    obtain ⟨z, hz, hzk⟩ := adj_of h.ok hat (adj_symm h.ok ha)
    simp only at hz
    have hzc : z = ck := by
      obtain ⟨t1, e⟩ := has_at h.ok.asc (others_has h.ok hz)
      rw [hzk, hk] at e
      cases e
      rfl
    subst hzc
    refine (h.ch.mem _).2 ⟨z, hz, ⟨?_, ?_, ?_⟩, by rw [hik, h1]⟩
    · rw [hik]; exact hOf_nonneg.2 h0
    · rw [hik]; exact hOf_lt h0 hd0 h2
    · rcases hp with rfl | rfl
      · exact Or.inr ⟨z, by rw [hik]; exact hk⟩
      · exact Or.inl rfl
  · intro hm
    obtain ⟨z, hz, ⟨m1, m2, m3⟩, he⟩ := (h.ch.mem _).1 hm
    have hz1 : ck = z := congrArg Prod.fst he
    have hz2 : r = o d (idxOf P.ps z) := congrArg Prod.snd he
    subst hz1
    rw [hik] at m1 m2 m3 hz2
    have h0 := hOf_nonneg.1 m1
    have hi0 : 0 ≤ o d here := hOf_nonneg.1 (by omega)
    have e1 : up (o d k) = o d k := by unfold up; rw [if_neg (by omega)]
    have e2 : up (o d here) = o d here := by unfold up; rw [if_neg (by omega)]
    rw [e1, e2]
    have hlow : o d k < o d here ∨ (o d k = o d here ∧ k < here) := by
      by_cases hl : o d k < o d here ∨ (o d k = o d here ∧ k < here)
      · exact hl
      · rcases Nat.lt_trichotomy here k with h1 | h1 | h1
        · have := hOf_lt hi0 h0 (by omega)
          omega
        · subst h1
          omega
        · have := hOf_lt hi0 h0 (by omega)
          omega
    refine ⟨⟨hz2.symm, hlow⟩, ?_, ?_⟩
    · have := adj_idx h.ok hat (z := ck) hz
      rw [hik] at this
      exact adj_symm h.ok this
    · rcases m3 with rfl | ⟨c', h3⟩
      · exact Or.inr rfl
      · rw [hk] at h3
        cases h3
        exact Or.inl rfl

theorem ChW.start {P : Pn} {d : List Int} {here : Nat} {c tgt : Int} {ys : List (Int × Int)} (h : ChW P d here c tgt ys) : Cnt P ys 0 0 0 := by
  refine ⟨Nat.zero_le _, fun j p hp => ?_⟩
  have := (h.code (List.mem_of_getElem? hp)).2.1
  unfold bef
  constructor
  · intro h1; omega
  · rintro (h1 | h1) <;> omega

theorem ChW.row {P : Pn} {d : List Int} {here : Nat} {c tgt : Int} {ys : List (Int × Int)} (h : ChW P d here c tgt ys) {r : Int} {n : Nat} (hc : Cnt P ys r P.ps.length n) : Cnt P ys (r + 1) 0 n := by
  refine ⟨hc.1, fun j p hp => ?_⟩
  have h1 := (h.code (List.mem_of_getElem? hp)).2.2.2
  rw [hc.2 j p hp]
  unfold bef
  constructor
  · rintro (h1 | h1) <;> omega
  · rintro (h1 | h1) <;> omega

theorem ChW.fin {P : Pn} {d : List Int} {here : Nat} {c tgt : Int} {ys : List (Int × Int)} (h : ChW P d here c tgt ys) (h12 : P.ps.length ≤ 12) {n : Nat} (hc : Cnt P ys 99 0 n) : n = ys.length := by
  by_cases hn : n < ys.length
  · have hp : ys[n]? = some ys[n] := List.getElem?_eq_getElem hn
    have h1 := (h.code (List.mem_of_getElem? hp)).2.2.1
    have := (hc.2 n _ hp).2 (Or.inl (by omega))
    omega
  · have := hc.1
    omega

theorem ChW.miss {P : Pn} {d : List Int} {here : Nat} {c tgt : Int} {ys : List (Int × Int)} (h : ChW P d here c tgt ys) {k : Nat} {ck : Int} {tk : Bool} (hk : P.ps[k]? = some (ck, tk)) {r : Int} {n : Nat} (hc : Cnt P ys r k n) (hm : (ck, r) ∉ ys) : Cnt P ys r (k + 1) n := by
  refine ⟨hc.1, fun j p hp => ?_⟩
  rw [hc.2 j p hp]
  unfold bef
  constructor
  · rintro (h1 | h1) <;> omega
  · rintro (h1 | ⟨h1, h2⟩)
    · exact Or.inl h1
    · by_cases he : idxOf P.ps p.1 = k
      · obtain ⟨t, e⟩ := has_at h.ok.asc (h.code (List.mem_of_getElem? hp)).1
        rw [he, hk] at e
        refine absurd (List.mem_of_getElem? hp) ?_
        have : p = (ck, r) := by
          obtain ⟨p1, p2⟩ := p
          simp only [Option.some.injEq, Prod.mk.injEq] at e h1 ⊢
          exact ⟨e.1.symm, h1⟩
        rw [this]
        exact hm
      · exact Or.inr ⟨h1, by omega⟩

theorem ChW.hit {P : Pn} {d : List Int} {here : Nat} {c tgt : Int} {ys : List (Int × Int)} (h : ChW P d here c tgt ys) {k : Nat} {ck : Int} {tk : Bool} (hk : P.ps[k]? = some (ck, tk)) {r : Int} {n : Nat} (hc : Cnt P ys r k n) (hm : (ck, r) ∈ ys) : ys[n]? = some (ck, r) ∧ Cnt P ys r (k + 1) (n + 1) := by
  have hik := idx_at h.ok.asc hk
  simp only at hik
  have hcd := has_of hk
  simp only at hcd
  obtain ⟨j, hj⟩ := List.getElem?_of_mem hm
  have hjl := (List.getElem?_eq_some_iff.1 hj).1
  have h1 : ¬ j < n := fun hlt => by
    have := (hc.2 j _ hj).1 hlt
    unfold bef at this
    simp only at this
    omega
  have lex : ∀ {a b : Nat} {p q : Int × Int}, ys[a]? = some p → ys[b]? = some q → a < b → p.2 < q.2 ∨ (p.2 = q.2 ∧ p.1 < q.1) := by
    intro a b p q ha hb hab
    obtain ⟨la, ea⟩ := List.getElem?_eq_some_iff.1 ha
    obtain ⟨lb, eb⟩ := List.getElem?_eq_some_iff.1 hb
    have := List.pairwise_iff_getElem.1 h.ch.lex a b la lb hab
    rw [ea, eb] at this
    exact this
  have hjn : j = n := by
    by_cases hlt : n < j
    · have hp : ys[n]? = some ys[n] := List.getElem?_eq_getElem (by omega)
      have hl := lex hp hj hlt
      have hcp := (h.code (List.mem_of_getElem? hp)).1
      have := (hc.2 n _ hp).2 (by
        rcases hl with hl | ⟨hl, hl2⟩
        · exact Or.inl hl
        · refine Or.inr ⟨hl, ?_⟩
          have := Asc.idx h.ok.asc hcp hcd hl2
          omega)
      omega
    · omega
  subst hjn
  refine ⟨hj, by omega, fun j' p hp => ?_⟩
  rcases Nat.lt_trichotomy j' j with hl | hl | hl
  · have := (hc.2 j' p hp).1 hl
    unfold bef at this ⊢
    constructor
    · intro _; omega
    · intro _; omega
  · subst hl
    rw [hj] at hp
    cases hp
    unfold bef
    simp only
    constructor
    · intro _; exact Or.inr ⟨trivial, by omega⟩
    · intro _; omega
  · have hl2 := lex hj hp hl
    simp only at hl2
    have hcp := (h.code (List.mem_of_getElem? hp)).1
    unfold bef
    constructor
    · intro _; omega
    · rintro (h2 | ⟨h2, h3⟩)
      · omega
      · rcases hl2 with hl2 | ⟨_, hl2⟩
        · omega
        · have := Asc.idx h.ok.asc hcd hcp hl2
          omega

end Go.Proofs.Ytpfcoeenblmifaa
