/-
  Breadth first: what a search from a place finds. No program is named here.
-/
import Derived.Test.YtpfcoeenblmifaaMap
namespace Go.PC

/-- The number at i, -1 outside. -/
def o (out : List Int) (i : Nat) : Int := out.getD i (-1)

theorem o_at {out : List Int} {i : Nat} {v : Int} (h : out[i]? = some v) : o out i = v := by simp [o, List.getD_eq_getElem?_getD, h]
theorem o_out {out : List Int} {i : Nat} (h : out.length ≤ i) : o out i = -1 := by simp [o, List.getD_eq_getElem?_getD, List.getElem?_eq_none h]
theorem o_lt {out : List Int} {i : Nat} (h : 0 ≤ o out i) : i < out.length := by
  rcases Nat.lt_or_ge i out.length with h' | h'
  · exact h'
  · rw [o_out h'] at h; omega
theorem o_get {out : List Int} {i : Nat} (h : i < out.length) : out[i]? = some (o out i) := by
  rw [List.getElem?_eq_getElem h]
  simp [o, List.getD_eq_getElem?_getD, List.getElem?_eq_getElem h]
theorem o_set {out : List Int} {i : Nat} (v : Int) (h : i < out.length) (j : Nat) : o (out.set i v) j = if j = i then v else o out j := by
  unfold o
  rw [List.getD_eq_getElem?_getD, List.getD_eq_getElem?_getD, List.getElem?_set]
  by_cases e : j = i
  · subst e; simp [h]
  · rw [if_neg (fun h' => e h'.symm), if_neg e]

structure Bfs (n src : Nat) (pass : Nat → Prop) (adj : Nat → Nat → Prop) (c : Nat → Prop) (out : List Int) (q : List Nat) : Prop where
  len : out.length = n
  src0 : o out src = 0
  low : ∀ i, -1 ≤ o out i
  high : ∀ i, o out i < (out.countP fun v => decide (0 ≤ v) : Nat)
  qv : ∀ x ∈ q, 0 ≤ o out x
  clo : ∀ m, 0 ≤ o out m → m ∉ q → ¬ c m → pass m → ∀ i, adj m i → 0 ≤ o out i ∧ o out i ≤ o out m + 1
  pre : ∀ i, 0 ≤ o out i → i ≠ src → ∃ m, 0 ≤ o out m ∧ o out i = o out m + 1 ∧ pass m ∧ adj m i
  ord : q.Pairwise fun x y => o out x ≤ o out y
  top : ∀ i x, 0 ≤ o out i → x ∈ q → o out i ≤ o out x + 1

structure BfsI (n src : Nat) (pass : Nat → Prop) (adj : Nat → Nat → Prop) (m : Nat) (dn : Nat → Prop) (out : List Int) (q : List Nat) : Prop where
  base : Bfs n src pass adj (fun i => i = m) out q
  mv : 0 ≤ o out m
  qm : ∀ x ∈ q, o out m ≤ o out x
  tm : ∀ i, 0 ≤ o out i → o out i ≤ o out m + 1
  don : ∀ i, dn i → 0 ≤ o out i ∧ o out i ≤ o out m + 1

variable {n src m i : Nat} {pass : Nat → Prop} {adj : Nat → Nat → Prop} {dn dn' : Nat → Prop} {out : List Int} {q : List Nat}

theorem Bfs.start (h : src < n) : Bfs n src pass adj (fun _ => False) ((List.replicate n (-1)).set src 0) [src] := by
  have hl : src < (List.replicate n (-1 : Int)).length := by simpa using h
  have ho : ∀ j, o ((List.replicate n (-1)).set src 0) j = if j = src then 0 else -1 := fun j => by
    rw [o_set 0 hl]
    by_cases e : j = src
    · rw [if_pos e, if_pos e]
    · rw [if_neg e, if_neg e]
      unfold o
      rw [List.getD_eq_getElem?_getD, List.getElem?_replicate]
      split <;> rfl
  have hc : ((List.replicate n (-1 : Int)).set src 0).countP (fun v => decide (0 ≤ v)) = 1 := by
    rw [List.countP_set hl]
    simp [List.countP_replicate]
  refine ⟨by simp, by rw [ho, if_pos rfl], ?_, ?_, ?_, ?_, ?_, by simp, ?_⟩
  · intro i; rw [ho]; split <;> omega
  · intro i; rw [ho, hc]; split <;> omega
  · intro x hx; rw [List.mem_singleton] at hx; rw [ho, if_pos hx]; omega
  · intro m hm hq
    rw [ho] at hm
    split at hm
    · rename_i e; exact absurd (by simp [e]) hq
    · omega
  · intro i hi hne; rw [ho, if_neg hne] at hi; omega
  · intro i x hi hx
    rw [List.mem_singleton] at hx
    rw [ho, ho, if_pos hx]
    split <;> omega

theorem Bfs.pop (h : Bfs n src pass adj (fun _ => False) out (m :: q)) : BfsI n src pass adj m (fun _ => False) out q := by
  refine ⟨⟨h.len, h.src0, h.low, h.high, fun x hx => h.qv x (List.mem_cons_of_mem _ hx), ?_, h.pre, (List.pairwise_cons.1 h.ord).2, fun i x hi hx => h.top i x hi (List.mem_cons_of_mem _ hx)⟩, h.qv m (List.mem_cons_self ..), (List.pairwise_cons.1 h.ord).1, fun i hi => h.top i m hi (List.mem_cons_self ..), fun _ h => h.elim⟩
  intro k hk hq hc hp
  exact h.clo k hk (fun hm => by rcases List.mem_cons.1 hm with e | e; exact hc e; exact hq e) (fun h => h) hp

theorem BfsI.skip (h : BfsI n src pass adj m dn out q) (hi : 0 ≤ o out i) (hd : ∀ j, dn' j → dn j ∨ j = i) : BfsI n src pass adj m dn' out q :=
  ⟨h.base, h.mv, h.qm, h.tm, fun j hj => by
    rcases hd j hj with h' | rfl
    · exact h.don j h'
    · exact ⟨hi, h.tm j hi⟩⟩

theorem BfsI.visit (h : BfsI n src pass adj m dn out q) (hil : i < n) (hi : o out i < 0) (hp : pass m) (ha : adj m i) (hd : ∀ j, dn' j → dn j ∨ j = i) : BfsI n src pass adj m dn' (out.set i (o out m + 1)) (q ++ [i]) := by
  have b := h.base
  have hl : i < out.length := by rw [b.len]; exact hil
  have ho := o_set (out := out) (o out m + 1) hl
  have hmi : m ≠ i := fun e => by rw [e] at h; have := h.mv; omega
  have hmv := h.mv
  have hom : o (out.set i (o out m + 1)) m = o out m := by rw [ho, if_neg hmi]
  have hoi : o (out.set i (o out m + 1)) i = o out m + 1 := by rw [ho, if_pos rfl]
  have hold : ∀ j, 0 ≤ o out j → o (out.set i (o out m + 1)) j = o out j := fun j hj => by rw [ho, if_neg (fun e => by rw [e] at hj; omega)]
  have hc : (out.set i (o out m + 1)).countP (fun v => decide (0 ≤ v)) = out.countP (fun v => decide (0 ≤ v)) + 1 := by
    rw [List.countP_set hl]
    have e : out[i] = o out i := by
      have := o_get hl
      rw [List.getElem?_eq_getElem hl] at this
      exact Option.some.inj this
    rw [e]
    simp [show ¬ 0 ≤ o out i by omega, show 0 ≤ o out m + 1 by omega]
  refine ⟨⟨by rw [List.length_set]; exact b.len, ?_, ?_, ?_, ?_, ?_, ?_, ?_, ?_⟩, by rw [hom]; exact hmv, ?_, ?_, ?_⟩
  · rw [hold src (by rw [b.src0]; omega)]; exact b.src0
  · intro j
    rw [ho]
    have := b.low j
    split <;> omega
  · intro j
    rw [ho, hc]
    have := b.high j
    have := b.high m
    split <;> omega
  · intro x hx
    rcases List.mem_append.1 hx with hx | hx
    · have := b.qv x hx
      rw [hold x this]; exact this
    · rw [List.mem_singleton] at hx; rw [hx, hoi]; omega
  · intro k hk hq hcm hpk j haj
    have hki : k ≠ i := fun e => hq (List.mem_append_right _ (by simp [e]))
    rw [ho k, if_neg hki] at hk
    obtain ⟨h1, h2⟩ := b.clo k hk (fun hm => hq (List.mem_append_left _ hm)) hcm hpk j haj
    rw [hold j h1, hold k hk]
    exact ⟨h1, h2⟩
  · intro j hj hne
    rw [ho] at hj
    by_cases e : j = i
    · exact ⟨m, by rw [hom]; exact hmv, by rw [e, hoi, hom], hp, e ▸ ha⟩
    · rw [if_neg e] at hj
      obtain ⟨k, h1, h2, h3, h4⟩ := b.pre j hj hne
      exact ⟨k, by rw [hold k h1]; exact h1, by rw [hold j hj, hold k h1]; exact h2, h3, h4⟩
  · rw [List.pairwise_append]
    refine ⟨?_, by simp, ?_⟩
    · refine List.Pairwise.imp_of_mem ?_ b.ord
      intro x y hx hy hxy
      rw [hold x (b.qv x hx), hold y (b.qv y hy)]
      exact hxy
    · intro x hx y hy
      rw [List.mem_singleton] at hy
      rw [hy, hoi, hold x (b.qv x hx)]
      exact h.tm x (b.qv x hx)
  · intro j x hj hx
    rcases List.mem_append.1 hx with hx | hx
    · rw [hold x (b.qv x hx)]
      rw [ho] at hj ⊢
      have := h.qm x hx
      split
      · omega
      · rename_i e
        rw [if_neg e] at hj
        exact b.top j x hj hx
    · rw [List.mem_singleton] at hx
      rw [hx, hoi]
      rw [ho] at hj ⊢
      split
      · omega
      · rename_i e
        rw [if_neg e] at hj
        have := h.tm j hj
        omega
  · intro x hx
    rw [hom]
    rcases List.mem_append.1 hx with hx | hx
    · rw [hold x (b.qv x hx)]; exact h.qm x hx
    · rw [List.mem_singleton] at hx; rw [hx, hoi]; omega
  · intro j hj
    rw [hom]
    rw [ho] at hj ⊢
    split
    · omega
    · rename_i e
      rw [if_neg e] at hj
      exact h.tm j hj
  · intro j hj
    rw [hom]
    rcases hd j hj with h' | rfl
    · obtain ⟨h1, h2⟩ := h.don j h'
      rw [hold j h1]; exact ⟨h1, h2⟩
    · rw [hoi]; omega

theorem BfsI.finish (h : BfsI n src pass adj m dn out q) (hd : pass m → ∀ i, adj m i → dn i) : Bfs n src pass adj (fun _ => False) out q := by
  have b := h.base
  refine ⟨b.len, b.src0, b.low, b.high, b.qv, ?_, b.pre, b.ord, b.top⟩
  intro k hk hq _ hp i ha
  by_cases e : k = m
  · subst e
    exact h.don i (hd hp i ha)
  · exact b.clo k hk hq e hp i ha

/-- What a search finds. -/
structure Dist (n src : Nat) (pass : Nat → Prop) (adj : Nat → Nat → Prop) (out : List Int) : Prop where
  len : out.length = n
  src0 : o out src = 0
  low : ∀ i, -1 ≤ o out i
  high : ∀ i, o out i < n
  clo : ∀ m, 0 ≤ o out m → pass m → ∀ i, adj m i → 0 ≤ o out i ∧ o out i ≤ o out m + 1
  pre : ∀ i, 0 ≤ o out i → i ≠ src → ∃ m, 0 ≤ o out m ∧ o out i = o out m + 1 ∧ pass m ∧ adj m i

theorem Bfs.dist (h : Bfs n src pass adj (fun _ => False) out []) : Dist n src pass adj out :=
  ⟨h.len, h.src0, h.low, fun i => by
    have h1 := h.high i
    have h2 := List.countP_le_length (p := fun v => decide ((0 : Int) ≤ v)) (l := out)
    have h3 := h.len
    omega, fun m hm hp => h.clo m hm (by simp) (fun h => h) hp, h.pre⟩

theorem Dist.le {out1 out2 : List Int} (h1 : Dist n src pass adj out1) (h2 : Dist n src pass adj out2) : ∀ (k : Nat) (i : Nat), o out1 i = (k : Int) → 0 ≤ o out2 i ∧ o out2 i ≤ k := by
  intro k
  induction k with
  | zero =>
    intro i hi
    by_cases e : i = src
    · rw [e, h2.src0]; omega
    · obtain ⟨m, a1, a2, _⟩ := h1.pre i (by omega) e
      omega
  | succ k ih =>
    intro i hi
    by_cases e : i = src
    · rw [e, h2.src0]; omega
    · obtain ⟨m, a1, a2, a3, a4⟩ := h1.pre i (by omega) e
      obtain ⟨b1, b2⟩ := ih m (by omega)
      obtain ⟨c1, c2⟩ := h2.clo m b1 a3 i a4
      omega

/-- There is one. -/
theorem Dist.unique {out1 out2 : List Int} (h1 : Dist n src pass adj out1) (h2 : Dist n src pass adj out2) : out1 = out2 := by
  apply List.ext_getElem?
  intro i
  rcases Nat.lt_or_ge i n with hi | hi
  · rw [o_get (by rw [h1.len]; exact hi), o_get (by rw [h2.len]; exact hi)]
    congr 1
    have l1 := h1.low i
    have l2 := h2.low i
    by_cases c1 : 0 ≤ o out1 i
    · obtain ⟨k, hk⟩ : ∃ k : Nat, o out1 i = k := ⟨(o out1 i).toNat, by omega⟩
      obtain ⟨a1, a2⟩ := h1.le h2 k i hk
      obtain ⟨k', hk'⟩ : ∃ k : Nat, o out2 i = k := ⟨(o out2 i).toNat, by omega⟩
      obtain ⟨b1, b2⟩ := h2.le h1 k' i hk'
      omega
    · by_cases c2 : 0 ≤ o out2 i
      · obtain ⟨k', hk'⟩ : ∃ k : Nat, o out2 i = k := ⟨(o out2 i).toNat, by omega⟩
        obtain ⟨b1, b2⟩ := h2.le h1 k' i hk'
        omega
      · omega
  · rw [List.getElem?_eq_none (by rw [h1.len]; exact hi), List.getElem?_eq_none (by rw [h2.len]; exact hi)]

/-- The unseen. -/
def unseen (out : List Int) : Nat := out.countP fun v => decide (v < 0)
theorem unseen_set {v : Int} (hl : i < out.length) (hi : o out i < 0) (hv : 0 ≤ v) : unseen (out.set i v) + 1 = unseen out := by
  unfold unseen
  have e : out[i] = o out i := by
    have := o_get hl
    rw [List.getElem?_eq_getElem hl] at this
    exact Option.some.inj this
  have hpos : 0 < out.countP fun v => decide (v < 0) := List.countP_pos_iff.2 ⟨out[i], List.getElem_mem hl, by rw [e]; simpa using hi⟩
  rw [List.countP_set hl, e]
  simp [hi, show ¬ v < 0 by omega]
  omega
end Go.PC
