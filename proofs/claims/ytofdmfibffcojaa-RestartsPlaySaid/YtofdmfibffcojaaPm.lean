/-
  A machine over the points b, b + 1, .. as a plain state, and its methods as plain functions.
-/
import Derived.Test.YtofdmfibffcojaaMach7
namespace Go.Proofs.Ytofdmfibffcojaa
open Go.RowKit Go.PC

/-- The links of the points b, b + 1, ... -/
def lk (b : Int) (ps : List (Bool × Bool)) : Links := fun k => if b ≤ k then ps[(k - b).toNat]? else none

theorem lk_at (b : Int) (ps : List (Bool × Bool)) (i : Nat) : lk b ps (b + i) = ps[i]? := by
  unfold lk
  rw [if_pos (by omega)]
  congr 1
  omega

theorem lk_some {b : Int} {ps : List (Bool × Bool)} {k : Int} {p : Bool × Bool} (h : lk b ps k = some p) : ∃ i, ps[i]? = some p ∧ k = b + (i : Nat) := by
  unfold lk at h
  split at h
  · exact ⟨_, h, by omega⟩
  · cases h

theorem lk_set (b : Int) (ps : List (Bool × Bool)) (i : Nat) (hi : i < ps.length) (p : Bool × Bool) : upd (lk b ps) (b + i) (some p) = lk b (ps.set i p) := by
  funext k
  unfold upd
  by_cases hk : k = b + i
  · subst hk
    rw [if_pos rfl, lk_at]
    simp [hi]
  · rw [if_neg hk]
    unfold lk
    split
    · rw [List.getElem?_set_ne (by omega)]
    · rfl

theorem lk_fresh (b : Int) (ps : List (Bool × Bool)) : fresh (lk b ps) = lk b (ps.map fun p => (p.1, false)) := by
  funext k
  unfold fresh lk
  split
  · simp
  · rfl

theorem lk_tab (b : Int) (n : Nat) : tab ((List.range n).map fun i => b + ((i : Nat) : Int)) = lk b (List.replicate n (true, false)) := by
  funext k
  unfold tab lk
  by_cases hk : b ≤ k ∧ (k - b).toNat < n
  · rw [if_pos hk.1, if_pos (List.mem_map.2 ⟨(k - b).toNat, List.mem_range.2 hk.2, by omega⟩)]
    simp [hk.2]
  · rw [if_neg]
    · split
      · rename_i h
        have : ¬ (k - b).toNat < n := fun h' => hk ⟨h, h'⟩
        simp [this]
      · rfl
    · intro hm
      obtain ⟨i, hi, rfl⟩ := List.mem_map.1 hm
      exact hk ⟨by omega, by have := List.mem_range.1 hi; omega⟩

/-- A machine's state. -/
structure St where
  st : Int
  base : Int
  since : Int
  ps : List (Bool × Bool)

def St.up (s : St) (now : Int) (i : Nat) : St :=
  if i < s.ps.length then { st := if s.st = 1 then 2 else s.st, base := s.base, since := if s.st = 1 then now else s.since, ps := s.ps.set i (true, (s.ps[i]?.getD (false, false)).2) } else s
def St.down (s : St) (i : Nat) : St :=
  if i < s.ps.length then { st := if (s.ps.set i (false, false)).any (fun p => p.1) then s.st else 1, base := s.base, since := s.since, ps := s.ps.set i (false, false) } else s
def St.done (s : St) (i : Nat) : St :=
  if i < s.ps.length ∧ (s.ps[i]?.getD (false, false)).1 = true ∧ s.st = 2 then { s with ps := s.ps.set i (true, true) } else s
def St.ends (s : St) (now : Int) : Bool := decide (s.st = 2) && (s.ps.all (fun p => p.2 || !p.1) || decide (dueAt s.base s.since ≤ now))
def St.tick (s : St) (now : Int) : St := if s.ends now then { s with st := 0, ps := s.ps.map fun p => (p.1, false) } else s
def St.err (s : St) (i : Nat) : Int := if i < s.ps.length then 0 else 7

/-- Blocks mb, lb are a machine over the points b, b + 1, .. in the state s. -/
def Pm (w : World) (mb lb : Nat) (b : Int) (s : St) : Prop :=
  Mach w mb lb s.st s.base s.since (lk b s.ps) s.ps.length ∧ 0 ≤ s.base ∧ s.base ≤ 9223372036854775807 ∧ -9223372036854775808 ≤ s.since ∧ s.since ≤ 9223372036854775807

section
variable {w w' : World} {mb lb : Nat} {b : Int} {s : St}

theorem Pm.only {S : Nat → Prop} (h : Pm w mb lb b s) (ho : Only S w w') (h1 : ¬ S mb) (h2 : ¬ S lb) : Pm w' mb lb b s := ⟨h.1.only ho h1 h2, h.2⟩
theorem Pm.lt (h : Pm w mb lb b s) : mb < w.heap.size ∧ lb < w.heap.size := h.1.lt

theorem pm_state (h : Pm w mb lb b s) : Calls Try.prog 9 #[.pointer (some ⟨mb, 0, none⟩)] w fun e w' => e = .returned (.int .u8 s.st) ∧ w = w' := state_any h.1

theorem lk_none {b : Int} {ps : List (Bool × Bool)} {i : Nat} (h : ¬ i < ps.length) : (lk b ps (b + i)).isSome = false := by
  rw [lk_at]; simp [Nat.le_of_not_lt h]
theorem lk_get {b : Int} {ps : List (Bool × Bool)} {i : Nat} (h : i < ps.length) : lk b ps (b + i) = some (ps[i]?.getD (false, false)) := by
  rw [lk_at]; simp [h]

theorem pm_up (h : Pm w mb lb b s) (now : Int) (hn0 : -9223372036854775808 ≤ now) (hn1 : now ≤ 9223372036854775807) (i : Nat) (hb : 0 ≤ b) (hi : b + i ≤ 65535) :
    Calls Try.prog 10 #[.pointer (some ⟨mb, 0, none⟩), .int .i64 now, .int .u16 (b + i)] w fun e w' => e = .returned (.int .i64 (s.err i)) ∧ Pm w' mb lb b (s.up now i) ∧ Only (fun i => i = mb ∨ i = lb) w w' := by
  have hx : (Lit.int .u16 (b + i)).wf = true := wf_u16 (by omega) hi
  by_cases hlt : i < s.ps.length
  · have hg := lk_get (b := b) hlt
    obtain ⟨st, base, since, ps⟩ := s
    unfold St.err St.up
    rw [if_pos hlt, if_pos hlt]
    simp only at hg hlt ⊢
    generalize hq : ps[i]?.getD (false, false) = q at *
    obtain ⟨u, d⟩ := q
    by_cases hst : st = 1
    · subst hst
      refine (up_down h.1 now _ hx u d hg).mono ?_
      rintro e w' ⟨rfl, h', ho⟩
      refine ⟨rfl, ⟨?_, h.2.1, h.2.2.1, ?_, ?_⟩, ho⟩
      · simp only [if_true, List.length_set]
        rw [lk_set _ _ _ hlt] at h'
        exact h'
      · simpa using hn0
      · simpa using hn1
    · refine (up_else h.1 now _ hx u d hg (by simp [hst])).mono ?_
      rintro e w' ⟨rfl, h', ho⟩
      refine ⟨rfl, ⟨?_, h.2.1, h.2.2.1, ?_, ?_⟩, ho⟩
      · simp only [hst, if_false, List.length_set]
        rw [lk_set _ _ _ hlt] at h'
        exact h'
      · simpa [hst] using h.2.2.2.1
      · simpa [hst] using h.2.2.2.2
  · refine (up_no h.1 now _ hx (lk_none hlt)).mono ?_
    rintro e w' ⟨rfl, ho⟩
    unfold St.err St.up
    rw [if_neg hlt, if_neg hlt]
    exact ⟨rfl, h.only ho (by simp) (by simp), ho.mono (fun _ _ h => h.elim)⟩

theorem pm_down (h : Pm w mb lb b s) (i : Nat) (hb : 0 ≤ b) (hi : b + i ≤ 65535) :
    Calls Try.prog 11 #[.pointer (some ⟨mb, 0, none⟩), .int .u16 (b + i)] w fun e w' => e = .returned (.int .i64 (s.err i)) ∧ Pm w' mb lb b (s.down i) ∧ Only (fun i => i = mb ∨ i = lb) w w' := by
  have hx : (Lit.int .u16 (b + i)).wf = true := wf_u16 (by omega) hi
  by_cases hlt : i < s.ps.length
  · have hg := lk_get (b := b) hlt
    obtain ⟨st, base, since, ps⟩ := s
    unfold St.err St.down
    rw [if_pos hlt, if_pos hlt]
    simp only at hg hlt ⊢
    have hs : (lk b ps (b + i)).isSome = true := by rw [hg]; rfl
    have hL := lk_set b ps i hlt (false, false)
    by_cases hany : (ps.set i (false, false)).any (fun p => p.1) = true
    · rw [if_pos hany]
      refine (down_some h.1 _ hx hs _ hL ?_).mono ?_
      · obtain ⟨p, hp, hpu⟩ := List.any_eq_true.1 hany
        obtain ⟨j, hj⟩ := List.getElem?_of_mem hp
        refine ⟨b + j, p.2, ?_⟩
        rw [lk_at, hj]
        obtain ⟨u, d⟩ := p
        simp only at hpu
        rw [hpu]
      · rintro e w' ⟨rfl, h', ho⟩
        exact ⟨rfl, ⟨by simpa using h', h.2⟩, ho⟩
    · rw [if_neg hany]
      refine (down_all h.1 _ hx hs _ hL ?_).mono ?_
      · intro k p hk
        obtain ⟨j, hj, _⟩ := lk_some hk
        cases hp : p.1
        · rfl
        · exact absurd (List.any_eq_true.2 ⟨p, List.mem_of_getElem? hj, hp⟩) hany
      · rintro e w' ⟨rfl, h', ho⟩
        exact ⟨rfl, ⟨by simpa using h', h.2⟩, ho⟩
  · refine (down_no h.1 _ hx (lk_none hlt)).mono ?_
    rintro e w' ⟨rfl, ho⟩
    unfold St.err St.down
    rw [if_neg hlt, if_neg hlt]
    exact ⟨rfl, h.only ho (by simp) (by simp), ho.mono (fun _ _ h => h.elim)⟩

theorem pm_done (h : Pm w mb lb b s) (i : Nat) (hb : 0 ≤ b) (hi : b + i ≤ 65535) :
    Calls Try.prog 12 #[.pointer (some ⟨mb, 0, none⟩), .int .u16 (b + i)] w fun e w' => e = .returned (.int .i64 (s.err i)) ∧ Pm w' mb lb b (s.done i) ∧ Only (fun i => i = mb ∨ i = lb) w w' := by
  have hx : (Lit.int .u16 (b + i)).wf = true := wf_u16 (by omega) hi
  by_cases hlt : i < s.ps.length
  · have hg := lk_get (b := b) hlt
    obtain ⟨st, base, since, ps⟩ := s
    unfold St.err St.done
    rw [if_pos hlt]
    simp only at hg hlt ⊢
    have hs : (lk b ps (b + i)).isSome = true := by rw [hg]; rfl
    generalize hq : ps[i]?.getD (false, false) = q at *
    obtain ⟨u, d⟩ := q
    cases u
    · rw [if_neg (by simp)]
      refine (done_down h.1 _ hx d hg).mono ?_
      rintro e w' ⟨rfl, h', ho⟩
      exact ⟨rfl, ⟨h', h.2⟩, ho⟩
    · by_cases hst : st = 2
      · subst hst
        rw [if_pos ⟨hlt, rfl, rfl⟩]
        refine (done_act h.1 _ hx d hg).mono ?_
        rintro e w' ⟨rfl, h', ho⟩
        rw [lk_set _ _ _ hlt] at h'
        exact ⟨rfl, ⟨by simpa using h', h.2⟩, ho⟩
      · rw [if_neg (by simp [hst])]
        refine (done_idle h.1 _ hx d hg (by simp [hst])).mono ?_
        rintro e w' ⟨rfl, h', ho⟩
        exact ⟨rfl, ⟨h', h.2⟩, ho⟩
  · refine (done_no h.1 _ hx (lk_none hlt)).mono ?_
    rintro e w' ⟨rfl, ho⟩
    unfold St.err St.done
    rw [if_neg hlt, if_neg (fun hh => hlt hh.1)]
    exact ⟨rfl, h.only ho (by simp) (by simp), ho.mono (fun _ _ h => h.elim)⟩

theorem pm_tick (h : Pm w mb lb b s) (now : Int) :
    Calls Try.prog 13 #[.pointer (some ⟨mb, 0, none⟩), .int .i64 now] w fun e w' => e = .returned (.bool (s.ends now)) ∧ Pm w' mb lb b (s.tick now) ∧ Only (fun i => i = mb ∨ i = lb) w w' := by
  obtain ⟨st, base, since, ps⟩ := s
  unfold St.tick
  by_cases hst : st = 2
  · subst hst
    by_cases hall : ps.all (fun p => p.2 || !p.1) = true
    · have he : St.ends ⟨2, base, since, ps⟩ now = true := by unfold St.ends; simp only [hall]; rfl
      rw [he, if_pos rfl]
      refine (tick_done h.1 now ?_).mono ?_
      · intro k p hk
        obtain ⟨j, hj, _⟩ := lk_some hk
        exact List.all_eq_true.1 hall p (List.mem_of_getElem? hj)
      · rintro e w' ⟨rfl, h', ho⟩
        rw [lk_fresh] at h'
        exact ⟨rfl, ⟨by simpa using h', h.2⟩, ho⟩
    · have hex : ∃ k, lk b ps k = some (true, false) := by
        have : ∃ p ∈ ps, (p.2 || !p.1) = false := by
          apply Classical.byContradiction
          intro hno
          apply hall
          rw [List.all_eq_true]
          intro p hp
          cases hpp : (p.2 || !p.1)
          · exact absurd ⟨p, hp, hpp⟩ hno
          · rfl
        obtain ⟨p, hp, hpp⟩ := this
        obtain ⟨j, hj⟩ := List.getElem?_of_mem hp
        refine ⟨b + j, ?_⟩
        rw [lk_at, hj]
        obtain ⟨u, d⟩ := p
        cases u <;> cases d <;> simp at hpp ⊢
      have hallf : ps.all (fun p => p.2 || !p.1) = false := by simpa using hall
      by_cases hnow : dueAt base since ≤ now
      · have he : St.ends ⟨2, base, since, ps⟩ now = true := by unfold St.ends; simp [hnow]
        rw [he, if_pos rfl]
        refine (tick_late h.1 now hex hnow h.2.1 h.2.2.1 h.2.2.2.1 h.2.2.2.2).mono ?_
        rintro e w' ⟨rfl, h', ho⟩
        rw [lk_fresh] at h'
        exact ⟨rfl, ⟨by simpa using h', h.2⟩, ho⟩
      · have he : St.ends ⟨2, base, since, ps⟩ now = false := by unfold St.ends; simp only [hallf]; simp [hnow]
        rw [he, if_neg (by decide)]
        refine (tick_wait h.1 now hex (by show now < dueAt base since; omega) h.2.1 h.2.2.1 h.2.2.2.1 h.2.2.2.2).mono ?_
        rintro e w' ⟨rfl, h', ho⟩
        exact ⟨rfl, ⟨h', h.2⟩, ho⟩
  · have he : St.ends ⟨st, base, since, ps⟩ now = false := by unfold St.ends; simp [hst]
    rw [he, if_neg (by decide)]
    refine (tick_off h.1 (by simp [hst]) now).mono ?_
    rintro e w' ⟨rfl, rfl⟩
    exact ⟨rfl, h, Only.refl _ _⟩

/-! The same at plain numbers, for a walk. -/
theorem pm_up' (h : Pm w mb lb b s) (now : Int) (hn0 : -9223372036854775808 ≤ now) (hn1 : now ≤ 9223372036854775807) (x : Int) (i : Nat) (hx : x = b + i) (hb : 0 ≤ b) (hi : x ≤ 65535) (e0 : Int) (he : s.err i = e0) (s' : St) (hs : s.up now i = s') :
    Calls Try.prog 10 #[.pointer (some ⟨mb, 0, none⟩), .int .i64 now, .int .u16 x] w fun e w' => e = .returned (.int .i64 e0) ∧ Pm w' mb lb b s' ∧ Only (fun i => i = mb ∨ i = lb) w w' := by
  subst hx he hs
  exact pm_up h now hn0 hn1 i hb hi
theorem pm_down' (h : Pm w mb lb b s) (x : Int) (i : Nat) (hx : x = b + i) (hb : 0 ≤ b) (hi : x ≤ 65535) (e0 : Int) (he : s.err i = e0) (s' : St) (hs : s.down i = s') :
    Calls Try.prog 11 #[.pointer (some ⟨mb, 0, none⟩), .int .u16 x] w fun e w' => e = .returned (.int .i64 e0) ∧ Pm w' mb lb b s' ∧ Only (fun i => i = mb ∨ i = lb) w w' := by
  subst hx he hs
  exact pm_down h i hb hi
theorem pm_done' (h : Pm w mb lb b s) (x : Int) (i : Nat) (hx : x = b + i) (hb : 0 ≤ b) (hi : x ≤ 65535) (e0 : Int) (he : s.err i = e0) (s' : St) (hs : s.done i = s') :
    Calls Try.prog 12 #[.pointer (some ⟨mb, 0, none⟩), .int .u16 x] w fun e w' => e = .returned (.int .i64 e0) ∧ Pm w' mb lb b s' ∧ Only (fun i => i = mb ∨ i = lb) w w' := by
  subst hx he hs
  exact pm_done h i hb hi
theorem pm_tick' (h : Pm w mb lb b s) (now : Int) (e0 : Bool) (he : s.ends now = e0) (s' : St) (hs : s.tick now = s') :
    Calls Try.prog 13 #[.pointer (some ⟨mb, 0, none⟩), .int .i64 now] w fun e w' => e = .returned (.bool e0) ∧ Pm w' mb lb b s' ∧ Only (fun i => i = mb ∨ i = lb) w w' := by
  subst he hs
  exact pm_tick h now
theorem pm_state' (h : Pm w mb lb b s) (v : Int) (hv : s.st = v) : Calls Try.prog 9 #[.pointer (some ⟨mb, 0, none⟩)] w fun e w' => e = .returned (.int .u8 v) ∧ w = w' := by
  subst hv
  exact pm_state h

/-- New over the points b, .., b + n - 1. -/
theorem pm_new (a : Option Addr) (b : Int) (n cap : Nat) (base : Int) (hn : n ≤ 64) (hb : 0 ≤ b) (hbn : b + n ≤ 16383) (hp : n = 0 ∨ ∃ bl off, a = some ⟨bl, off, none⟩ ∧ ∀ k, k < n → w.cell? ⟨bl, off + k, none⟩ = some (.int .u16 (b + (k : Nat)))) (hb0 : 0 ≤ base) (hb1 : base ≤ 9223372036854775807) :
    Calls Try.prog 8 #[.slice a n cap, .int .i64 base] w fun e w' => ∃ mb lb, e = .returned (.tuple #[.pointer (some ⟨mb, 0, none⟩), .int .i64 0]) ∧ w.heap.size ≤ mb ∧ w.heap.size ≤ lb ∧ Pm w' mb lb b ⟨0, base, 0, List.replicate n (true, false)⟩ ∧ Only (fun _ => False) w w' := by
  have hl : ((List.range n).map fun i => b + ((i : Nat) : Int)).length = n := by simp
  have := new_ok (w := w) a ((List.range n).map fun i => b + ((i : Nat) : Int)) cap base (by rw [hl]; exact hn) ⟨?_, ?_⟩ ⟨?_, ?_⟩ hb0
  · rw [hl, lk_tab] at this
    refine this.mono ?_
    rintro e w' ⟨mb, lb, rfl, h1, h2, h3, h4⟩
    exact ⟨mb, lb, rfl, h1, h2, ⟨by simpa using h3, hb0, hb1, by simp, by simp⟩, h4⟩
  · intro z hz
    obtain ⟨i, hi, rfl⟩ := List.mem_map.1 hz
    have := List.mem_range.1 hi
    omega
  · rcases hp with rfl | ⟨bl, off, ha, hc⟩
    · left; rfl
    · right
      refine ⟨bl, off, ha, fun k hk => ?_⟩
      rw [hl] at hk
      rw [hc k hk]
      simp [hk]
  · rw [List.nodup_iff_pairwise_ne, List.pairwise_map]
    refine List.Pairwise.imp ?_ (List.nodup_range (n := n))
    intro x y hxy h
    exact hxy (by omega)
  · intro z hz
    obtain ⟨i, hi, rfl⟩ := List.mem_map.1 hz
    have := List.mem_range.1 hi
    omega

end

end Go.Proofs.Ytofdmfibffcojaa
