/-
  Plans: what the blocks of a plan hold; small functions.
-/
import Derived.Test.YtpfcoeenblmifaaChecked
import Derived.Test.YtpfcoeenblmifaaMap
import Derived.BigQuiet
import Derived.Lib.Hide
import Derived.Handy
namespace Go.Proofs.Ytpfcoeenblmifaa
open Go.RowKit Go.PC

theorem lt_of_cell {w : World} {p : Addr} {v : Value} (hc : w.cell? p = some v) : p.block < w.heap.size := by
  rcases Nat.lt_or_ge p.block w.heap.size with h' | h'
  · exact h'
  · simp [World.cell?, Array.getElem?_eq_none h'] at hc

structure Ln where
  a : Int
  b : Int
  c : Int
  d : Int

/-- The places that a slice leads to. -/
def RdP (w : World) (a : Option Addr) (ps : List (Int × Bool)) : Prop :=
  ps = [] ∨ ∃ b off, a = some ⟨b, off, none⟩ ∧ ∀ i p, ps[i]? = some p → w.cell? ⟨b, off + i * 2, none⟩ = some (.int .u16 p.1) ∧ w.cell? ⟨b, off + i * 2 + 1, none⟩ = some (.bool p.2)
/-- The lines that a slice leads to. -/
def RdL (w : World) (a : Option Addr) (ls : List Ln) : Prop :=
  ls = [] ∨ ∃ b off, a = some ⟨b, off, none⟩ ∧ ∀ i l, ls[i]? = some l → w.cell? ⟨b, off + i * 4, none⟩ = some (.int .u16 l.a) ∧ w.cell? ⟨b, off + i * 4 + 1, none⟩ = some (.int .u16 l.b) ∧
    w.cell? ⟨b, off + i * 4 + 2, none⟩ = some (.int .u8 l.c) ∧ w.cell? ⟨b, off + i * 4 + 3, none⟩ = some (.int .i64 l.d)

theorem RdP.keep {w w' : World} {a : Option Addr} {ps : List (Int × Bool)} (h : RdP w a ps) (ho : Only (fun _ => False) w w') : RdP w' a ps := by
  rcases h with h | ⟨b, off, ha, hc⟩
  · exact Or.inl h
  · exact Or.inr ⟨b, off, ha, fun i p hp => ⟨ho.cell (hc i p hp).1 (by simp), ho.cell (hc i p hp).2 (by simp)⟩⟩
theorem RdL.keep {w w' : World} {a : Option Addr} {ls : List Ln} (h : RdL w a ls) (ho : Only (fun _ => False) w w') : RdL w' a ls := by
  rcases h with h | ⟨b, off, ha, hc⟩
  · exact Or.inl h
  · exact Or.inr ⟨b, off, ha, fun i l hl => ⟨ho.cell (hc i l hl).1 (by simp), ho.cell (hc i l hl).2.1 (by simp), ho.cell (hc i l hl).2.2.1 (by simp), ho.cell (hc i l hl).2.2.2 (by simp)⟩⟩

theorem wf_u16 {z : Int} (h0 : 0 ≤ z) (h1 : z ≤ 65535) : (Lit.int .u16 z).wf = true := by
  have e1 : IntKind.u16.min = 0 := by decide
  have e2 : IntKind.u16.max = 65535 := by decide
  simp [Lit.wf, e1, e2]
  omega

theorem OnlyF.drewN {a b : World} (h : Only (fun _ => False) a b) (n : Nat) : Only (fun _ => False) a (b.drewN n) := ⟨h.os, h.tape, h.output, h.size, h.block⟩

/-- cmp.Compare at whole numbers. -/
def cmpI (x y : Int) : Int := if x < y then -1 else if y < x then 1 else 0

theorem isNaN_point (x : Int) (w : World) : Calls Try.prog 52 #[.int .u16 x] w fun e w' => e = .returned (.bool false) ∧ w = w' := by
  go_enter Try.func52, Try.ntmps52
  go_wp2
  go_ret
  exact ⟨rfl, rfl⟩

theorem compare_point (x y : Int) (w : World) : Calls Try.prog 41 #[.int .u16 x, .int .u16 y] w fun e w' => e = .returned (.int .i64 (cmpI x y)) ∧ w = w' := by
  have h1 := isNaN_point x w
  have h2 := isNaN_point y w
  unfold cmpI
  by_cases hxy : x < y
  · rw [if_pos hxy]
    go_enter Try.func41, Try.ntmps41
    go_wp2_with fail
    refine h1.mono ?_
    rintro e w1 ⟨rfl, rfl⟩
    go_wp2_with fail
    refine h2.mono ?_
    rintro e w1 ⟨rfl, rfl⟩
    go_wp2_with fail
    go_ret
    exact ⟨rfl, rfl⟩
  · rw [if_neg hxy]
    by_cases hyx : y < x
    · rw [if_pos hyx]
      go_enter Try.func41, Try.ntmps41
      go_wp2_with fail
      refine h1.mono ?_
      rintro e w1 ⟨rfl, rfl⟩
      go_wp2_with fail
      refine h2.mono ?_
      rintro e w1 ⟨rfl, rfl⟩
      go_wp2_with fail
      go_ret
      exact ⟨rfl, rfl⟩
    · rw [if_neg hyx]
      go_enter Try.func41, Try.ntmps41
      go_wp2_with fail
      refine h1.mono ?_
      rintro e w1 ⟨rfl, rfl⟩
      go_wp2_with fail
      refine h2.mono ?_
      rintro e w1 ⟨rfl, rfl⟩
      go_wp2_with fail
      go_ret
      exact ⟨rfl, rfl⟩

theorem find1_any (x : Int) (t : Bool) (c : Int) (w : World) : Calls Try.prog 40 #[.agg #[.int .u16 x, .bool t], .int .u16 c] w fun e w' => e = .returned (.int .i64 (cmpI x c)) ∧ Only (fun _ => False) w w' := by
  go_enter Try.func40, Try.ntmps40
  go_wp2_with fail
  refine (compare_point x c _).mono ?_
  rintro e w1 ⟨rfl, rfl⟩
  go_wp2_with fail
  go_ret
  exact ⟨rfl, (Only.refl _ _).alloc _⟩

/-- Where a code is, or would be. -/
def idxOf (ps : List (Int × Bool)) (c : Int) : Nat := ps.countP fun p => decide (p.1 < c)
def hasCode (ps : List (Int × Bool)) (c : Int) : Bool := ps.any fun p => p.1 == c
/-- Places in ascending order of their codes. -/
def Asc (ps : List (Int × Bool)) : Prop := ps.Pairwise fun p q => p.1 < q.1

theorem idx_eq {ps : List (Int × Bool)} {c : Int} {i : Nat} (hi : i ≤ ps.length) (h1 : ∀ k p, ps[k]? = some p → k < i → p.1 < c) (h2 : ∀ k p, ps[k]? = some p → i ≤ k → c ≤ p.1) : idxOf ps c = i := by
  unfold idxOf
  rw [← List.take_append_drop i ps, List.countP_append]
  have e1 : (ps.take i).countP (fun p => decide (p.1 < c)) = i := by
    rw [List.countP_eq_length.2]
    · simp [hi]
    · intro p hp
      obtain ⟨k, hk, ek⟩ := List.getElem_of_mem hp
      have hk' : k < i := by simp at hk; omega
      have := h1 k p (by rw [← ek, List.getElem_take]; exact List.getElem?_eq_getElem (by omega)) hk'
      simpa using this
  have e2 : (ps.drop i).countP (fun p => decide (p.1 < c)) = 0 := by
    rw [List.countP_eq_zero]
    intro p hp
    obtain ⟨k, hk, ek⟩ := List.getElem_of_mem hp
    have hk' : i + k < ps.length := by simp at hk; omega
    have := h2 (i + k) p (by rw [← ek, List.getElem_drop]; exact List.getElem?_eq_getElem hk') (by omega)
    simp
    omega
  omega

theorem Asc.lt {ps : List (Int × Bool)} (h : Asc ps) {i j : Nat} {p q : Int × Bool} (hp : ps[i]? = some p) (hq : ps[j]? = some q) (hij : i < j) : p.1 < q.1 := by
  obtain ⟨hi, rfl⟩ := List.getElem?_eq_some_iff.1 hp
  obtain ⟨hj, rfl⟩ := List.getElem?_eq_some_iff.1 hq
  exact List.pairwise_iff_getElem.1 h i j hi hj hij

theorem idx_has {ps : List (Int × Bool)} {c : Int} {i : Nat} (h1 : ∀ k p, ps[k]? = some p → k < i → p.1 < c) (h2 : ∀ k p, ps[k]? = some p → i ≤ k → c ≤ p.1) (hs : Asc ps) :
    hasCode ps c = match ps[i]? with | some p => decide (p.1 = c) | none => false := by
  unfold hasCode
  rw [Bool.eq_iff_iff, List.any_eq_true]
  constructor
  · rintro ⟨p, hp, hpc⟩
    obtain ⟨k, hk⟩ := List.getElem?_of_mem hp
    have hpc' : p.1 = c := by simpa using hpc
    have hki : k = i := by
      rcases Nat.lt_trichotomy k i with h | h | h
      · have := h1 k p hk h; omega
      · exact h
      · have hl : i < ps.length := Nat.lt_trans h (List.getElem?_eq_some_iff.1 hk).1
        have e := List.getElem?_eq_getElem hl
        have := h2 i _ e (Nat.le_refl _)
        have := hs.lt e hk h
        omega
    subst hki
    rw [hk]
    simpa using hpc'
  · intro h
    cases hp : ps[i]? with
    | none => rw [hp] at h; cases h
    | some p =>
      rw [hp] at h
      exact ⟨p, List.mem_of_getElem? hp, by simpa using h⟩

set_option maxHeartbeats 1000000 in
set_option maxRecDepth 100000 in
theorem search_any (a : Option Addr) (ps : List (Int × Bool)) (cap : Nat) (c : Int) (w : World) (hr : RdP w a ps) (hs : Asc ps) (hl : ps.length ≤ 1000) :
    Calls Try.prog 39 #[.slice a ps.length cap, .int .u16 c, .func (.func 40) #[] #[]] w fun e w' => e = .returned (.tuple #[.int .i64 (idxOf ps c), .bool (hasCode ps c)]) ∧ Only (fun _ => False) w w' := by
  have Hr := Lib.hid (p := RdP w a ps) hr
  have Hs := Lib.hid (p := Asc ps) hs
  clear hr hs
  go_enter Try.func39, Try.ntmps39
  go_wp2
  have H0 := Lib.hid (p := (∀ k p, ps[k]? = some p → k < 0 → p.1 < c) ∧ (∀ k p, ps[k]? = some p → ps.length ≤ k → c ≤ p.1)) ⟨fun k p _ h => by omega, fun k p h h' => by have := (List.getElem?_eq_some_iff.1 h).1; omega⟩
  go_loopw [9, 10] (fun u v wr => ∃ i j : Nat, i ≤ j ∧ j ≤ ps.length ∧ u = .int .i64 i ∧ v = .int .i64 j ∧ Hid ((∀ k p, ps[k]? = some p → k < i → p.1 < c) ∧ (∀ k p, ps[k]? = some p → j ≤ k → c ≤ p.1)) ∧ Only (fun _ => False) w wr)
    (fun u v _ => ((intOf v) - (intOf u)).toNat)
  case atStart => exact ⟨0, ps.length, Nat.zero_le _, Nat.le_refl _, rfl, rfl, H0, Only.refl _ _⟩
  case round =>
    clear H0
    obtain ⟨i, j, hij, hj, rfl, rfl, H, ho⟩ := hrel
    by_cases hlt : i < j
    · have hlt' : (i : Int) < (j : Int) := by omega
      obtain ⟨h, hh⟩ : ∃ h, (i + j) / 2 = h := ⟨_, rfl⟩
      have Hh := Lib.hid hh
      have hh1 : i ≤ h := by omega
      have hh2 : h < j := by omega
      have hlen : h < ps.length := by omega
      obtain ⟨b, off, ha, hc⟩ := Hr.out.resolve_left (fun he => by rw [he] at hlen; cases hlen)
      subst ha
      obtain ⟨⟨x, t⟩, hp⟩ : ∃ p, ps[h]? = some p := ⟨_, List.getElem?_eq_getElem hlen⟩
      obtain ⟨c0, c1⟩ := hc h _ hp
      have Hp := Lib.hid hp
      have c0 : wr.cell? ⟨b, off + (i + j) / 2 * 2, none⟩ = some (.int .u16 x) := by rw [hh]; exact ho.cell c0 (by simp)
      have c1 : wr.cell? ⟨b, off + (i + j) / 2 * 2 + 1, none⟩ = some (.bool t) := by rw [hh]; exact ho.cell c1 (by simp)
      clear hc hp hh
      have hcall := find1_any x t c wr
      by_cases hxc : x < c
      · rw [show cmpI x c = -1 from if_pos hxc] at hcall
        have H1 := Lib.hid (p := ∀ k p, ps[k]? = some p → k < h + 1 → p.1 < c) (fun k p hk hkh => by
          rcases Nat.lt_or_ge k h with hlt2 | hge
          · have := Hs.out.lt hk Hp.out hlt2; simp only at this; omega
          · obtain rfl : k = h := by omega
            rw [Hp.out] at hk; cases hk; exact hxc)
        go_wp2_with fail
        refine hcall.mono ?_
        rintro e w1 ⟨rfl, ho1⟩
        go_wp2_with fail
        go_roundw
        case rel => exact ⟨h + 1, j, by omega, hj, by have := Hh.out; go_num, rfl, Lib.hid ⟨H1.out, H.out.2⟩, ho.trans ho1⟩
        case measure => simp [intOf]; have := Hh.out; omega
      · have hcmp : 0 ≤ cmpI x c := by unfold cmpI; rw [if_neg hxc]; split <;> decide
        generalize cmpI x c = y at *
        have H1 := Lib.hid (p := ∀ k p, ps[k]? = some p → h ≤ k → c ≤ p.1) (fun k p hk hkh => by
          rcases Nat.lt_or_ge h k with hlt2 | hge
          · have := Hs.out.lt Hp.out hk hlt2; simp only at this; omega
          · obtain rfl : k = h := by omega
            rw [Hp.out] at hk; cases hk; omega)
        go_wp2_with fail
        refine hcall.mono ?_
        rintro e w1 ⟨rfl, ho1⟩
        go_wp2_with fail
        go_roundw
        case rel => exact ⟨i, h, hh1, by omega, rfl, by have := Hh.out; go_num, Lib.hid ⟨H.out.1, H1.out⟩, ho.trans ho1⟩
        case measure => simp [intOf]; have := Hh.out; omega
    · have hij' : i = j := by omega
      subst hij'
      have hli : (i : Int) ≤ (ps.length : Int) := by omega
      have Hidx := Lib.hid (idx_eq hj H.out.1 H.out.2)
      have Hhas := Lib.hid (idx_has H.out.1 H.out.2 Hs.out)
      by_cases hil : i < ps.length
      · have hil' : (i : Int) < (ps.length : Int) := by omega
        obtain ⟨b, off, ha, hc⟩ := Hr.out.resolve_left (fun he => by rw [he] at hil; cases hil)
        subst ha
        obtain ⟨⟨x, t⟩, hp⟩ : ∃ p, ps[i]? = some p := ⟨_, List.getElem?_eq_getElem hil⟩
        obtain ⟨c0, c1⟩ := hc i _ hp
        rw [hp] at Hhas
        have c0 := ho.cell c0 (by simp)
        have c1 := ho.cell c1 (by simp)
        clear hc hp
        have hcall := find1_any x t c wr
        by_cases hxc : x = c
        · rw [show cmpI x c = 0 by unfold cmpI; rw [if_neg (by omega), if_neg (by omega)]] at hcall
          have Hx := Lib.hid hxc
          clear hxc
          go_wp2_with fail
          refine hcall.mono ?_
          rintro e w1 ⟨rfl, ho1⟩
          go_wp2_with fail
          go_ret2
          exact ⟨by rw [Hidx.out, Hhas.out, Hx.out]; simp, ho.trans ho1⟩
        · have hcmp : (cmpI x c == 0) = false := by
            unfold cmpI
            split
            · rfl
            · rw [if_pos (by omega)]; rfl
          have Hx := Lib.hid hxc
          clear hxc
          generalize cmpI x c = y at *
          go_wp2_with fail
          refine hcall.mono ?_
          rintro e w1 ⟨rfl, ho1⟩
          go_wp2_with fail
          go_ret2
          exact ⟨by rw [Hidx.out, Hhas.out]; simp [Hx.out], ho.trans ho1⟩
      · have hil' : ¬ (i : Int) < (ps.length : Int) := by omega
        rw [List.getElem?_eq_none (by omega)] at Hhas
        go_wp2_with fail
        go_ret2
        exact ⟨by rw [Hidx.out, Hhas.out]; rfl, ho⟩

theorem find_any (pa : Option Addr) (ps : List (Int × Bool)) (cap : Nat) (v1 v2 v3 v4 v5 v6 : Value) (c : Int) (w : World) (hr : RdP w pa ps) (hs : Asc ps) (hl : ps.length ≤ 1000) :
    Calls Try.prog 28 #[.agg #[.slice pa ps.length cap, v1, v2, v3, v4, v5, v6], .int .u16 c] w fun e w' => e = .returned (.tuple #[.int .i64 (idxOf ps c), .bool (hasCode ps c)]) ∧ Only (fun _ => False) w w' := by
  have hcall := fun (o : Obj) => search_any pa ps cap c (w.alloc o) (hr.keep ((Only.refl _ _).alloc _)) hs hl
  have Hc := Lib.hid hcall
  clear hcall hr hs
  go_enter Try.func28, Try.ntmps28
  go_wp2_with fail
  refine (Hc.out _).mono ?_
  rintro e w1 ⟨rfl, ho1⟩
  go_wp2_with fail
  go_ret2
  exact ⟨rfl, ((Only.refl _ _).alloc _).trans ho1⟩
end Go.Proofs.Ytpfcoeenblmifaa
