/-
  restarts.Machine: Tick.
-/
import Derived.Test.YtofdmfibffcojaaMach4
namespace Go.Proofs.Ytofdmfibffcojaa
open Go.RowKit Go.PC

/-- Every neighbor that is up is done. -/
def AllDone (L : Links) : Prop := ∀ k p, L k = some p → (p.2 || !p.1) = true
/-- The links behind the end of a restart. -/
def fresh (L : Links) : Links := fun k => (L k).map fun p => (p.1, false)
def fresh' (L : Links) (left : Int → Bool) : Links := fun k => (L k).map fun p => if left k then p else (p.1, false)

theorem fresh_start (L : Links) : fresh' L (fun k => (L k).isSome) = L := by
  funext k
  show (L k).map (fun p => if (L k).isSome then p else (p.1, false)) = L k
  cases L k <;> rfl
theorem fresh_end (L : Links) (left : Int → Bool) (h : ∀ k, left k = false) : fresh' L left = fresh L := by
  funext k
  unfold fresh' fresh
  simp [h k]
theorem fresh_step (L : Links) (left : Int → Bool) (a : Int) (u d : Bool) (h : fresh' L left a = some (u, d)) : upd (fresh' L left) a (some (u, false)) = fresh' L (fun x => left x && !decide (x = a)) := by
  funext k
  unfold upd
  by_cases hk : k = a
  · subst hk
    rw [if_pos rfl]
    unfold fresh' at h ⊢
    cases hL : L k with
    | none => rw [hL] at h; cases h
    | some p =>
      rw [hL] at h
      cases hl : left k <;> simp [hl] at h ⊢
      · exact h.1.symm
      · rw [h]
  · rw [if_neg hk]
    unfold fresh'
    simp [hk]

section
variable {w w' : World} {mb lb : Nat} {st base since : Int} {L : Links} {n : Nat}

theorem wp_store_ranging {ops : Array Oper} {rest : List Oper} {o : Oper} {act : Act} {Q : Exit → Act → World → Prop}
    (hg : o.guard = none) (m x y : Operand) (hop : o.op = Op.mapUpdate 44 m x y) (r : Nat) (left : Int → Bool) (cnt : Nat) (hm : act.eval m = .map (some lb)) (h : LT.ranging w lb r L n left cnt) (a : Int) (hx : act.eval x = .int .u16 a) (ha : (L a).isSome = true) (u d : Bool) (hy : act.eval y = .agg #[.bool u, .bool d])
    (hK : ∀ w', LT.ranging w' lb r (upd L a (some (u, d))) n left cnt → Only (fun i => i = lb) w w' → w'.heap.size = w.heap.size → wpList Try.prog ops Q rest (act.put o.dst undef) w') :
    wpList Try.prog ops Q (o :: rest) act w :=
  wpList_update_ranging LT w hg m x y hop lb r n L left cnt hm h a hx ha (u, d) hy hK

theorem tick_off (h : Mach w mb lb st base since L n) (hst : (st == 2) = false) (now : Int) :
    Calls Try.prog 13 #[.pointer (some ⟨mb, 0, none⟩), .int .i64 now] w fun e w' => e = .returned (.bool false) ∧ w = w' := by
  have hc := state_any h
  have hst2 : (st != 2) = true := by simpa using hst
  clear h
  go_enter Try.func13, Try.ntmps13
  go_wp2_with (go_at_call 9; refine hc.mono ?_; rintro e w1 ⟨rfl, rfl⟩)
  go_ret
  exact ⟨rfl, rfl⟩

/-- What the loop over the links has found. -/
def Found (L : Links) (left : Int → Bool) (b : Bool) : Prop := (b = true → ∀ k p, L k = some p → left k = false → (p.2 || !p.1) = true) ∧ (b = false → ∃ k, L k = some (true, false))

theorem found_step {L : Links} {left : Int → Bool} {b : Bool} {a : Int} {u d : Bool} (h : Found L left b) (hL : L a = some (u, d)) : Found L (fun x => left x && !decide (x = a)) (b && (d || !u)) := by
  refine ⟨fun hb k p hk hl => ?_, fun hb => ?_⟩
  · simp only [Bool.and_eq_true] at hb
    by_cases hka : k = a
    · subst hka
      rw [hL] at hk
      cases hk
      exact hb.2
    · exact h.1 hb.1 k p hk (by simpa [hka] using hl)
  · rcases Bool.and_eq_false_iff.1 hb with hb | hb
    · exact h.2 hb
    · refine ⟨a, ?_⟩
      cases u <;> cases d <;> simp_all

set_option maxHeartbeats 1000000 in
theorem tick_wait (h : Mach w mb lb 2 base since L n) (now : Int) (hex : ∃ k, L k = some (true, false)) (hnow : now < dueAt base since) (hb0 : 0 ≤ base) (hb1 : base ≤ 9223372036854775807) (hs0 : -9223372036854775808 ≤ since) (hs1 : since ≤ 9223372036854775807) :
    Calls Try.prog 13 #[.pointer (some ⟨mb, 0, none⟩), .int .i64 now] w fun e w' => e = .returned (.bool false) ∧ Mach w' mb lb 2 base since L n ∧ Only (fun i => i = mb ∨ i = lb) w w' := by
  have hc := state_any h
  have hlw := h.lt
  have Hex := Lib.hid (p := ∃ k, L k = some (true, false)) hex
  clear hex
  have hat := h.2
  obtain ⟨c0, c1, c2, c3, c4⟩ := h.cells
  go_enter Try.func13, Try.ntmps13
  go_wp2_with (first
    | (go_at_call 9; refine hc.mono ?_; rintro e w1 ⟨rfl, rfl⟩)
    | (at_range; refine wpList_range LT _ rfl _ rfl lb n L rfl hat ?_; intro w5 hrg5 ho5 hs5)
    | go_in)
  go_frame
  have h5 := h.only ho5 (by simp) (by simp)
  have hoR := ho5.mono (S' := fun i => i = mb ∨ i = lb) (fun _ _ h => h.elim)
  clear hat h ho5 c0 c1 c2 c3 c4 hs5 hc
  obtain ⟨r, hr⟩ : ∃ r, w.heap.size = r := ⟨_, rfl⟩
  have Hr := Lib.hid hr
  have hsz : w.heap.size ≤ r := by omega
  rw [hr] at hrg5 hlw
  have hf0 : Found L (fun k => (L k).isSome) true := ⟨fun _ k p hk hl => by simp [hk] at hl, fun h => by cases h⟩
  have Hf0 := Lib.hid hf0
  clear hf0
  simp only [hr]
  clear hr
  go_loopw [5, 18] (fun v _ wr => ∃ (b : Bool) (left : Int → Bool) (cnt : Nat), v = .bool b ∧ Hid (Found L left b) ∧ LT.ranging wr lb r L n left cnt ∧ Mach wr mb lb 2 base since L n ∧ Only (fun i => i = mb ∨ i = lb) w wr)
    (fun _ _ wr => wr.rangeLeft lb r)
  case atStart => exact ⟨true, _, _, rfl, Hf0, hrg5, h5, hoR⟩
  case round =>
    clear hrg5 h5 hoR Hf0
    obtain ⟨b, left, cnt, rfl, Hf, hrg, h5, hoR⟩ := hrel
    go_wp2_with (first
      | (at_next; refine wp_next rfl _ rfl r left cnt rfl hrg ?_ ?_)
      | go_in)
    · intro _ hl0
      have hbf : b = false := by
        cases b
        · rfl
        · obtain ⟨k, hk⟩ := Hex.out
          have := Hf.out.1 rfl k _ hk (hl0 k)
          simp at this
      subst hbf
      clear hl0
      have hd := due_any h5 hb0 hb1 hs0 hs1
      go_wp2_with (go_at_call 15; refine hd.mono ?_; rintro e w7 ⟨rfl, nq, rfl⟩)
      go_ret
      exact ⟨rfl, h5.only (S := fun _ => False) ⟨rfl, rfl, rfl, Nat.le_refl _, fun _ _ _ => rfl⟩ (by simp) (by simp), hoR.andThen (S' := fun _ => False) ⟨rfl, rfl, rfl, Nat.le_refl _, fun _ _ _ => rfl⟩ (fun _ _ h => h.elim)⟩
    · intro a p w6 cnt6 hg6 hl6 hp6 hrg6 hlt6 ho6 hs6 hen6
      obtain ⟨u, d⟩ := p
      have Hf6 := Lib.hid (found_step Hf.out hp6)
      clear hp6 Hf
      have hoR6 := hoR.andThen ho6 (fun i hi h => by omega)
      have h6 := h5.only ho6 (by omega) (by omega)
      have hrgA := hrg6.alloc (.cells #[.bool u, .bool d] 50)
      have h6A := h6.only ((Only.refl (fun _ => False) w6).alloc (.cells #[.bool u, .bool d] 50)) (by simp) (by simp)
      have hoA := hoR6.alloc (.cells #[.bool u, .bool d] 50)
      clear h5 hoR ho6 h6 hoR6
      cases b <;> cases u <;> cases d
      all_goals
        go_wp2
        go_roundw
        case rel => exact ⟨_, _, _, rfl, Hf6, hrgA, h6A, hoA⟩
        case measure => rw [hrgA.left_eq, hrg.left_eq]; exact hlt6
end

end Go.Proofs.Ytofdmfibffcojaa
