/-
  restarts.Machine: Tick, at the end of a restart.
-/
import Derived.Test.YtofdmfibffcojaaMach5
namespace Go.Proofs.Ytofdmfibffcojaa
open Go.RowKit Go.PC

section
variable {w w' : World} {mb lb : Nat} {st base since : Int} {L : Links} {n : Nat}

set_option maxHeartbeats 1000000 in
theorem tick_late (h : Mach w mb lb 2 base since L n) (now : Int) (hex : ∃ k, L k = some (true, false)) (hnow : dueAt base since ≤ now) (hb0 : 0 ≤ base) (hb1 : base ≤ 9223372036854775807) (hs0 : -9223372036854775808 ≤ since) (hs1 : since ≤ 9223372036854775807) :
    Calls Try.prog 13 #[.pointer (some ⟨mb, 0, none⟩), .int .i64 now] w fun e w' => e = .returned (.bool true) ∧ Mach w' mb lb 0 base since (fresh L) n ∧ Only (fun i => i = mb ∨ i = lb) w w' := by
  have hc := state_any h
  have hlw := h.lt
  have Hex := Lib.hid (p := ∃ k, L k = some (true, false)) hex
  clear hex
  have hat := h.2
  obtain ⟨c0, c1, c2, c3, c4⟩ := h.cells
  go_enter Try.func13, Try.ntmps13
  go_wp2_with (first
    | (go_at_call 9; refine hc.mono ?_; rintro e w1 ⟨rfl, rfl⟩)
    | (at_range; refine wpList_range LT _ rfl _ rfl lb n L rfl hat ?_; intro w5 hrg5 ho5 hs5)
    | go_in)
  go_frame
  have h5 := h.only ho5 (by simp) (by simp)
  have hoR := ho5.mono (S' := fun i => i = mb ∨ i = lb) (fun _ _ h => h.elim)
  clear hat h ho5 c0 c1 c2 c3 c4 hs5 hc
  obtain ⟨r, hr⟩ : ∃ r, w.heap.size = r := ⟨_, rfl⟩
  have Hr := Lib.hid hr
  have hsz : w.heap.size ≤ r := by omega
  rw [hr] at hrg5 hlw
  have hf0 : Found L (fun k => (L k).isSome) true := ⟨fun _ k p hk hl => by simp [hk] at hl, fun h => by cases h⟩
  have Hf0 := Lib.hid hf0
  clear hf0
  simp only [hr]
  clear hr
  go_loopw [5, 18] (fun v _ wr => ∃ (b : Bool) (left : Int → Bool) (cnt : Nat), v = .bool b ∧ Hid (Found L left b) ∧ LT.ranging wr lb r L n left cnt ∧ Mach wr mb lb 2 base since L n ∧ Only (fun i => i = mb ∨ i = lb) w wr)
    (fun _ _ wr => wr.rangeLeft lb r)
  case atStart => exact ⟨true, _, _, rfl, Hf0, hrg5, h5, hoR⟩
  case round =>
    clear hrg5 h5 hoR Hf0
    obtain ⟨b, left, cnt, rfl, Hf, hrg, h5, hoR⟩ := hrel
    go_wp2_with (first
      | (at_next; refine wp_next rfl _ rfl r left cnt rfl hrg ?_ ?_)
      | go_in)
    · intro _ hl0
      have hbf : b = false := by
        cases b
        · rfl
        · obtain ⟨k, hk⟩ := Hex.out
          have := Hf.out.1 rfl k _ hk (hl0 k)
          simp at this
      subst hbf
      clear hl0
      have hd := due_any h5 hb0 hb1 hs0 hs1
      go_wp2_with fail
      refine hd.mono ?_
      rintro e wq ⟨rfl, nq, hwq⟩
      have hQ : Mach wq mb lb 2 base since L n := by rw [hwq]; exact h5.only (S := fun _ => False) ⟨rfl, rfl, rfl, Nat.le_refl _, fun _ _ _ => rfl⟩ (by simp) (by simp)
      have hoQ : Only (fun i => i = mb ∨ i = lb) w wq := by rw [hwq]; exact hoR.andThen (S' := fun _ => False) ⟨rfl, rfl, rfl, Nat.le_refl _, fun _ _ _ => rfl⟩ (fun _ _ h => h.elim)
      clear hwq hd h5 hoR hrg
      obtain ⟨q0, q1, q2, q3, q4⟩ := hQ.cells
      clear q0 q1 q2 q3
      have hatQ := hQ.2
      go_wp2_with (first
        | (at_range; refine wpList_range LT _ rfl _ rfl lb n L rfl hatQ ?_; intro w8 hrg8 ho8 hs8)
        | go_in)
      go_frame
      have h8 := hQ.only ho8 (by simp) (by simp)
      have hoE := hoQ.andThen ho8 (fun i _ h => h.elim)
      clear hatQ hQ ho8 hs8 q4
      obtain ⟨r2, hr2⟩ : ∃ r, wq.heap.size = r := ⟨_, rfl⟩
      have hsz2 : r ≤ r2 := by have := hoQ.size; have := Hr.out; omega
      rw [hr2] at hrg8
      simp only [hr2]
      clear hr2 hoQ
      go_loopw [45] (fun _ wr => ∃ (left : Int → Bool) (cnt : Nat), LT.ranging wr lb r2 (fresh' L left) n left cnt ∧ Mach wr mb lb 2 base since (fresh' L left) n ∧ Only (fun i => i = mb ∨ i = lb) w wr)
        (fun _ wr => wr.rangeLeft lb r2)
      case atStart => exact ⟨fun k => (L k).isSome, _, by rw [fresh_start]; exact ⟨hrg8, h8, hoE⟩⟩
      case round =>
        clear hrg8 h8 hoE
        obtain ⟨left, cnt, hrg, h5, hoR⟩ := hrel
        go_wp2_with (first
          | (at_next; refine wp_next rfl _ rfl r2 left cnt rfl hrg ?_ ?_)
          | go_in)
        · intro _ hl0
          rw [fresh_end L left hl0] at h5
          clear hl0
          obtain ⟨c0, c1, c2, c3, c4⟩ := h5.cells
          obtain ⟨f1, f3⟩ := h5.free
          go_wp2
          go_ret
          exact ⟨rfl, h5.setState 0, hoR.setCell _ _ (fun _ => Or.inl rfl)⟩
        · intro a p w6 cnt6 hg6 hl6 hp6 hrg6 hlt6 ho6 hs6 hen6
          obtain ⟨u, d⟩ := p
          have Hs6 := Lib.hid (fresh_step L left a u d hp6)
          have hp6S : ((fresh' L left) a).isSome = true := by rw [hp6]; rfl
          clear hp6
          have hoR6 := hoR.andThen ho6 (fun i hi h => by omega)
          have h6 := h5.only ho6 (by omega) (by omega)
          have hrgA := hrg6.alloc (.cells #[.bool u, .bool d] 50)
          have h6A := h6.only ((Only.refl (fun _ => False) w6).alloc (.cells #[.bool u, .bool d] 50)) (by simp) (by simp)
          have hoA := hoR6.alloc (.cells #[.bool u, .bool d] 50)
          have cb : (w6.alloc (.cells #[.bool u, .bool d] 50)).cell? ⟨w6.heap.size, 0, none⟩ = some (.bool u) := by simp
          clear h5 hoR ho6 h6 hoR6 hs6
          go_wp2
          generalize hB : w6.heap.size = B at cb ⊢
          clear hB hen6 hrg6
          generalize w6.alloc (.cells #[.bool u, .bool d] 50) = w7 at *
          obtain ⟨c0, c1, c2, c3, c4⟩ := h6A.cells
          go_still_tail 8, (by kernel_rfl)
          change wpList _ _ _ _ _ w7.drew
          have h9 := h6A.only (Only.refl (fun _ => False) w7).drew (by simp) (by simp)
          have ho9 := hoA.drew
          have hrg9 := hrgA.only (Only.refl (fun _ => False) w7).drew (by simp) (by simp)
          clear h6A hoA hrgA cb c0 c1 c2 c3 c4
          generalize w7.drew = w9 at *
          go_wp2_with (first
            | (at_mapUpdate; refine wp_store_ranging rfl _ _ _ rfl r2 _ _ rfl hrg9 a rfl hp6S u false rfl ?_; intro wA hrgB hoB hsB)
            | go_in)
          go_frame
          rw [Hs6.out] at hrgB
          go_roundw
          case rel => exact ⟨_, _, hrgB, h9.links hoB hrgB.at, ho9.andThen hoB (fun i _ h => Or.inr h)⟩
          case measure => rw [hrgB.left_eq, hrg.left_eq]; exact hlt6
    · intro a p w6 cnt6 hg6 hl6 hp6 hrg6 hlt6 ho6 hs6 hen6
      obtain ⟨u, d⟩ := p
      have Hf6 := Lib.hid (found_step Hf.out hp6)
      clear hp6 Hf
      have hoR6 := hoR.andThen ho6 (fun i hi h => by omega)
      have h6 := h5.only ho6 (by omega) (by omega)
      have hrgA := hrg6.alloc (.cells #[.bool u, .bool d] 50)
      have h6A := h6.only ((Only.refl (fun _ => False) w6).alloc (.cells #[.bool u, .bool d] 50)) (by simp) (by simp)
      have hoA := hoR6.alloc (.cells #[.bool u, .bool d] 50)
      clear h5 hoR ho6 h6 hoR6
      cases b <;> cases u <;> cases d
      all_goals
        go_wp2
        go_roundw
        case rel => exact ⟨_, _, _, rfl, Hf6, hrgA, h6A, hoA⟩
        case measure => rw [hrgA.left_eq, hrg.left_eq]; exact hlt6
set_option maxHeartbeats 1000000 in
theorem tick_done (h : Mach w mb lb 2 base since L n) (now : Int) (hall : AllDone L) :
    Calls Try.prog 13 #[.pointer (some ⟨mb, 0, none⟩), .int .i64 now] w fun e w' => e = .returned (.bool true) ∧ Mach w' mb lb 0 base since (fresh L) n ∧ Only (fun i => i = mb ∨ i = lb) w w' := by
  have hc := state_any h
  have hlw := h.lt
  have Hall := Lib.hid (p := AllDone L) hall
  clear hall
  have hat := h.2
  obtain ⟨c0, c1, c2, c3, c4⟩ := h.cells
  go_enter Try.func13, Try.ntmps13
  go_wp2_with (first
    | (go_at_call 9; refine hc.mono ?_; rintro e w1 ⟨rfl, rfl⟩)
    | (at_range; refine wpList_range LT _ rfl _ rfl lb n L rfl hat ?_; intro w5 hrg5 ho5 hs5)
    | go_in)
  go_frame
  have h5 := h.only ho5 (by simp) (by simp)
  have hoR := ho5.mono (S' := fun i => i = mb ∨ i = lb) (fun _ _ h => h.elim)
  clear hat h ho5 c0 c1 c2 c3 c4 hs5 hc
  obtain ⟨r, hr⟩ : ∃ r, w.heap.size = r := ⟨_, rfl⟩
  have Hr := Lib.hid hr
  have hsz : w.heap.size ≤ r := by omega
  rw [hr] at hrg5 hlw
  have hf0 : Found L (fun k => (L k).isSome) true := ⟨fun _ k p hk hl => by simp [hk] at hl, fun h => by cases h⟩
  have Hf0 := Lib.hid hf0
  clear hf0
  simp only [hr]
  clear hr
  go_loopw [5, 18] (fun v _ wr => ∃ (b : Bool) (left : Int → Bool) (cnt : Nat), v = .bool b ∧ Hid (Found L left b) ∧ LT.ranging wr lb r L n left cnt ∧ Mach wr mb lb 2 base since L n ∧ Only (fun i => i = mb ∨ i = lb) w wr)
    (fun _ _ wr => wr.rangeLeft lb r)
  case atStart => exact ⟨true, _, _, rfl, Hf0, hrg5, h5, hoR⟩
  case round =>
    clear hrg5 h5 hoR Hf0
    obtain ⟨b, left, cnt, rfl, Hf, hrg, h5, hoR⟩ := hrel
    go_wp2_with (first
      | (at_next; refine wp_next rfl _ rfl r left cnt rfl hrg ?_ ?_)
      | go_in)
    · intro _ hl0
      have hbf : b = true := by
        cases b
        · obtain ⟨k, hk⟩ := Hf.out.2 rfl
          have := Hall.out k _ hk
          simp at this
        · rfl
      subst hbf
      clear hl0
      obtain ⟨wq, hwq⟩ : ∃ wq, wr = wq := ⟨_, rfl⟩
      have hQ : Mach wq mb lb 2 base since L n := by rw [← hwq]; exact h5
      have hoQ : Only (fun i => i = mb ∨ i = lb) w wq := by rw [← hwq]; exact hoR
      clear h5 hoR hrg
      rw [hwq]
      clear hwq
      obtain ⟨q0, q1, q2, q3, q4⟩ := hQ.cells
      clear q0 q1 q2 q3
      have hatQ := hQ.2
      go_wp2_with (first
        | (at_range; refine wpList_range LT _ rfl _ rfl lb n L rfl hatQ ?_; intro w8 hrg8 ho8 hs8)
        | go_in)
      go_frame
      have h8 := hQ.only ho8 (by simp) (by simp)
      have hoE := hoQ.andThen ho8 (fun i _ h => h.elim)
      clear hatQ hQ ho8 hs8 q4
      obtain ⟨r2, hr2⟩ : ∃ r, wq.heap.size = r := ⟨_, rfl⟩
      have hsz2 : r ≤ r2 := by have := hoQ.size; have := Hr.out; omega
      rw [hr2] at hrg8
      simp only [hr2]
      clear hr2 hoQ
      go_loopw [45] (fun _ wr => ∃ (left : Int → Bool) (cnt : Nat), LT.ranging wr lb r2 (fresh' L left) n left cnt ∧ Mach wr mb lb 2 base since (fresh' L left) n ∧ Only (fun i => i = mb ∨ i = lb) w wr)
        (fun _ wr => wr.rangeLeft lb r2)
      case atStart => exact ⟨fun k => (L k).isSome, _, by rw [fresh_start]; exact ⟨hrg8, h8, hoE⟩⟩
      case round =>
        clear hrg8 h8 hoE
        obtain ⟨left, cnt, hrg, h5, hoR⟩ := hrel
        go_wp2_with (first
          | (at_next; refine wp_next rfl _ rfl r2 left cnt rfl hrg ?_ ?_)
          | go_in)
        · intro _ hl0
          rw [fresh_end L left hl0] at h5
          clear hl0
          obtain ⟨c0, c1, c2, c3, c4⟩ := h5.cells
          obtain ⟨f1, f3⟩ := h5.free
          go_wp2
          go_ret
          exact ⟨rfl, h5.setState 0, hoR.setCell _ _ (fun _ => Or.inl rfl)⟩
        · intro a p w6 cnt6 hg6 hl6 hp6 hrg6 hlt6 ho6 hs6 hen6
          obtain ⟨u, d⟩ := p
          have Hs6 := Lib.hid (fresh_step L left a u d hp6)
          have hp6S : ((fresh' L left) a).isSome = true := by rw [hp6]; rfl
          clear hp6
          have hoR6 := hoR.andThen ho6 (fun i hi h => by omega)
          have h6 := h5.only ho6 (by omega) (by omega)
          have hrgA := hrg6.alloc (.cells #[.bool u, .bool d] 50)
          have h6A := h6.only ((Only.refl (fun _ => False) w6).alloc (.cells #[.bool u, .bool d] 50)) (by simp) (by simp)
          have hoA := hoR6.alloc (.cells #[.bool u, .bool d] 50)
          have cb : (w6.alloc (.cells #[.bool u, .bool d] 50)).cell? ⟨w6.heap.size, 0, none⟩ = some (.bool u) := by simp
          clear h5 hoR ho6 h6 hoR6 hs6
          go_wp2
          generalize hB : w6.heap.size = B at cb ⊢
          clear hB hen6 hrg6
          generalize w6.alloc (.cells #[.bool u, .bool d] 50) = w7 at *
          obtain ⟨c0, c1, c2, c3, c4⟩ := h6A.cells
          go_still_tail 8, (by kernel_rfl)
          change wpList _ _ _ _ _ w7.drew
          have h9 := h6A.only (Only.refl (fun _ => False) w7).drew (by simp) (by simp)
          have ho9 := hoA.drew
          have hrg9 := hrgA.only (Only.refl (fun _ => False) w7).drew (by simp) (by simp)
          clear h6A hoA hrgA cb c0 c1 c2 c3 c4
          generalize w7.drew = w9 at *
          go_wp2_with (first
            | (at_mapUpdate; refine wp_store_ranging rfl _ _ _ rfl r2 _ _ rfl hrg9 a rfl hp6S u false rfl ?_; intro wA hrgB hoB hsB)
            | go_in)
          go_frame
          rw [Hs6.out] at hrgB
          go_roundw
          case rel => exact ⟨_, _, hrgB, h9.links hoB hrgB.at, ho9.andThen hoB (fun i _ h => Or.inr h)⟩
          case measure => rw [hrgB.left_eq, hrg.left_eq]; exact hlt6
    · intro a p w6 cnt6 hg6 hl6 hp6 hrg6 hlt6 ho6 hs6 hen6
      obtain ⟨u, d⟩ := p
      have Hf6 := Lib.hid (found_step Hf.out hp6)
      clear hp6 Hf
      have hoR6 := hoR.andThen ho6 (fun i hi h => by omega)
      have h6 := h5.only ho6 (by omega) (by omega)
      have hrgA := hrg6.alloc (.cells #[.bool u, .bool d] 50)
      have h6A := h6.only ((Only.refl (fun _ => False) w6).alloc (.cells #[.bool u, .bool d] 50)) (by simp) (by simp)
      have hoA := hoR6.alloc (.cells #[.bool u, .bool d] 50)
      clear h5 hoR ho6 h6 hoR6
      cases b <;> cases u <;> cases d
      all_goals
        go_wp2
        go_roundw
        case rel => exact ⟨_, _, _, rfl, Hf6, hrgA, h6A, hoA⟩
        case measure => rw [hrgA.left_eq, hrg.left_eq]; exact hlt6
end

end Go.Proofs.Ytofdmfibffcojaa
