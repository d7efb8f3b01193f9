/-
  restarts.Machine: Down, Done.
-/
import Derived.Test.YtofdmfibffcojaaMach2
namespace Go.Proofs.Ytofdmfibffcojaa
open Go.RowKit Go.PC

section
variable {w w' : World} {mb lb : Nat} {st base since : Int} {L : Links} {n : Nat}

theorem down_no (h : Mach w mb lb st base since L n) (x : Int) (hx : (Lit.int .u16 x).wf = true) (hs : (L x).isSome = false) :
    Calls Try.prog 11 #[.pointer (some ⟨mb, 0, none⟩), .int .u16 x] w fun e w' => e = .returned (.int .i64 7) ∧ Only (fun _ => False) w w' := by
  have hc := check_no h x hx hs
  clear h
  go_enter Try.func11, Try.ntmps11
  go_wp2_with (go_at_call 14; refine hc.mono ?_; rintro e w1 ⟨rfl, ho1⟩)
  go_ret
  exact ⟨rfl, ho1⟩

set_option maxHeartbeats 1000000 in
theorem down_all (h : Mach w mb lb st base since L n) (x : Int) (hx : (Lit.int .u16 x).wf = true) (hs : (L x).isSome = true) (L' : Links) (hL : upd L x (some (false, false)) = L') (hall : ∀ k p, L' k = some p → p.1 = false) :
    Calls Try.prog 11 #[.pointer (some ⟨mb, 0, none⟩), .int .u16 x] w fun e w' => e = .returned (.int .i64 0) ∧
      Mach w' mb lb 1 base since L' n ∧ Only (fun i => i = mb ∨ i = lb) w w' := by
  have hc := check_yes h x hx hs
  have hlw := h.lt
  have HL := Lib.hid hL
  have Hall := Lib.hid hall
  clear hL hall
  go_enter Try.func11, Try.ntmps11
  go_wp2_with fail
  refine hc.mono ?_
  rintro e w1 ⟨rfl, ho1⟩
  clear hc
  have h1 := h.only ho1 (by simp) (by simp)
  have hoB := ho1.mono (S' := fun i => i = mb ∨ i = lb) (fun _ _ h => h.elim)
  obtain ⟨c0, c1, c2, c3, c4⟩ := h1.cells
  have hat := h1.2
  clear h ho1
  go_wp2_with (first
    | (at_mapUpdate; refine wp_store rfl _ _ _ rfl rfl hat x rfl hx false false rfl ?_; intro w4 hat4 ho4 hs4; rw [hs, if_pos rfl, HL.out] at hat4; have h4 := h1.links ho4 hat4; have hoA := hoB.andThen ho4 (fun i _ h => Or.inr h); clear c0 c1 c2 c3 c4 hat h1 hoB ho4; obtain ⟨c0, c1, c2, c3, c4⟩ := h4.cells)
    | (at_range; refine wpList_range LT _ rfl _ rfl lb n L' rfl hat4 ?_; intro w5 hrg5 ho5 hs5)
    | go_in)
  go_frame
  have hsz : w.heap.size ≤ w4.heap.size := hoA.size
  have h5 := h4.only ho5 (by simp) (by simp)
  have hoR := hoA.andThen ho5 (fun i _ h => h.elim)
  clear hat4 h4 hoA ho5 c0 c1 c2 c3 c4 hs4 hs5
  generalize w4.heap.size = r at *
  go_loopw [25] (fun _ wr => ∃ (left : Int → Bool) (cnt : Nat), LT.ranging wr lb r L' n left cnt ∧ Mach wr mb lb st base since L' n ∧ Only (fun i => i = mb ∨ i = lb) w wr)
    (fun _ wr => wr.rangeLeft lb r)
  case atStart => exact ⟨_, _, hrg5, h5, hoR⟩
  case round =>
    clear hrg5 h5 hoR
    obtain ⟨left, cnt, hrg, h5, hoR⟩ := hrel
    go_wp2_with (first
      | (at_next; refine wp_next rfl _ rfl r left cnt rfl hrg ?_ ?_)
      | go_in)
    · intro _ hl0
      have hst : ∀ k p, L' k = some p → p.1 = false := Hall.out
      obtain ⟨c0, c1, c2, c3, c4⟩ := h5.cells
      obtain ⟨f1, f3⟩ := h5.free
      clear hst
      go_wp2
      go_ret
      exact ⟨rfl, h5.setState 1, hoR.setCell _ _ (fun _ => Or.inl rfl)⟩
    · intro a p w6 cnt6 hg6 hl6 hp6 hrg6 hlt6 ho6 hs6 hen6
      have hpu : p.u = false := Hall.out a _ hp6
      clear hp6
      obtain ⟨u, d⟩ := p
      obtain rfl : u = false := hpu
      have hoR6 := hoR.andThen ho6 (fun i hi h => by omega)
      have h6 := h5.only ho6 (by omega) (by omega)
      have hrgA := hrg6.alloc (.cells #[.bool false, .bool d] 50)
      have h6A := h6.only ((Only.refl (fun _ => False) w6).alloc (.cells #[.bool false, .bool d] 50)) (by simp) (by simp)
      have hoA := hoR6.alloc (.cells #[.bool false, .bool d] 50)
      clear h5 hoR ho6 h6 hoR6
      go_wp2
      go_roundw
      case rel => exact ⟨_, _, hrgA, h6A, hoA⟩
      case measure => rw [hrgA.left_eq, hrg.left_eq]; exact hlt6
set_option maxHeartbeats 1000000 in
theorem down_some (h : Mach w mb lb st base since L n) (x : Int) (hx : (Lit.int .u16 x).wf = true) (hs : (L x).isSome = true) (L' : Links) (hL : upd L x (some (false, false)) = L') (hex : ∃ k d, L' k = some (true, d)) :
    Calls Try.prog 11 #[.pointer (some ⟨mb, 0, none⟩), .int .u16 x] w fun e w' => e = .returned (.int .i64 0) ∧
      Mach w' mb lb st base since L' n ∧ Only (fun i => i = mb ∨ i = lb) w w' := by
  have hc := check_yes h x hx hs
  have hlw := h.lt
  have HL := Lib.hid hL
  have Hex := Lib.hid (p := ∃ k d, L' k = some (true, d)) hex
  clear hL hex
  go_enter Try.func11, Try.ntmps11
  go_wp2_with fail
  refine hc.mono ?_
  rintro e w1 ⟨rfl, ho1⟩
  clear hc
  have h1 := h.only ho1 (by simp) (by simp)
  have hoB := ho1.mono (S' := fun i => i = mb ∨ i = lb) (fun _ _ h => h.elim)
  obtain ⟨c0, c1, c2, c3, c4⟩ := h1.cells
  have hat := h1.2
  clear h ho1
  go_wp2_with (first
    | (at_mapUpdate; refine wp_store rfl _ _ _ rfl rfl hat x rfl hx false false rfl ?_; intro w4 hat4 ho4 hs4; rw [hs, if_pos rfl, HL.out] at hat4; have h4 := h1.links ho4 hat4; have hoA := hoB.andThen ho4 (fun i _ h => Or.inr h); clear c0 c1 c2 c3 c4 hat h1 hoB ho4; obtain ⟨c0, c1, c2, c3, c4⟩ := h4.cells)
    | (at_range; refine wpList_range LT _ rfl _ rfl lb n L' rfl hat4 ?_; intro w5 hrg5 ho5 hs5)
    | go_in)
  go_frame
  have hsz : w.heap.size ≤ w4.heap.size := hoA.size
  have h5 := h4.only ho5 (by simp) (by simp)
  have hoR := hoA.andThen ho5 (fun i _ h => h.elim)
  clear hat4 h4 hoA ho5 c0 c1 c2 c3 c4 hs4 hs5
  generalize w4.heap.size = r at *
  go_loopw [25] (fun _ wr => ∃ (left : Int → Bool) (cnt : Nat), (∃ k d, L' k = some (true, d) ∧ left k = true) ∧ LT.ranging wr lb r L' n left cnt ∧ Mach wr mb lb st base since L' n ∧ Only (fun i => i = mb ∨ i = lb) w wr)
    (fun _ wr => wr.rangeLeft lb r)
  case atStart => exact ⟨_, _, (by obtain ⟨k, d, hk⟩ := Hex.out; exact ⟨k, d, hk, by rw [hk]; rfl⟩), hrg5, h5, hoR⟩
  case round =>
    clear hrg5 h5 hoR
    obtain ⟨left, cnt, hk0, hrg, h5, hoR⟩ := hrel
    have Hk := Lib.hid (p := ∃ k d, L' k = some (true, d) ∧ left k = true) hk0
    clear hk0
    go_wp2_with (first
      | (at_next; refine wp_next rfl _ rfl r left cnt rfl hrg ?_ ?_)
      | go_in)
    · intro _ hl0
      obtain ⟨k, d, _, hk⟩ := Hk.out
      rw [hl0 k] at hk
      cases hk
    · intro a p w6 cnt6 hg6 hl6 hp6 hrg6 hlt6 ho6 hs6 hen6
      obtain ⟨u, d⟩ := p
      have Hp6 := Lib.hid (p := L' a = some (u, d)) hp6
      clear hp6
      have hoR6 := hoR.andThen ho6 (fun i hi h => by omega)
      have h6 := h5.only ho6 (by omega) (by omega)
      have hrgA := hrg6.alloc (.cells #[.bool u, .bool d] 50)
      have h6A := h6.only ((Only.refl (fun _ => False) w6).alloc (.cells #[.bool u, .bool d] 50)) (by simp) (by simp)
      have hoA := hoR6.alloc (.cells #[.bool u, .bool d] 50)
      clear h5 hoR ho6 h6 hoR6
      cases u
      · go_wp2
        go_roundw
        case rel =>
          refine ⟨_, _, ?_, hrgA, h6A, hoA⟩
          obtain ⟨k, d', hk1, hk2⟩ := Hk.out
          refine ⟨k, d', hk1, ?_⟩
          have : k ≠ a := by rintro rfl; rw [Hp6.out] at hk1; cases hk1
          simp [hk2, this]
        case measure => rw [hrgA.left_eq, hrg.left_eq]; exact hlt6
      · go_wp2
        go_ret
        exact ⟨rfl, h6A, hoA⟩

theorem done_no (h : Mach w mb lb st base since L n) (x : Int) (hx : (Lit.int .u16 x).wf = true) (hs : (L x).isSome = false) :
    Calls Try.prog 12 #[.pointer (some ⟨mb, 0, none⟩), .int .u16 x] w fun e w' => e = .returned (.int .i64 7) ∧ Only (fun _ => False) w w' := by
  have hc := check_no h x hx hs
  clear h
  go_enter Try.func12, Try.ntmps12
  go_wp2_with (go_at_call 14; refine hc.mono ?_; rintro e w1 ⟨rfl, ho1⟩)
  go_ret
  exact ⟨rfl, ho1⟩

end

end Go.Proofs.Ytofdmfibffcojaa
