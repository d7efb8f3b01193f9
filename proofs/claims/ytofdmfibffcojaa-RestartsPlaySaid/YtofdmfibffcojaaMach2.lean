/-
  restarts.Machine: Up, Down, Done.
-/
import Derived.Test.YtofdmfibffcojaaMach
namespace Go.Proofs.Ytofdmfibffcojaa
open Go.RowKit Go.PC

theorem Only.or {S : Nat → Prop} {a b : World} {mb lb : Nat} (h : Only S a b) (hs : ∀ i, S i → i = mb ∨ i = lb) : Only (fun i => i = mb ∨ i = lb) a b := h.mono fun i _ h => hs i h

section
variable {w w' : World} {mb lb : Nat} {st base since : Int} {L : Links} {n : Nat}

theorem up_no (h : Mach w mb lb st base since L n) (now x : Int) (hx : (Lit.int .u16 x).wf = true) (hs : (L x).isSome = false) :
    Calls Try.prog 10 #[.pointer (some ⟨mb, 0, none⟩), .int .i64 now, .int .u16 x] w fun e w' => e = .returned (.int .i64 7) ∧ Only (fun _ => False) w w' := by
  have hc := check_no h x hx hs
  clear h
  go_enter Try.func10, Try.ntmps10
  go_wp2_with (go_at_call 14; refine hc.mono ?_; rintro e w1 ⟨rfl, ho1⟩)
  go_ret
  exact ⟨rfl, ho1⟩

set_option maxHeartbeats 1000000 in
theorem up_down (h : Mach w mb lb 1 base since L n) (now x : Int) (hx : (Lit.int .u16 x).wf = true) (u d : Bool) (hs : L x = some (u, d)) :
    Calls Try.prog 10 #[.pointer (some ⟨mb, 0, none⟩), .int .i64 now, .int .u16 x] w fun e w' => e = .returned (.int .i64 0) ∧
      Mach w' mb lb 2 base now (upd L x (some (true, d))) n ∧ Only (fun i => i = mb ∨ i = lb) w w' := by
  have hsS : (L x).isSome = true := by rw [hs]; rfl
  have Hp := Lib.hid (show (L x).getD (false, false) = (u, d) by rw [hs]; rfl)
  have hc := check_yes h x hx hsS
  clear hs
  go_enter Try.func10, Try.ntmps10
  go_wp2_with fail
  refine hc.mono ?_
  rintro e w1 ⟨rfl, ho1⟩
  clear hc
  have h1 := h.only ho1 (by simp) (by simp)
  obtain ⟨c0, c1, c2, c3, c4⟩ := h1.cells
  have hat := h1.2
  have hm1 := h1.1
  clear h
  go_wp2_with (first
    | (at_lookup; refine wp_look rfl _ _ false rfl rfl hat x rfl hx u d Hp.out ?_)
    | go_in)
  have hlt := h1.lt
  have h2 := h1.only ((Only.refl (fun _ => False) w1).alloc (.cells #[.bool true, .bool d] 50)) (by simp) (by simp)
  have ho2 := ho1.alloc (.cells #[.bool true, .bool d] 50)
  have cb : (w1.alloc (.cells #[.bool true, .bool d] 50)).cell? ⟨w1.heap.size, 0, none⟩ = some (.bool true) := by simp
  have cd : (w1.alloc (.cells #[.bool true, .bool d] 50)).cell? ⟨w1.heap.size, 1, none⟩ = some (.bool d) := by simp
  clear hat hm1 c0 c1 c2 c3 c4 h1 ho1
  generalize hB : w1.heap.size = B at cb cd ⊢
  clear hB
  generalize w1.alloc (.cells #[.bool true, .bool d] 50) = w2 at *
  obtain ⟨c0, c1, c2, c3, c4⟩ := h2.cells
  go_still_tail 6, (by kernel_rfl)
  change wpList _ _ _ _ _ w2.drew
  have h3 := h2.only (Only.refl (fun _ => False) w2).drew (by simp) (by simp)
  have ho3 := ho2.drew.mono (S' := fun i => i = mb ∨ i = lb) (fun _ _ h => h.elim)
  clear h2 ho2 cb cd c0 c1 c2 c3 c4
  generalize w2.drew = w3 at *
  have hat := h3.2
  go_wp2_with (first
    | (at_mapUpdate; refine wp_store rfl _ _ _ rfl rfl hat x rfl hx true d rfl ?_; intro w4 hat4 ho4 hs4; have h4 := h3.links ho4 hat4; have hoA := ho3.andThen ho4 (fun i _ h => Or.inr h); obtain ⟨c0, c1, c2, c3, c4⟩ := h4.cells; obtain ⟨f1, f3⟩ := h4.free; rw [hsS, if_pos rfl] at h4)
    | go_in)
  go_ret
  exact ⟨rfl, (h4.setState 2).setSince now, (hoA.setCell _ _ (fun _ => Or.inl rfl)).setCell _ _ (fun _ => Or.inl rfl)⟩

set_option maxHeartbeats 1000000 in
theorem up_else (h : Mach w mb lb st base since L n) (now x : Int) (hx : (Lit.int .u16 x).wf = true) (u d : Bool) (hs : L x = some (u, d)) (hst : (st == 1) = false) :
    Calls Try.prog 10 #[.pointer (some ⟨mb, 0, none⟩), .int .i64 now, .int .u16 x] w fun e w' => e = .returned (.int .i64 0) ∧
      Mach w' mb lb st base since (upd L x (some (true, d))) n ∧ Only (fun i => i = mb ∨ i = lb) w w' := by
  have hsS : (L x).isSome = true := by rw [hs]; rfl
  have Hp := Lib.hid (show (L x).getD (false, false) = (u, d) by rw [hs]; rfl)
  have hc := check_yes h x hx hsS
  clear hs
  go_enter Try.func10, Try.ntmps10
  go_wp2_with fail
  refine hc.mono ?_
  rintro e w1 ⟨rfl, ho1⟩
  clear hc
  have h1 := h.only ho1 (by simp) (by simp)
  obtain ⟨c0, c1, c2, c3, c4⟩ := h1.cells
  have hat := h1.2
  have hm1 := h1.1
  clear h
  go_wp2_with (first
    | (at_lookup; refine wp_look rfl _ _ false rfl rfl hat x rfl hx u d Hp.out ?_)
    | go_in)
  have hlt := h1.lt
  have h2 := h1.only ((Only.refl (fun _ => False) w1).alloc (.cells #[.bool true, .bool d] 50)) (by simp) (by simp)
  have ho2 := ho1.alloc (.cells #[.bool true, .bool d] 50)
  have cb : (w1.alloc (.cells #[.bool true, .bool d] 50)).cell? ⟨w1.heap.size, 0, none⟩ = some (.bool true) := by simp
  have cd : (w1.alloc (.cells #[.bool true, .bool d] 50)).cell? ⟨w1.heap.size, 1, none⟩ = some (.bool d) := by simp
  clear hat hm1 c0 c1 c2 c3 c4 h1 ho1
  generalize hB : w1.heap.size = B at cb cd ⊢
  clear hB
  generalize w1.alloc (.cells #[.bool true, .bool d] 50) = w2 at *
  obtain ⟨c0, c1, c2, c3, c4⟩ := h2.cells
  go_still_tail 6, (by kernel_rfl)
  change wpList _ _ _ _ _ w2.drew
  have h3 := h2.only (Only.refl (fun _ => False) w2).drew (by simp) (by simp)
  have ho3 := ho2.drew.mono (S' := fun i => i = mb ∨ i = lb) (fun _ _ h => h.elim)
  clear h2 ho2 cb cd c0 c1 c2 c3 c4
  generalize w2.drew = w3 at *
  have hat := h3.2
  go_wp2_with (first
    | (at_mapUpdate; refine wp_store rfl _ _ _ rfl rfl hat x rfl hx true d rfl ?_; intro w4 hat4 ho4 hs4; have h4 := h3.links ho4 hat4; have hoA := ho3.andThen ho4 (fun i _ h => Or.inr h); obtain ⟨c0, c1, c2, c3, c4⟩ := h4.cells; obtain ⟨f1, f3⟩ := h4.free; rw [hsS, if_pos rfl] at h4)
    | go_in)
  go_ret
  exact ⟨rfl, h4, hoA⟩

end

end Go.Proofs.Ytofdmfibffcojaa
