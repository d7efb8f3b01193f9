/-
  restarts.Machine: Done, Tick.
-/
import Derived.Test.YtofdmfibffcojaaMach3
namespace Go.Proofs.Ytofdmfibffcojaa
open Go.RowKit Go.PC

section
variable {w w' : World} {mb lb : Nat} {st base since : Int} {L : Links} {n : Nat}

set_option maxHeartbeats 1000000 in
theorem done_down (h : Mach w mb lb st base since L n) (x : Int) (hx : (Lit.int .u16 x).wf = true) (d : Bool) (hs : L x = some (false, d)) :
    Calls Try.prog 12 #[.pointer (some ⟨mb, 0, none⟩), .int .u16 x] w fun e w' => e = .returned (.int .i64 0) ∧ Mach w' mb lb st base since L n ∧ Only (fun i => i = mb ∨ i = lb) w w' := by
  have hsS : (L x).isSome = true := by rw [hs]; rfl
  have Hp := Lib.hid (show (L x).getD (false, false) = (false, d) by rw [hs]; rfl)
  have hc := check_yes h x hx hsS
  clear hs
  go_enter Try.func12, Try.ntmps12
  go_wp2_with fail
  refine hc.mono ?_
  rintro e w1 ⟨rfl, ho1⟩
  clear hc
  have h1 := h.only ho1 (by simp) (by simp)
  obtain ⟨c0, c1, c2, c3, c4⟩ := h1.cells
  have hat := h1.2
  clear h
  have h2 := h1.only ((Only.refl (fun _ => False) w1).alloc (.cells #[.bool false, .bool d] 50)) (by simp) (by simp)
  have ho2 := (ho1.alloc (.cells #[.bool false, .bool d] 50)).mono (S' := fun i => i = mb ∨ i = lb) (fun _ _ h => h.elim)
  have hlt : mb < w1.heap.size := h1.lt.1
  go_wp2_with (first
    | (at_lookup; refine wp_look rfl _ _ false rfl rfl hat x rfl hx false d Hp.out ?_)
    | go_in)
  go_ret
  exact ⟨rfl, h2, ho2⟩

set_option maxHeartbeats 1000000 in
theorem done_idle (h : Mach w mb lb st base since L n) (x : Int) (hx : (Lit.int .u16 x).wf = true) (d : Bool) (hs : L x = some (true, d)) (hst : (st == 2) = false) :
    Calls Try.prog 12 #[.pointer (some ⟨mb, 0, none⟩), .int .u16 x] w fun e w' => e = .returned (.int .i64 0) ∧ Mach w' mb lb st base since L n ∧ Only (fun i => i = mb ∨ i = lb) w w' := by
  have hsS : (L x).isSome = true := by rw [hs]; rfl
  have Hp := Lib.hid (show (L x).getD (false, false) = (true, d) by rw [hs]; rfl)
  have hc := check_yes h x hx hsS
  clear hs
  go_enter Try.func12, Try.ntmps12
  go_wp2_with fail
  refine hc.mono ?_
  rintro e w1 ⟨rfl, ho1⟩
  clear hc
  have h1 := h.only ho1 (by simp) (by simp)
  obtain ⟨c0, c1, c2, c3, c4⟩ := h1.cells
  have hat := h1.2
  clear h
  have h2 := h1.only ((Only.refl (fun _ => False) w1).alloc (.cells #[.bool true, .bool d] 50)) (by simp) (by simp)
  have ho2 := (ho1.alloc (.cells #[.bool true, .bool d] 50)).mono (S' := fun i => i = mb ∨ i = lb) (fun _ _ h => h.elim)
  have hlt : mb < w1.heap.size := h1.lt.1
  go_wp2_with (first
    | (at_lookup; refine wp_look rfl _ _ false rfl rfl hat x rfl hx true d Hp.out ?_)
    | go_in)
  go_ret
  exact ⟨rfl, h2, ho2⟩

set_option maxHeartbeats 1000000 in
theorem done_act (h : Mach w mb lb 2 base since L n) (x : Int) (hx : (Lit.int .u16 x).wf = true) (d : Bool) (hs : L x = some (true, d)) :
    Calls Try.prog 12 #[.pointer (some ⟨mb, 0, none⟩), .int .u16 x] w fun e w' => e = .returned (.int .i64 0) ∧ Mach w' mb lb 2 base since (upd L x (some (true, true))) n ∧ Only (fun i => i = mb ∨ i = lb) w w' := by
  have hsS : (L x).isSome = true := by rw [hs]; rfl
  have Hp := Lib.hid (show (L x).getD (false, false) = (true, d) by rw [hs]; rfl)
  have hc := check_yes h x hx hsS
  clear hs
  go_enter Try.func12, Try.ntmps12
  go_wp2_with fail
  refine hc.mono ?_
  rintro e w1 ⟨rfl, ho1⟩
  clear hc
  have h1 := h.only ho1 (by simp) (by simp)
  obtain ⟨c0, c1, c2, c3, c4⟩ := h1.cells
  have hat := h1.2
  clear h
  have hlt : mb < w1.heap.size := h1.lt.1
  go_wp2_with (first
    | (at_lookup; refine wp_look rfl _ _ false rfl rfl hat x rfl hx true d Hp.out ?_)
    | go_in)
  have h2 := h1.only ((Only.refl (fun _ => False) w1).alloc (.cells #[.bool true, .bool true] 50)) (by simp) (by simp)
  have ho2 := ho1.alloc (.cells #[.bool true, .bool true] 50)
  have cb : (w1.alloc (.cells #[.bool true, .bool true] 50)).cell? ⟨w1.heap.size, 0, none⟩ = some (.bool true) := by simp
  have cd : (w1.alloc (.cells #[.bool true, .bool true] 50)).cell? ⟨w1.heap.size, 1, none⟩ = some (.bool true) := by simp
  clear hat c0 c1 c2 c3 c4 h1 ho1 hlt
  generalize hB : w1.heap.size = B at cb cd ⊢
  clear hB
  generalize w1.alloc (.cells #[.bool true, .bool true] 50) = w2 at *
  obtain ⟨c0, c1, c2, c3, c4⟩ := h2.cells
  go_still_tail 6, (by kernel_rfl)
  change wpList _ _ _ _ _ w2.drew
  have h3 := h2.only (Only.refl (fun _ => False) w2).drew (by simp) (by simp)
  have ho3 := ho2.drew.mono (S' := fun i => i = mb ∨ i = lb) (fun _ _ h => h.elim)
  clear h2 ho2 cb cd c0 c1 c2 c3 c4
  generalize w2.drew = w3 at *
  have hat := h3.2
  go_wp2_with (first
    | (at_mapUpdate; refine wp_store rfl _ _ _ rfl rfl hat x rfl hx true true rfl ?_; intro w4 hat4 ho4 hs4; have h4 := h3.links ho4 hat4; have hoA := ho3.andThen ho4 (fun i _ h => Or.inr h); rw [hsS, if_pos rfl] at h4)
    | go_in)
  go_ret
  exact ⟨rfl, h4, hoA⟩

end

end Go.Proofs.Ytofdmfibffcojaa
