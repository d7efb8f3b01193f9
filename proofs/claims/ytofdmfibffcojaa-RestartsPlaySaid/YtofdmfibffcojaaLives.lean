/-
  The chapter's example, which every statement of layer 18 checks.
-/
import Derived.Test.YtofdmfibffcojaaPm
namespace Go.Proofs.Ytofdmfibffcojaa
open Go.RowKit Go.PC

set_option maxHeartbeats 4000000 in
set_option maxRecDepth 100000 in
theorem lives_any (w : World) : Calls Try.prog 7 #[] w fun e w' => e = .returned (.bool true) ∧ Only (fun _ => False) w w' := by
  go_enter Try.func7, Try.ntmps7
  go_wp2_with fail
  refine (pm_new (some ⟨w.heap.size, 0, none⟩) 1 2 2 10 (by decide) (by decide) (by decide) (Or.inr ⟨w.heap.size, 0, rfl, ?cells⟩) (by decide) (by decide)).mono ?_
  case cells =>
    intro k hk
    match k, hk with
    | 0, _ => simp
    | 1, _ => simp
  rintro e w1 ⟨ma, la, rfl, hma, hla, hA0, hoA⟩
  have hsl : (w.alloc (.cells #[.int .u16 1, .int .u16 2] 26)).cell? ⟨w.heap.size, 0, none⟩ = some (.int .u16 1) ∧ (w.alloc (.cells #[.int .u16 1, .int .u16 2] 26)).cell? ⟨w.heap.size, 1, none⟩ = some (.int .u16 2) := by simp
  have hO0 := ((Only.refl (fun _ => False) w).alloc (.cells #[.int .u16 1, .int .u16 2] 26)).trans hoA
  have hc1 := hoA.cell hsl.1 (by simp)
  have hc2 := hoA.cell hsl.2 (by simp)
  simp only [World.size_alloc] at hma hla
  clear hsl hoA
  go_wp2_with fail
  refine (pm_new (some ⟨w.heap.size, 0, none⟩) 1 2 2 10 (by decide) (by decide) (by decide) (Or.inr ⟨w.heap.size, 0, rfl, ?cells2⟩) (by decide) (by decide)).mono ?_
  case cells2 =>
    intro k hk
    match k, hk with
    | 0, _ => exact hc1
    | 1, _ => exact hc2
  rintro e w2 ⟨mb, lb, rfl, hmb, hlb, hB0, hoB⟩
  have hltA := hA0.lt
  have hA := hA0.only hoB (by simp) (by simp)
  have hO := hO0.trans hoB
  have hB := hB0
  clear hc1 hc2 hA0 hO0 hoB hB0
  go_wp2_with fail
  refine (pm_down' hA 1 0 rfl (by decide) (by decide) 0 rfl ⟨0, 10, 0, [(false, false), (true, false)]⟩ rfl).mono ?_
  rintro e w2 ⟨rfl, hA', ho⟩
  have hB' := hB.only ho (by omega) (by omega)
  have hO' := hO.andThen ho (fun i hi h => by omega)
  clear hA hB hO ho
  have hA := hA'
  have hB := hB'
  have hO := hO'
  clear hA' hB' hO'
  go_wp2_with fail
  refine (pm_state' hA 0 rfl).mono ?_
  rintro e w3 ⟨rfl, rfl⟩
  go_wp2_with fail
  refine (pm_down' hA 2 1 rfl (by decide) (by decide) 0 rfl ⟨1, 10, 0, [(false, false), (false, false)]⟩ rfl).mono ?_
  rintro e w4 ⟨rfl, hA', ho⟩
  have hB' := hB.only ho (by omega) (by omega)
  have hO' := hO.andThen ho (fun i hi h => by omega)
  clear hA hB hO ho
  have hA := hA'
  have hB := hB'
  have hO := hO'
  clear hA' hB' hO'
  go_wp2_with fail
  refine (pm_state' hA 1 rfl).mono ?_
  rintro e w5 ⟨rfl, rfl⟩
  go_wp2_with fail
  refine (pm_up' hA 5 (by decide) (by decide) 1 0 rfl (by decide) (by decide) 0 rfl ⟨2, 10, 5, [(true, false), (false, false)]⟩ rfl).mono ?_
  rintro e w6 ⟨rfl, hA', ho⟩
  have hB' := hB.only ho (by omega) (by omega)
  have hO' := hO.andThen ho (fun i hi h => by omega)
  clear hA hB hO ho
  have hA := hA'
  have hB := hB'
  have hO := hO'
  clear hA' hB' hO'
  go_wp2_with fail
  refine (pm_state' hA 2 rfl).mono ?_
  rintro e w7 ⟨rfl, rfl⟩
  go_wp2_with fail
  refine (pm_tick' hA 6 false rfl ⟨2, 10, 5, [(true, false), (false, false)]⟩ rfl).mono ?_
  rintro e w8 ⟨rfl, hA', ho⟩
  have hB' := hB.only ho (by omega) (by omega)
  have hO' := hO.andThen ho (fun i hi h => by omega)
  clear hA hB hO ho
  have hA := hA'
  have hB := hB'
  have hO := hO'
  clear hA' hB' hO'
  go_wp2_with fail
  refine (pm_done' hA 1 0 rfl (by decide) (by decide) 0 rfl ⟨2, 10, 5, [(true, true), (false, false)]⟩ rfl).mono ?_
  rintro e w9 ⟨rfl, hA', ho⟩
  have hB' := hB.only ho (by omega) (by omega)
  have hO' := hO.andThen ho (fun i hi h => by omega)
  clear hA hB hO ho
  have hA := hA'
  have hB := hB'
  have hO := hO'
  clear hA' hB' hO'
  go_wp2_with fail
  refine (pm_down' hB 1 0 rfl (by decide) (by decide) 0 rfl ⟨0, 10, 0, [(false, false), (true, false)]⟩ rfl).mono ?_
  rintro e w10 ⟨rfl, hB', ho⟩
  have hA' := hA.only ho (by omega) (by omega)
  have hO' := hO.andThen ho (fun i hi h => by omega)
  clear hB hA hO ho
  have hB := hB'
  have hA := hA'
  have hO := hO'
  clear hB' hA' hO'
  go_wp2_with fail
  refine (pm_down' hB 2 1 rfl (by decide) (by decide) 0 rfl ⟨1, 10, 0, [(false, false), (false, false)]⟩ rfl).mono ?_
  rintro e w11 ⟨rfl, hB', ho⟩
  have hA' := hA.only ho (by omega) (by omega)
  have hO' := hO.andThen ho (fun i hi h => by omega)
  clear hB hA hO ho
  have hB := hB'
  have hA := hA'
  have hO := hO'
  clear hB' hA' hO'
  go_wp2_with fail
  refine (pm_up' hB 5 (by decide) (by decide) 1 0 rfl (by decide) (by decide) 0 rfl ⟨2, 10, 5, [(true, false), (false, false)]⟩ rfl).mono ?_
  rintro e w12 ⟨rfl, hB', ho⟩
  have hA' := hA.only ho (by omega) (by omega)
  have hO' := hO.andThen ho (fun i hi h => by omega)
  clear hB hA hO ho
  have hB := hB'
  have hA := hA'
  have hO := hO'
  clear hB' hA' hO'
  go_wp2_with fail
  refine (pm_up' hB 7 (by decide) (by decide) 2 1 rfl (by decide) (by decide) 0 rfl ⟨2, 10, 5, [(true, false), (true, false)]⟩ rfl).mono ?_
  rintro e w13 ⟨rfl, hB', ho⟩
  have hA' := hA.only ho (by omega) (by omega)
  have hO' := hO.andThen ho (fun i hi h => by omega)
  clear hB hA hO ho
  have hB := hB'
  have hA := hA'
  have hO := hO'
  clear hB' hA' hO'
  go_wp2_with fail
  refine (pm_done' hB 1 0 rfl (by decide) (by decide) 0 rfl ⟨2, 10, 5, [(true, true), (true, false)]⟩ rfl).mono ?_
  rintro e w14 ⟨rfl, hB', ho⟩
  have hA' := hA.only ho (by omega) (by omega)
  have hO' := hO.andThen ho (fun i hi h => by omega)
  clear hB hA hO ho
  have hB := hB'
  have hA := hA'
  have hO := hO'
  clear hB' hA' hO'
  go_wp2_with fail
  refine (pm_tick' hA 6 true rfl ⟨0, 10, 5, [(true, false), (false, false)]⟩ rfl).mono ?_
  rintro e w15 ⟨rfl, hA', ho⟩
  have hB' := hB.only ho (by omega) (by omega)
  have hO' := hO.andThen ho (fun i hi h => by omega)
  clear hA hB hO ho
  have hA := hA'
  have hB := hB'
  have hO := hO'
  clear hA' hB' hO'
  go_wp2_with fail
  refine (pm_state' hA 0 rfl).mono ?_
  rintro e w16 ⟨rfl, rfl⟩
  go_wp2_with fail
  refine (pm_tick' hB 8 false rfl ⟨2, 10, 5, [(true, true), (true, false)]⟩ rfl).mono ?_
  rintro e w17 ⟨rfl, hB', ho⟩
  have hA' := hA.only ho (by omega) (by omega)
  have hO' := hO.andThen ho (fun i hi h => by omega)
  clear hB hA hO ho
  have hB := hB'
  have hA := hA'
  have hO := hO'
  clear hB' hA' hO'
  go_wp2_with fail
  refine (pm_tick' hB 15 true rfl ⟨0, 10, 5, [(true, false), (true, false)]⟩ rfl).mono ?_
  rintro e w18 ⟨rfl, hB', ho⟩
  have hA' := hA.only ho (by omega) (by omega)
  have hO' := hO.andThen ho (fun i hi h => by omega)
  clear hB hA hO ho
  have hB := hB'
  have hA := hA'
  have hO := hO'
  clear hB' hA' hO'
  go_wp2_with fail
  refine (pm_tick' hB 16 false rfl ⟨0, 10, 5, [(true, false), (true, false)]⟩ rfl).mono ?_
  rintro e w19 ⟨rfl, hB', ho⟩
  have hA' := hA.only ho (by omega) (by omega)
  have hO' := hO.andThen ho (fun i hi h => by omega)
  clear hB hA hO ho
  have hB := hB'
  have hA := hA'
  have hO := hO'
  clear hB' hA' hO'
  go_wp2_with fail
  go_ret
  exact ⟨rfl, hO⟩

end Go.Proofs.Ytofdmfibffcojaa
