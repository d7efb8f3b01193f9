/-
  Plans: slices.Repeat of one number, a few times.
-/
import Derived.Test.YtpfcoeenblmifaaPH
import Derived.Test.YtpfcoeenblmifaaQueue
import Derived.Laws.MakeOwn
namespace Go.Proofs.Ytpfcoeenblmifaa
open Go.RowKit Go.PC

set_option maxHeartbeats 4000000 in
theorem mul64_small (n : Nat) (hn : n ≤ 12) (w : World) : Calls Try.prog 59 #[.int .u64 1, .int .u64 n] w fun e w' => e = .returned (.tuple #[.int .u64 0, .int .u64 n]) ∧ w = w' := by
  rcases nat_small hn with rfl | rfl | rfl | rfl | rfl | rfl | rfl | rfl | rfl | rfl | rfl | rfl | rfl <;>
  · go_enter Try.func59, Try.ntmps59
    go_wp2
    go_ret2
    exact ⟨rfl, rfl⟩

theorem mul_small (n : Nat) (hn : n ≤ 12) (w : World) : Calls Try.prog 50 #[.int .u64 1, .int .u64 n] w fun e w' => e = .returned (.tuple #[.int .u64 0, .int .u64 n]) ∧ w = w' := by
  have h1 := mul64_small n hn w
  go_enter Try.func50, Try.ntmps50
  go_wp2_with fail
  refine h1.mono ?_
  rintro e w' ⟨rfl, rfl⟩
  go_wp2_with fail
  go_ret2
  exact ⟨rfl, rfl⟩

abbrev its (xs : List Int) : List Value := xs.map (Value.int .i64)
theorem its_at {xs : List Int} {i : Nat} {x : Int} (h : xs[i]? = some x) : (its xs)[i]? = some (.int .i64 x) := by simp [its, h]

theorem infoInt : (Try.prog.info? 3).map (fun i => (i.zero, i.size, i.bytes)) = some (some (.int .i64 0), 1, 8) := by kernel_rfl

set_option maxHeartbeats 4000000 in
set_option maxRecDepth 100000 in
theorem repeat_small (b : Nat) (n : Nat) (hn1 : 1 ≤ n) (hn : n ≤ 12) (x : Int) (w : World) (hc : w.cell? ⟨b, 0, none⟩ = some (.int .i64 x)) :
    Calls Try.prog 36 #[.slice (some ⟨b, 0, none⟩) 1 1, .int .i64 n] w fun e w' =>
      e = .returned (.slice (some ⟨w.heap.size, 0, none⟩) n n) ∧ Only (fun _ => False) w w' ∧ Row w' w.heap.size 3 n (its (List.replicate n x)) := by
  have h1 := mul_small n hn w
  obtain ⟨i0, hi, hz0i, hz1i, hz2i⟩ := info_parts infoInt
  have hmk : (Instr.makeSlice 37 (.int .i64 (n : Int)) (.int .i64 (n : Int))).run Try.prog w = .ok (.slice (some ⟨w.heap.size, 0, none⟩) n n) (w.alloc (.cells (madeCells (Value.int .i64 0).cells (n * 1)) 3)) := by
    have := run_make (P := Try.prog) w 37 3 i0 (.int .i64 0) Try.underlying37 hi hz0i .i64 .i64 (n : Int) (n : Int) (by omega) (by omega) (by rw [hz2i]; omega) (by omega)
    simpa [hz1i] using this
  have hrow : Row (w.alloc (.cells (madeCells (Value.int .i64 0).cells (n * 1)) 3)) w.heap.size 3 n [] := ⟨_, heap_alloc_new w _, by simp [madeCells, Value.cells], rfl⟩
  have hO0 := (Only.refl (fun _ => False) w).alloc (.cells (madeCells (Value.int .i64 0).cells (n * 1)) 3)
  have hc0 := hO0.cell hc (by simp)
  have hbl := lt_of_cell hc
  have h63 : (n : Int) ≤ 12 := by omega
  have hguard : decide ((9223372036854775807 : Int) < (n : Int)) = false := by simp; omega
  have hneg : ¬ (n : Int) < 0 := by omega
  obtain ⟨g, hg⟩ : ∃ g, w.heap.size = g := ⟨_, rfl⟩
  rw [hg] at hmk hrow ⊢
  go_enter Try.func36, Try.ntmps36
  go_wp2_with fail
  refine h1.mono ?_
  rintro e w1 ⟨rfl, rfl⟩
  have hsz1 : (Try.prog.info? 3).map (·.size) = some 1 := by rw [hi]; simp [hz1i]
  obtain ⟨w1, hcp, hrow1, hO1⟩ := run_copy_behind 37 37 3 Try.underlying37 hsz1 hrow ⟨b, 0, none⟩ n n 1 1 [.int .i64 x] (by simp; exact (Nat.min_eq_left hn1).symm) (fun j v hj => by
    match j, hj with
    | 0, hj =>
      simp at hj
      subst hj
      exact hc0) (by simpa using hn1) (by simp [Value.oneCell'])
  simp only [List.length_nil, List.nil_append, List.length_singleton, Nat.mul_one] at hcp hrow1 hO1
  have hmk : (Instr.makeSlice 37 (.int .i64 (n : Int)) (.int .i64 (n : Int))).run Try.prog w = .ok (.slice (some ⟨g, 0, none⟩) n n) (w.alloc (.cells (madeCells #[.int .i64 0] n) 3)) := by simpa [Value.cells] using hmk
  have hcp : (Builtin.copy_ #[37, 37] 3 #[.slice (some ⟨g, 0, none⟩) n n, .slice (some ⟨b, 0, none⟩) 1 1]).run Try.prog (w.alloc (.cells (madeCells #[.int .i64 0] n) 3)) = .ok (.int .i64 1) w1 := hcp
  have hO : Only (fun _ => False) w w1 := Only.andThen (S' := fun i => i = g) hO0 (by simpa using hO1) (fun i hi h => by omega)
  have HR := Lib.hid (p := Row w1 g 3 n (its (List.replicate 1 x))) hrow1
  clear hrow hO0 hc0 hrow1 hO1 hi hz0i hz1i hz2i hc
  go_wp2_with fail
  clear hmk hcp h1
  go_loopw [8] (fun v wr => ∃ k : Nat, 1 ≤ k ∧ k ≤ n ∧ v = .int .i64 k ∧ Only (fun _ => False) w wr ∧ Hid (Row wr g 3 n (its (List.replicate k x)))) (fun v _ => n - (intOf v).toNat)
  case atStart => exact ⟨1, Nat.le_refl _, hn1, rfl, hO, HR⟩
  case round =>
    clear hO HR
    obtain ⟨k, hk1, hkn, rfl, ho, HR⟩ := hrel
    obtain ⟨wo, hwo⟩ : ∃ wo : World, wo = wr := ⟨_, rfl⟩
    rw [← hwo] at ho HR ⊢
    clear hwo wr
    by_cases hlt : k < n
    · have hlt' : (k : Int) < (n : Int) := by omega
      have hlk : (k : Int) ≤ (n : Int) := by omega
      obtain ⟨m, hm⟩ : ∃ m, m = Nat.min k (n - k) := ⟨_, rfl⟩
      have hm1 : m ≤ k := by rw [hm]; exact Nat.min_le_left _ _
      have hm2 : m ≤ n - k := by rw [hm]; exact Nat.min_le_right _ _
      have hm0 : 0 < m := by
        rw [hm]
        exact Nat.lt_min.2 ⟨hk1, by omega⟩
      have hrow : Row wo.drew g 3 n (its (List.replicate k x)) := HR.out.of_block rfl
      obtain ⟨w2, hcp, hrow2, hO2⟩ := run_copy_behind 37 37 3 Try.underlying37 hsz1 hrow ⟨g, 0, none⟩ (n - k) (n - k) k n (its (List.replicate m x)) (by simpa using hm) (fun j v hj => by
        rw [show (⟨g, 0, none⟩ : Addr).add j = ⟨g, j, none⟩ by rw [Addr.add_lit, Nat.zero_add]]
        refine hrow.cell ?_
        rw [← hj]
        have := (List.getElem?_eq_some_iff.1 hj).1
        simp at this
        simp [this, Nat.lt_of_lt_of_le this hm1]) (by simp; omega) (by simp [its, Value.oneCell'])
      simp only [List.length_map, List.length_replicate] at hcp
      have hcp : (Builtin.copy_ #[37, 37] 3 #[.slice (some ⟨g, k, none⟩) (n - k) (n - k), .slice (some ⟨g, 0, none⟩) k n]).run Try.prog wo.drew = .ok (.int .i64 m) w2 := hcp
      have HR2 := Lib.hid hrow2
      have HM := Lib.hid hm
      have hO := ho.drew.andThen hO2 (fun i hi h => by omega)
      clear hrow hrow2 hm hO2 hmk
      go_wp2_with fail
      go_region
      all_goals go_wp2_with fail
      refine ⟨⟨k + m, by omega, by omega, by go_num, hO, Lib.hid ?_⟩, by simp [intOf]; omega⟩
      have := HR2.out
      rwa [show its (List.replicate k x) ++ its (List.replicate m x) = its (List.replicate (k + m) x) by simp [its]] at this
    · have hk : k = n := by omega
      subst hk
      go_wp2_with fail
      go_ret
      exact ⟨rfl, ho, HR.out⟩

end Go.Proofs.Ytpfcoeenblmifaa
