/-
  Plans: the stable sort of a few places.
-/
import Derived.Test.YtpfcoeenblmifaaPN
namespace Go.Proofs.Ytpfcoeenblmifaa
open Go.RowKit Go.PC

theorem itn_at {xs : List Nat} {i : Nat} {x : Nat} (h : xs[i]? = some x) : (its (nats xs))[i]? = some (.int .i64 x) := by simp [its, nats, h]

set_option maxHeartbeats 4000000 in
set_option maxRecDepth 100000 in
theorem insertion_ints (key : Nat → Int) (R : Nat → Nat → Prop) (cb : Array Value) (g N : Nat) (xs : List Nat) (cap : Nat) (w : World) (hr : Row w g 3 N (its (nats xs))) (hl : xs.length ≤ 1000) (hR : xs.Pairwise R)
    (hc : ∀ wx, Only (fun i => i = g) w wx → ∀ a ∈ xs, ∀ b ∈ xs, ∀ q, Calls Try.prog 38 (#[.int .i64 a, .int .i64 b] ++ cb) (wx.drewN q) fun e w' => e = .returned (.int .i64 (cmpI (key a) (key b))) ∧ ∃ m, w' = wx.drewN m) :
    Calls Try.prog 60 #[.slice (some ⟨g, 0, none⟩) xs.length cap, .int .i64 0, .int .i64 xs.length, .func (.func 38) #[] cb] w fun e w' =>
      e = .returned (.tuple #[]) ∧ Only (fun i => i = g) w w' ∧ ∃ ys, SortedBy key R xs ys ∧ Row w' g 3 N (its (nats ys)) := by
  have HR := Lib.hid hr
  have HT := Lib.hid hR
  have HC := Lib.hid hc
  clear hr hR hc
  by_cases hne : xs = []
  · subst hne
    go_enter Try.func60, Try.ntmps60
    go_wp2
    go_rounds 1
    all_goals (go_end0; exact ⟨rfl, Only.refl _ _, [], ⟨List.Perm.refl _, List.Pairwise.nil⟩, HR.out⟩)
  have HI := Lib.hid (Ins.start (key := key) (R := R) hne)
  have hpos : 0 < xs.length := List.length_pos_iff.2 hne
  clear hne
  go_enter Try.func60, Try.ntmps60
  go_wp2
  go_loopw [8] (fun v wr => ∃ (i : Nat) (ys : List Nat), v = .int .i64 i ∧ 1 ≤ i ∧ i ≤ xs.length ∧ Only (fun i => i = g) w wr ∧ Hid (Row wr g 3 N (its (nats ys))) ∧ Hid (Ins key R xs i ys))
    (fun v _ => xs.length - (intOf v).toNat)
  case atStart => exact ⟨1, xs, rfl, Nat.le_refl _, hpos, Only.refl _ _, HR, HI⟩
  case round =>
    clear HR HI
    obtain ⟨i, ys, rfl, hi1, hin, ho, HRow, HI⟩ := hrel
    by_cases hlt : i < xs.length
    · have hlt' : (i : Int) < (xs.length : Int) := by omega
      have HD := Lib.hid (HI.out.down hlt)
      clear HI
      go_wp2_with fail
      go_loopw [9] (fun v wr2 => ∃ (j : Nat) (zs : List Nat), v = .int .i64 j ∧ j ≤ i ∧ Only (fun i => i = g) w wr2 ∧ Hid (Row wr2 g 3 N (its (nats zs))) ∧ Hid (InsI key R xs i j zs))
        (fun v _ => (intOf v).toNat)
      case atStart => exact ⟨i, ys, rfl, Nat.le_refl _, ho, HRow, HD⟩
      case round =>
        clear ho HRow HD
        obtain ⟨j, zs, rfl, hji, ho, HRow, HI⟩ := hrel
        obtain ⟨wo, hwo⟩ : ∃ wo : World, wo = wr := ⟨_, rfl⟩
        rw [← hwo] at ho HRow ⊢
        clear hwo wr
        by_cases hj0 : j = 0
        · subst hj0
          have HO := Lib.hid (HI.out.stop HT.out (Or.inl rfl))
          clear HI
          go_wp2_with fail
          go_quiet (fail)
          go_wp2_with fail
          go_roundw
          case rel => exact ⟨i + 1, zs, by go_num, by omega, by omega, ⟨ho.os, ho.tape, ho.output, ho.size, ho.block⟩, HRow, HO⟩
          case measure => simp [intOf]; omega
        · obtain ⟨k, hk⟩ : ∃ k, j = k + 1 := ⟨j - 1, by omega⟩
          rw [hk] at HI
          obtain ⟨x, y, hx, hy⟩ := HI.out.two
          have hxm : x ∈ xs := HI.out.mem (List.mem_of_getElem? hx)
          have hym : y ∈ xs := HI.out.mem (List.mem_of_getElem? hy)
          have c0 : wo.cell? ⟨g, j, none⟩ = some (.int .i64 x) := by rw [hk]; exact HRow.out.cell (itn_at hx)
          have c1 : wo.cell? ⟨g, j - 1, none⟩ = some (.int .i64 y) := by rw [hk]; exact HRow.out.cell (itn_at hy)
          have f0 := HRow.out.frozen j
          have f1 := HRow.out.frozen (j - 1)
          have hg : decide (0 < j) = true := by simp; omega
          have hjx : (j : Int) < (xs.length : Int) := by omega
          have hi0 : (0 : Int) ≤ (j : Int) - 1 := by omega
          have hi1 : (j : Int) - 1 < (xs.length : Int) := by omega
          have hl1 := HC.out wo ho x hxm y hym
          have HX := Lib.hid hx
          have HY := Lib.hid hy
          have HK := Lib.hid hk
          clear hx hy hk hxm hym
          by_cases hxy : key x < key y
          · rw [show cmpI (key x) (key y) = -1 from if_pos hxy] at hl1
            have HL := Lib.hid hl1
            have HN := Lib.hid (HI.out.go HX.out HY.out hxy)
            clear HI hxy hl1
            go_wp2_with fail
            go_quiet (first | (go_at_call 38; exact HL.out _))
            go_wp2_with fail
            go_region
            all_goals go_wp2_with fail
            have e1 : j - 1 = k := by have := HK.out; omega
            have HR2 := Lib.hid (((HRow.out.of_block (w' := wo.drewN (nq + 1)) rfl).set j (.int .i64 y)).set (j - 1) (.int .i64 x))
            refine ⟨⟨k, (zs.set (k + 1) y).set k x, by have := HK.out; go_num, by omega, ?_, ?_, HN⟩, ?_⟩
            · exact Only.setCell (p := ⟨g, j - 1, none⟩) (Only.setCell (p := ⟨g, j, none⟩) (b := wo.drewN (nq + 1)) ⟨ho.os, ho.tape, ho.output, ho.size, ho.block⟩ _ (fun _ => rfl)) _ (fun _ => rfl)
            · refine Lib.hid ?_
              have h := HR2.out
              rw [e1, HK.out] at h ⊢
              simpa [its, nats, List.map_set] using h
            · simp [intOf]; omega
          · have hcmp : 0 ≤ cmpI (key x) (key y) := by unfold cmpI; rw [if_neg hxy]; split <;> decide
            have HO := Lib.hid (HI.out.stop HT.out (Or.inr ⟨x, y, HX.out, HY.out, hxy⟩))
            have HL := Lib.hid hl1
            clear HI hxy hl1
            generalize cmpI (key x) (key y) = cv at *
            have hcv : ¬ cv < 0 := by omega
            go_wp2_with fail
            go_quiet (first | (go_at_call 38; exact HL.out _))
            go_wp2_with fail
            go_roundw
            case rel => exact ⟨i + 1, zs, by go_num, by omega, by omega, ⟨ho.os, ho.tape, ho.output, ho.size, ho.block⟩, HRow, HO⟩
            case measure => simp [intOf]; omega
    · go_wp2_with fail
      have HS := Lib.hid (HI.out.sorted (by omega))
      go_end0
      exact ⟨rfl, ho, ys, HS.out, HRow.out⟩

end Go.Proofs.Ytpfcoeenblmifaa
