/-
  RestartsErrors: the walk.
-/
import Derived.Test.YtofdmfibffcojaaDead
import Derived.Test.YtofdmfibffcojaaCommon
namespace Go.Proofs.Ytofdmfibffcojaa
open Go.RowKit Go.PC

theorem new_fail {w : World} (a : Option Addr) (zs : List Int) (cap : Nat) (base : Int) (hlen : zs.length ≤ 64) (hp : Pts w a zs) (h : ¬ GoodL zs ∨ base < 0) :
    Calls Try.prog 8 #[.slice a zs.length cap, .int .i64 base] w fun e w' => e = .returned (.tuple #[.pointer none, .int .i64 1]) ∧ Only (fun _ => False) w w' := by
  by_cases hg : GoodL zs
  · exact new_neg a zs cap base hlen hp hg (h.resolve_left (fun hn => hn hg))
  · exact new_bad a zs cap base hlen hp hg
theorem new_limit' {w : World} (a : Option Addr) (zs : List Int) (cap : Nat) (base : Int) (hlen : 64 < zs.length) :
    Calls Try.prog 8 #[.slice a zs.length cap, .int .i64 base] w fun e w' => e = .returned (.tuple #[.pointer none, .int .i64 3]) ∧ Only (fun _ => False) w w' :=
  (new_limit a zs cap base hlen).mono fun _ _ ⟨h1, h2⟩ => ⟨h1, h2 ▸ Only.refl _ _⟩
theorem new_fine {w : World} (a : Option Addr) (zs : List Int) (cap : Nat) (base : Int) (hlen : zs.length ≤ 64) (hp : Pts w a zs) (hg : GoodL zs) (hb : 0 ≤ base) :
    Calls Try.prog 8 #[.slice a zs.length cap, .int .i64 base] w fun e w' => ∃ mb, e = .returned (.tuple #[.pointer (some ⟨mb, 0, none⟩), .int .i64 0]) ∧ (Calls Try.prog 9 #[.pointer (some ⟨mb, 0, none⟩)] w' fun e w'' => e = .returned (.int .u8 0) ∧ w' = w'') ∧ Only (fun _ => False) w w' :=
  (new_ok a zs cap base hlen hp hg hb).mono fun _ _ ⟨mb, _, h1, _, _, h2, h3⟩ => ⟨mb, h1, state_any h2, h3⟩

/-- m tells whether P. -/
def W1 (m : Int) (P : Prop) : Prop := (m = 0 ∧ P) ∨ (m = 1 ∧ ¬ P)

theorem good_nil (zs : List Int) : GoodL (zs.take 0) := ⟨by simp, by simp⟩
theorem good_succ {zs : List Int} {k : Nat} (hk : k < zs.length) : GoodL (zs.take (k + 1)) ↔ (GoodL (zs.take k) ∧ zs[k]?.getD 0 ∉ zs.take k) ∧ zs[k]?.getD 0 ≤ 16383 := by
  constructor
  · intro h
    rw [take_snoc_getD zs k hk] at h
    obtain ⟨h1, h2⟩ := h
    obtain ⟨h3, _, h4⟩ := List.nodup_append.1 h1
    exact ⟨⟨⟨h3, fun z hz => h2 z (by simp [hz])⟩, fun hm => h4 _ hm _ (by simp) rfl⟩, h2 _ (by simp)⟩
  · rintro ⟨⟨h1, h2⟩, h3⟩
    exact good_snoc hk h1 h2 h3

theorem W1.inner {m : Int} {P : Prop} {zs : List Int} {z : Int} {j : Nat} (hj : j < zs.length) (h : W1 m (P ∧ z ∉ zs.take j)) : W1 (if z = zs[j]?.getD 0 then 1 else m) (P ∧ z ∉ zs.take (j + 1)) := by
  rw [take_snoc_getD zs j hj]
  by_cases hz : z = zs[j]?.getD 0
  · rw [if_pos hz]
    exact Or.inr ⟨rfl, fun hh => hh.2 (by simp [hz])⟩
  · rw [if_neg hz]
    rcases h with ⟨h1, h2, h3⟩ | ⟨h1, h2⟩
    · exact Or.inl ⟨h1, h2, by simp [h3, hz]⟩
    · exact Or.inr ⟨h1, fun hh => h2 ⟨hh.1, fun hm => hh.2 (by simp [hm])⟩⟩

theorem W1.outer {m : Int} {zs : List Int} {k : Nat} (hk : k < zs.length) (h : W1 m (GoodL (zs.take k) ∧ zs[k]?.getD 0 ∉ zs.take k)) : W1 (if 16383 < zs[k]?.getD 0 then 1 else m) (GoodL (zs.take (k + 1))) := by
  rw [good_succ hk]
  by_cases hz : 16383 < zs[k]?.getD 0
  · rw [if_pos hz]
    exact Or.inr ⟨rfl, fun hh => by have := hh.2; omega⟩
  · rw [if_neg hz]
    rcases h with ⟨h1, h2⟩ | ⟨h1, h2⟩
    · exact Or.inl ⟨h1, h2, by omega⟩
    · exact Or.inr ⟨h1, fun hh => h2 hh.1⟩

theorem errs_long (a : Option Addr) (zs : List Int) (cap : Nat) (base now : Int) (hlen : 80 < zs.length) (w : World) :
    Calls Try.prog 6 #[.slice a zs.length cap, .int .i64 base, .int .i64 now] w fun e w' => e = .returned (.bool true) ∧ Only (fun _ => False) w w' := by
  have hl : (80 : Int) < (zs.length : Int) := by omega
  go_enter Try.func6, Try.ntmps6
  go_wp2_with (go_at_call 7; refine (lives_any _).mono ?_; rintro e w1 ⟨rfl, ho1⟩)
  go_ret
  exact ⟨rfl, ho1⟩

set_option maxHeartbeats 4000000 in
set_option maxRecDepth 100000 in
theorem errs_short (a : Option Addr) (zs : List Int) (cap : Nat) (base now : Int) (hlen : zs.length ≤ 80) (w : World) (hp : Pts w a zs) :
    Calls Try.prog 6 #[.slice a zs.length cap, .int .i64 base, .int .i64 now] w fun e w' => e = .returned (.bool true) ∧ Only (fun _ => False) w w' := by
  have Hp := Lib.hid hp
  clear hp
  have hl : ¬ (80 : Int) < (zs.length : Int) := by omega
  go_enter Try.func6, Try.ntmps6
  go_wp2
  have Hg0 := Lib.hid (show W1 0 (GoodL (zs.take 0)) from Or.inl ⟨rfl, good_nil zs⟩)
  go_loopw [7, 8] (fun v i wr => ∃ (k : Nat) (m : Int), k ≤ zs.length ∧ i = .int .i64 k ∧ v = .int .i64 m ∧ Hid (W1 m (GoodL (zs.take k))) ∧ Only (fun _ => False) w wr)
    (fun _ i _ => zs.length - (intOf i).toNat)
  case atStart => exact ⟨0, 0, Nat.zero_le _, rfl, rfl, Hg0, Only.refl _ _⟩
  case round =>
    clear Hg0
    obtain ⟨k, m, hk, rfl, rfl, Hm, ho⟩ := hrel
    obtain ⟨wo, hwo⟩ : ∃ wo : World, wo = wr := ⟨_, rfl⟩
    rw [← hwo] at ho ⊢
    clear hwo wr
    by_cases hlt : k < zs.length
    · obtain ⟨b, off, ha, hcell⟩ := Hp.out.2.resolve_left (fun h => by rw [h] at hlt; cases hlt)
      subst ha
      have Hcell := Lib.hid hcell
      clear hcell
      obtain ⟨z, hz⟩ : ∃ z, zs[k]?.getD 0 = z := ⟨_, rfl⟩
      have Hz := Lib.hid hz
      have Hc := Lib.hid (hz ▸ Hcell.out k hlt)
      clear hz
      have Hm0 := Lib.hid (show W1 m (GoodL (zs.take k) ∧ z ∉ zs.take 0) by simpa using Hm.out)
      clear Hm
      go_wp2
      go_loopw [7, 9] (fun v i wr => ∃ (j : Nat) (m : Int), j ≤ k ∧ i = .int .i64 j ∧ v = .int .i64 m ∧ Hid (W1 m (GoodL (zs.take k) ∧ z ∉ zs.take j)) ∧ Only (fun _ => False) w wr)
        (fun _ i _ => k - (intOf i).toNat)
      case atStart => exact ⟨0, m, Nat.zero_le _, rfl, rfl, Hm0, ho⟩
      case round =>
        clear Hm0 ho
        obtain ⟨j, m, hj, rfl, rfl, Hm, ho⟩ := hrel
        by_cases hjk : j < k
        · have hc1 := ho.cell Hc.out (by simp)
          have hc2 := ho.cell (Hcell.out j (by omega)) (by simp)
          have Hm' := Lib.hid (W1.inner (by omega : j < zs.length) Hm.out)
          clear Hm
          generalize zs[j]?.getD 0 = y at *
          have hi1 : (k : Int) < (zs.length : Int) := by omega
          have hi2 : (j : Int) < (zs.length : Int) := by omega
          by_cases hzy : z = y
          · have hb : (z == y) = true := by simpa using hzy
            have Hm2 := Lib.hid (show W1 1 _ by have := Hm'.out; rwa [if_pos hzy] at this)
            clear Hm' hzy
            go_wp2
            go_quiet (fail)
            go_wp2
            go_roundw
            case rel => exact ⟨j + 1, 1, by omega, by go_num, rfl, Hm2, ho.andThen (S' := fun _ => False) ⟨rfl, rfl, rfl, Nat.le_refl _, fun _ _ _ => rfl⟩ (fun _ _ h => h.elim)⟩
            case measure => simp [intOf]; omega
          · have hb : (z == y) = false := by simpa using hzy
            have Hm2 := Lib.hid (show W1 m _ by have := Hm'.out; rwa [if_neg hzy] at this)
            clear Hm' hzy
            go_wp2
            go_quiet (fail)
            go_wp2
            go_roundw
            case rel => exact ⟨j + 1, m, by omega, by go_num, rfl, Hm2, ho.andThen (S' := fun _ => False) ⟨rfl, rfl, rfl, Nat.le_refl _, fun _ _ _ => rfl⟩ (fun _ _ h => h.elim)⟩
            case measure => simp [intOf]; omega
        · have Hm2 := Lib.hid (W1.outer hlt (by have := Hm.out; rw [show j = k by omega, ← Hz.out] at this; exact this))
          have hjk' : ¬ (j : Int) < (k : Int) := by omega
          rw [Hz.out] at Hm2
          have hc1 := ho.cell Hc.out (by simp)
          clear Hm
          by_cases hz : 16383 < z
          · have Hm3 := Lib.hid (show W1 1 _ by have := Hm2.out; rwa [if_pos hz] at this)
            clear Hm2
            go_wp2
            go_roundw
            case rel => exact ⟨k + 1, 1, by omega, by go_num, rfl, Hm3, ho⟩
            case measure => simp [intOf]; omega
          · have Hm3 := Lib.hid (show W1 m _ by have := Hm2.out; rwa [if_neg hz] at this)
            clear Hm2
            go_wp2
            go_roundw
            case rel => exact ⟨k + 1, m, by omega, by go_num, rfl, Hm3, ho⟩
            case measure => simp [intOf]; omega
    · have hkl : k = zs.length := by omega
      have Hg := Lib.hid (show W1 m (GoodL zs) by have := Hm.out; rwa [hkl, List.take_length] at this)
      clear Hm
      have hP : Pts wo a zs := ⟨Hp.out.1, Hp.out.2.imp id (fun ⟨b, off, h1, h2⟩ => ⟨b, off, h1, fun k hk => ho.cell (h2 k hk) (by simp)⟩)⟩
      have HP := Lib.hid hP
      clear hP
      by_cases h64 : 64 < zs.length
      · have hl64 : (64 : Int) < (zs.length : Int) := by omega
        by_cases hb : base < 0
        · go_wp2_with fail
          refine (new_limit' a zs cap base h64).mono ?_
          rintro e w1 ⟨rfl, ho1⟩
          have hO := ho.trans ho1
          clear ho ho1
          go_wp2_with fail
          have hOz := (hO.alloc (.cells #[.bool false, .int .u8 0, .int .i64 0, .int .i64 0, .map none] 46)).alloc (.cells #[.pointer none, .pointer (some ⟨w1.heap.size, 0, none⟩)] 27)
          have z0 : ((w1.alloc (.cells #[.bool false, .int .u8 0, .int .i64 0, .int .i64 0, .map none] 46)).alloc (.cells #[.pointer none, .pointer (some ⟨w1.heap.size, 0, none⟩)] 27)).cell? ⟨w1.heap.size, 0, none⟩ = some (.bool false) := by simp [World.cell?_alloc_lt]
          have s0 : ((w1.alloc (.cells #[.bool false, .int .u8 0, .int .i64 0, .int .i64 0, .map none] 46)).alloc (.cells #[.pointer none, .pointer (some ⟨w1.heap.size, 0, none⟩)] 27)).cell? ⟨w1.heap.size + 1, 0, none⟩ = some (.pointer none) ∧ ((w1.alloc (.cells #[.bool false, .int .u8 0, .int .i64 0, .int .i64 0, .map none] 46)).alloc (.cells #[.pointer none, .pointer (some ⟨w1.heap.size, 0, none⟩)] 27)).cell? ⟨w1.heap.size + 1, 1, none⟩ = some (.pointer (some ⟨w1.heap.size, 0, none⟩)) := by
            have := World.cell?_alloc_new (w1.alloc (.cells #[.bool false, .int .u8 0, .int .i64 0, .int .i64 0, .map none] 46)) #[.pointer none, .pointer (some ⟨w1.heap.size, 0, none⟩)] 27
            rw [World.size_alloc] at this
            exact ⟨this 0, this 1⟩
          obtain ⟨sl0, sl1⟩ := s0
          clear hO
          generalize ((w1.alloc (.cells #[.bool false, .int .u8 0, .int .i64 0, .int .i64 0, .map none] 46)).alloc (.cells #[.pointer none, .pointer (some ⟨w1.heap.size, 0, none⟩)] 27)) = wz at *
          generalize w1.heap.size = B at *
          have hd0 : Dead wz none := Or.inl rfl
          have hd1 : Dead wz (some ⟨B, 0, none⟩) := Or.inr ⟨B, rfl, z0⟩
          go_loop [15] (fun i => i = .int .i64 0 ∨ i = .int .i64 1 ∨ i = .int .i64 2) (fun i => 2 - (intOf i).toNat)
          case atStart => exact Or.inl rfl
          case round =>
            rcases hrel with rfl | rfl | rfl
            · go_wp2_with (first
                | (go_at_call 9; refine (state_dead hd0).mono ?_; rintro e w' ⟨rfl, rfl⟩)
                | (go_at_call 13; refine (tick_dead hd0 _).mono ?_; rintro e w' ⟨rfl, rfl⟩)
                | (go_at_call 10; refine (up_dead hd0 _ _).mono ?_; rintro e w' ⟨rfl, rfl⟩)
                | (go_at_call 11; refine (down_dead hd0 _).mono ?_; rintro e w' ⟨rfl, rfl⟩)
                | (go_at_call 12; refine (done_dead hd0 _).mono ?_; rintro e w' ⟨rfl, rfl⟩))
              go_round
              case rel => exact Or.inr (Or.inl rfl)
              case measure => simp [intOf]
            · go_wp2_with (first
                | (go_at_call 9; refine (state_dead hd1).mono ?_; rintro e w' ⟨rfl, rfl⟩)
                | (go_at_call 13; refine (tick_dead hd1 _).mono ?_; rintro e w' ⟨rfl, rfl⟩)
                | (go_at_call 10; refine (up_dead hd1 _ _).mono ?_; rintro e w' ⟨rfl, rfl⟩)
                | (go_at_call 11; refine (down_dead hd1 _).mono ?_; rintro e w' ⟨rfl, rfl⟩)
                | (go_at_call 12; refine (done_dead hd1 _).mono ?_; rintro e w' ⟨rfl, rfl⟩))
              go_round
              case rel => exact Or.inr (Or.inr rfl)
              case measure => simp [intOf]
            · go_wp2_with (go_at_call 7; refine (lives_any _).mono ?_; rintro e w2 ⟨rfl, ho2⟩)
              go_ret
              exact ⟨rfl, hOz.trans ho2⟩
        · go_wp2_with fail
          refine (new_limit' a zs cap base h64).mono ?_
          rintro e w1 ⟨rfl, ho1⟩
          have hO := ho.trans ho1
          clear ho ho1
          go_wp2_with fail
          have hOz := (hO.alloc (.cells #[.bool false, .int .u8 0, .int .i64 0, .int .i64 0, .map none] 46)).alloc (.cells #[.pointer none, .pointer (some ⟨w1.heap.size, 0, none⟩)] 27)
          have z0 : ((w1.alloc (.cells #[.bool false, .int .u8 0, .int .i64 0, .int .i64 0, .map none] 46)).alloc (.cells #[.pointer none, .pointer (some ⟨w1.heap.size, 0, none⟩)] 27)).cell? ⟨w1.heap.size, 0, none⟩ = some (.bool false) := by simp [World.cell?_alloc_lt]
          have s0 : ((w1.alloc (.cells #[.bool false, .int .u8 0, .int .i64 0, .int .i64 0, .map none] 46)).alloc (.cells #[.pointer none, .pointer (some ⟨w1.heap.size, 0, none⟩)] 27)).cell? ⟨w1.heap.size + 1, 0, none⟩ = some (.pointer none) ∧ ((w1.alloc (.cells #[.bool false, .int .u8 0, .int .i64 0, .int .i64 0, .map none] 46)).alloc (.cells #[.pointer none, .pointer (some ⟨w1.heap.size, 0, none⟩)] 27)).cell? ⟨w1.heap.size + 1, 1, none⟩ = some (.pointer (some ⟨w1.heap.size, 0, none⟩)) := by
            have := World.cell?_alloc_new (w1.alloc (.cells #[.bool false, .int .u8 0, .int .i64 0, .int .i64 0, .map none] 46)) #[.pointer none, .pointer (some ⟨w1.heap.size, 0, none⟩)] 27
            rw [World.size_alloc] at this
            exact ⟨this 0, this 1⟩
          obtain ⟨sl0, sl1⟩ := s0
          clear hO
          generalize ((w1.alloc (.cells #[.bool false, .int .u8 0, .int .i64 0, .int .i64 0, .map none] 46)).alloc (.cells #[.pointer none, .pointer (some ⟨w1.heap.size, 0, none⟩)] 27)) = wz at *
          generalize w1.heap.size = B at *
          have hd0 : Dead wz none := Or.inl rfl
          have hd1 : Dead wz (some ⟨B, 0, none⟩) := Or.inr ⟨B, rfl, z0⟩
          go_loop [15] (fun i => i = .int .i64 0 ∨ i = .int .i64 1 ∨ i = .int .i64 2) (fun i => 2 - (intOf i).toNat)
          case atStart => exact Or.inl rfl
          case round =>
            rcases hrel with rfl | rfl | rfl
            · go_wp2_with (first
                | (go_at_call 9; refine (state_dead hd0).mono ?_; rintro e w' ⟨rfl, rfl⟩)
                | (go_at_call 13; refine (tick_dead hd0 _).mono ?_; rintro e w' ⟨rfl, rfl⟩)
                | (go_at_call 10; refine (up_dead hd0 _ _).mono ?_; rintro e w' ⟨rfl, rfl⟩)
                | (go_at_call 11; refine (down_dead hd0 _).mono ?_; rintro e w' ⟨rfl, rfl⟩)
                | (go_at_call 12; refine (done_dead hd0 _).mono ?_; rintro e w' ⟨rfl, rfl⟩))
              go_round
              case rel => exact Or.inr (Or.inl rfl)
              case measure => simp [intOf]
            · go_wp2_with (first
                | (go_at_call 9; refine (state_dead hd1).mono ?_; rintro e w' ⟨rfl, rfl⟩)
                | (go_at_call 13; refine (tick_dead hd1 _).mono ?_; rintro e w' ⟨rfl, rfl⟩)
                | (go_at_call 10; refine (up_dead hd1 _ _).mono ?_; rintro e w' ⟨rfl, rfl⟩)
                | (go_at_call 11; refine (down_dead hd1 _).mono ?_; rintro e w' ⟨rfl, rfl⟩)
                | (go_at_call 12; refine (done_dead hd1 _).mono ?_; rintro e w' ⟨rfl, rfl⟩))
              go_round
              case rel => exact Or.inr (Or.inr rfl)
              case measure => simp [intOf]
            · go_wp2_with (go_at_call 7; refine (lives_any _).mono ?_; rintro e w2 ⟨rfl, ho2⟩)
              go_ret
              exact ⟨rfl, hOz.trans ho2⟩
      · have hl64 : ¬ (64 : Int) < (zs.length : Int) := by omega
        by_cases hb : base < 0
        · go_wp2_with fail
          refine (new_fail a zs cap base (by omega) HP.out (Or.inr hb)).mono ?_
          rintro e w1 ⟨rfl, ho1⟩
          have hO := ho.trans ho1
          clear ho ho1
          go_wp2_with fail
          have hOz := (hO.alloc (.cells #[.bool false, .int .u8 0, .int .i64 0, .int .i64 0, .map none] 46)).alloc (.cells #[.pointer none, .pointer (some ⟨w1.heap.size, 0, none⟩)] 27)
          have z0 : ((w1.alloc (.cells #[.bool false, .int .u8 0, .int .i64 0, .int .i64 0, .map none] 46)).alloc (.cells #[.pointer none, .pointer (some ⟨w1.heap.size, 0, none⟩)] 27)).cell? ⟨w1.heap.size, 0, none⟩ = some (.bool false) := by simp [World.cell?_alloc_lt]
          have s0 : ((w1.alloc (.cells #[.bool false, .int .u8 0, .int .i64 0, .int .i64 0, .map none] 46)).alloc (.cells #[.pointer none, .pointer (some ⟨w1.heap.size, 0, none⟩)] 27)).cell? ⟨w1.heap.size + 1, 0, none⟩ = some (.pointer none) ∧ ((w1.alloc (.cells #[.bool false, .int .u8 0, .int .i64 0, .int .i64 0, .map none] 46)).alloc (.cells #[.pointer none, .pointer (some ⟨w1.heap.size, 0, none⟩)] 27)).cell? ⟨w1.heap.size + 1, 1, none⟩ = some (.pointer (some ⟨w1.heap.size, 0, none⟩)) := by
            have := World.cell?_alloc_new (w1.alloc (.cells #[.bool false, .int .u8 0, .int .i64 0, .int .i64 0, .map none] 46)) #[.pointer none, .pointer (some ⟨w1.heap.size, 0, none⟩)] 27
            rw [World.size_alloc] at this
            exact ⟨this 0, this 1⟩
          obtain ⟨sl0, sl1⟩ := s0
          clear hO
          generalize ((w1.alloc (.cells #[.bool false, .int .u8 0, .int .i64 0, .int .i64 0, .map none] 46)).alloc (.cells #[.pointer none, .pointer (some ⟨w1.heap.size, 0, none⟩)] 27)) = wz at *
          generalize w1.heap.size = B at *
          have hd0 : Dead wz none := Or.inl rfl
          have hd1 : Dead wz (some ⟨B, 0, none⟩) := Or.inr ⟨B, rfl, z0⟩
          go_loop [15] (fun i => i = .int .i64 0 ∨ i = .int .i64 1 ∨ i = .int .i64 2) (fun i => 2 - (intOf i).toNat)
          case atStart => exact Or.inl rfl
          case round =>
            rcases hrel with rfl | rfl | rfl
            · go_wp2_with (first
                | (go_at_call 9; refine (state_dead hd0).mono ?_; rintro e w' ⟨rfl, rfl⟩)
                | (go_at_call 13; refine (tick_dead hd0 _).mono ?_; rintro e w' ⟨rfl, rfl⟩)
                | (go_at_call 10; refine (up_dead hd0 _ _).mono ?_; rintro e w' ⟨rfl, rfl⟩)
                | (go_at_call 11; refine (down_dead hd0 _).mono ?_; rintro e w' ⟨rfl, rfl⟩)
                | (go_at_call 12; refine (done_dead hd0 _).mono ?_; rintro e w' ⟨rfl, rfl⟩))
              go_round
              case rel => exact Or.inr (Or.inl rfl)
              case measure => simp [intOf]
            · go_wp2_with (first
                | (go_at_call 9; refine (state_dead hd1).mono ?_; rintro e w' ⟨rfl, rfl⟩)
                | (go_at_call 13; refine (tick_dead hd1 _).mono ?_; rintro e w' ⟨rfl, rfl⟩)
                | (go_at_call 10; refine (up_dead hd1 _ _).mono ?_; rintro e w' ⟨rfl, rfl⟩)
                | (go_at_call 11; refine (down_dead hd1 _).mono ?_; rintro e w' ⟨rfl, rfl⟩)
                | (go_at_call 12; refine (done_dead hd1 _).mono ?_; rintro e w' ⟨rfl, rfl⟩))
              go_round
              case rel => exact Or.inr (Or.inr rfl)
              case measure => simp [intOf]
            · go_wp2_with (go_at_call 7; refine (lives_any _).mono ?_; rintro e w2 ⟨rfl, ho2⟩)
              go_ret
              exact ⟨rfl, hOz.trans ho2⟩
        · rcases Hg.out with ⟨rfl, hg⟩ | ⟨rfl, hg⟩
          · have HG := Lib.hid (p := GoodL zs) hg
            clear hg
            go_wp2_with fail
            refine (new_fine a zs cap base (by omega) HP.out HG.out (by omega)).mono ?_
            rintro e w1 ⟨mb, rfl, hst, ho1⟩
            have hO := ho.trans ho1
            clear ho ho1
            go_wp2_with (go_at_call 9; refine hst.mono ?_; rintro e w2 ⟨rfl, rfl⟩)
            have hOz := (hO.alloc (.cells #[.bool false, .int .u8 0, .int .i64 0, .int .i64 0, .map none] 46)).alloc (.cells #[.pointer none, .pointer (some ⟨w1.heap.size, 0, none⟩)] 27)
            have z0 : ((w1.alloc (.cells #[.bool false, .int .u8 0, .int .i64 0, .int .i64 0, .map none] 46)).alloc (.cells #[.pointer none, .pointer (some ⟨w1.heap.size, 0, none⟩)] 27)).cell? ⟨w1.heap.size, 0, none⟩ = some (.bool false) := by simp [World.cell?_alloc_lt]
            have s0 : ((w1.alloc (.cells #[.bool false, .int .u8 0, .int .i64 0, .int .i64 0, .map none] 46)).alloc (.cells #[.pointer none, .pointer (some ⟨w1.heap.size, 0, none⟩)] 27)).cell? ⟨w1.heap.size + 1, 0, none⟩ = some (.pointer none) ∧ ((w1.alloc (.cells #[.bool false, .int .u8 0, .int .i64 0, .int .i64 0, .map none] 46)).alloc (.cells #[.pointer none, .pointer (some ⟨w1.heap.size, 0, none⟩)] 27)).cell? ⟨w1.heap.size + 1, 1, none⟩ = some (.pointer (some ⟨w1.heap.size, 0, none⟩)) := by
              have := World.cell?_alloc_new (w1.alloc (.cells #[.bool false, .int .u8 0, .int .i64 0, .int .i64 0, .map none] 46)) #[.pointer none, .pointer (some ⟨w1.heap.size, 0, none⟩)] 27
              rw [World.size_alloc] at this
              exact ⟨this 0, this 1⟩
            obtain ⟨sl0, sl1⟩ := s0
            clear hO
            generalize ((w1.alloc (.cells #[.bool false, .int .u8 0, .int .i64 0, .int .i64 0, .map none] 46)).alloc (.cells #[.pointer none, .pointer (some ⟨w1.heap.size, 0, none⟩)] 27)) = wz at *
            generalize w1.heap.size = B at *
            have hd0 : Dead wz none := Or.inl rfl
            have hd1 : Dead wz (some ⟨B, 0, none⟩) := Or.inr ⟨B, rfl, z0⟩
            go_loop [15] (fun i => i = .int .i64 0 ∨ i = .int .i64 1 ∨ i = .int .i64 2) (fun i => 2 - (intOf i).toNat)
            case atStart => exact Or.inl rfl
            case round =>
              rcases hrel with rfl | rfl | rfl
              · go_wp2_with (first
                  | (go_at_call 9; refine (state_dead hd0).mono ?_; rintro e w' ⟨rfl, rfl⟩)
                  | (go_at_call 13; refine (tick_dead hd0 _).mono ?_; rintro e w' ⟨rfl, rfl⟩)
                  | (go_at_call 10; refine (up_dead hd0 _ _).mono ?_; rintro e w' ⟨rfl, rfl⟩)
                  | (go_at_call 11; refine (down_dead hd0 _).mono ?_; rintro e w' ⟨rfl, rfl⟩)
                  | (go_at_call 12; refine (done_dead hd0 _).mono ?_; rintro e w' ⟨rfl, rfl⟩))
                go_round
                case rel => exact Or.inr (Or.inl rfl)
                case measure => simp [intOf]
              · go_wp2_with (first
                  | (go_at_call 9; refine (state_dead hd1).mono ?_; rintro e w' ⟨rfl, rfl⟩)
                  | (go_at_call 13; refine (tick_dead hd1 _).mono ?_; rintro e w' ⟨rfl, rfl⟩)
                  | (go_at_call 10; refine (up_dead hd1 _ _).mono ?_; rintro e w' ⟨rfl, rfl⟩)
                  | (go_at_call 11; refine (down_dead hd1 _).mono ?_; rintro e w' ⟨rfl, rfl⟩)
                  | (go_at_call 12; refine (done_dead hd1 _).mono ?_; rintro e w' ⟨rfl, rfl⟩))
                go_round
                case rel => exact Or.inr (Or.inr rfl)
                case measure => simp [intOf]
              · go_wp2_with (go_at_call 7; refine (lives_any _).mono ?_; rintro e w2 ⟨rfl, ho2⟩)
                go_ret
                exact ⟨rfl, hOz.trans ho2⟩
          · have HG := Lib.hid (p := ¬ GoodL zs) hg
            clear hg
            go_wp2_with fail
            refine (new_fail a zs cap base (by omega) HP.out (Or.inl HG.out)).mono ?_
            rintro e w1 ⟨rfl, ho1⟩
            have hO := ho.trans ho1
            clear ho ho1
            go_wp2_with fail
            have hOz := (hO.alloc (.cells #[.bool false, .int .u8 0, .int .i64 0, .int .i64 0, .map none] 46)).alloc (.cells #[.pointer none, .pointer (some ⟨w1.heap.size, 0, none⟩)] 27)
            have z0 : ((w1.alloc (.cells #[.bool false, .int .u8 0, .int .i64 0, .int .i64 0, .map none] 46)).alloc (.cells #[.pointer none, .pointer (some ⟨w1.heap.size, 0, none⟩)] 27)).cell? ⟨w1.heap.size, 0, none⟩ = some (.bool false) := by simp [World.cell?_alloc_lt]
            have s0 : ((w1.alloc (.cells #[.bool false, .int .u8 0, .int .i64 0, .int .i64 0, .map none] 46)).alloc (.cells #[.pointer none, .pointer (some ⟨w1.heap.size, 0, none⟩)] 27)).cell? ⟨w1.heap.size + 1, 0, none⟩ = some (.pointer none) ∧ ((w1.alloc (.cells #[.bool false, .int .u8 0, .int .i64 0, .int .i64 0, .map none] 46)).alloc (.cells #[.pointer none, .pointer (some ⟨w1.heap.size, 0, none⟩)] 27)).cell? ⟨w1.heap.size + 1, 1, none⟩ = some (.pointer (some ⟨w1.heap.size, 0, none⟩)) := by
              have := World.cell?_alloc_new (w1.alloc (.cells #[.bool false, .int .u8 0, .int .i64 0, .int .i64 0, .map none] 46)) #[.pointer none, .pointer (some ⟨w1.heap.size, 0, none⟩)] 27
              rw [World.size_alloc] at this
              exact ⟨this 0, this 1⟩
            obtain ⟨sl0, sl1⟩ := s0
            clear hO
            generalize ((w1.alloc (.cells #[.bool false, .int .u8 0, .int .i64 0, .int .i64 0, .map none] 46)).alloc (.cells #[.pointer none, .pointer (some ⟨w1.heap.size, 0, none⟩)] 27)) = wz at *
            generalize w1.heap.size = B at *
            have hd0 : Dead wz none := Or.inl rfl
            have hd1 : Dead wz (some ⟨B, 0, none⟩) := Or.inr ⟨B, rfl, z0⟩
            go_loop [15] (fun i => i = .int .i64 0 ∨ i = .int .i64 1 ∨ i = .int .i64 2) (fun i => 2 - (intOf i).toNat)
            case atStart => exact Or.inl rfl
            case round =>
              rcases hrel with rfl | rfl | rfl
              · go_wp2_with (first
                  | (go_at_call 9; refine (state_dead hd0).mono ?_; rintro e w' ⟨rfl, rfl⟩)
                  | (go_at_call 13; refine (tick_dead hd0 _).mono ?_; rintro e w' ⟨rfl, rfl⟩)
                  | (go_at_call 10; refine (up_dead hd0 _ _).mono ?_; rintro e w' ⟨rfl, rfl⟩)
                  | (go_at_call 11; refine (down_dead hd0 _).mono ?_; rintro e w' ⟨rfl, rfl⟩)
                  | (go_at_call 12; refine (done_dead hd0 _).mono ?_; rintro e w' ⟨rfl, rfl⟩))
                go_round
                case rel => exact Or.inr (Or.inl rfl)
                case measure => simp [intOf]
              · go_wp2_with (first
                  | (go_at_call 9; refine (state_dead hd1).mono ?_; rintro e w' ⟨rfl, rfl⟩)
                  | (go_at_call 13; refine (tick_dead hd1 _).mono ?_; rintro e w' ⟨rfl, rfl⟩)
                  | (go_at_call 10; refine (up_dead hd1 _ _).mono ?_; rintro e w' ⟨rfl, rfl⟩)
                  | (go_at_call 11; refine (down_dead hd1 _).mono ?_; rintro e w' ⟨rfl, rfl⟩)
                  | (go_at_call 12; refine (done_dead hd1 _).mono ?_; rintro e w' ⟨rfl, rfl⟩))
                go_round
                case rel => exact Or.inr (Or.inr rfl)
                case measure => simp [intOf]
              · go_wp2_with (go_at_call 7; refine (lives_any _).mono ?_; rintro e w2 ⟨rfl, ho2⟩)
                go_ret
                exact ⟨rfl, hOz.trans ho2⟩

end Go.Proofs.Ytofdmfibffcojaa
