/-
  RestartsPlay: the walk.
-/
import Derived.Test.YtofdmfibffcojaaPlayP
import Derived.Maps.AppendAt
namespace Go.Proofs.Ytofdmfibffcojaa
open Go.RowKit Go.PC

theorem info26' : (Try.prog.info? 26).map (fun i => (i.zero, i.size, i.bytes)) = some (some (.int .u16 0), 1, 2) := by kernel_rfl

/-- The points of the law. -/
def ptsT (k : Nat) : List Value := (List.range k).map fun i => Value.int .u16 (10 + ((i : Nat) : Int))
theorem ptsT_succ (k : Nat) : ptsT (k + 1) = ptsT k ++ [.int .u16 (10 + (k : Int))] := by unfold ptsT; rw [List.range_succ, List.map_append]; rfl

set_option maxRecDepth 100000 in
theorem play_long (a : Option Addr) (len cap : Nat) (many base : Int) (hlen : 200 < len) (w : World) :
    Calls Try.prog 3 #[.int .u8 many, .int .u8 base, .slice a len cap] w fun e w' => e = .returned (.bool true) ∧ Only (fun _ => False) w w' := by
  have hl : (200 : Int) < (len : Int) := by omega
  go_enter Try.func3, Try.ntmps3
  go_wp2_with (go_at_call 7; refine (lives_any _).mono ?_; rintro e w1 ⟨rfl, ho1⟩)
  go_ret
  exact ⟨rfl, ho1⟩

theorem due_small' {base since : Int} (h0 : 0 ≤ base) (h1 : base ≤ 255) (h2 : 0 ≤ since) (h3 : since ≤ 20000) : dueAt base since = since + base := by
  unfold dueAt
  rw [if_neg (by omega)]

set_option maxHeartbeats 8000000 in
set_option maxRecDepth 100000 in
theorem play_short (a : Option Addr) (len cap : Nat) (many base : Int) (n : Nat) (f : Nat → Int × Int × Int) (hlen : len ≤ 200) (hm0 : 0 ≤ many) (hm1 : many ≤ 255) (hn : (n : Int) = many % 6) (hb0 : 0 ≤ base) (hb1 : base ≤ 255) (w : World) (hacts : Acts w a len f) :
    Calls Try.prog 3 #[.int .u8 many, .int .u8 base, .slice a len cap] w fun e w' => e = .returned (.bool true) ∧ Only (fun _ => False) w w' := by
  have Hn := Lib.hid hn
  have Hacts := Lib.hid hacts
  clear hn hacts
  obtain ⟨i0, hi, hz0i, hz1i, hz2i⟩ := info_parts info26'
  have hl : ¬ (200 : Int) < (len : Int) := by omega
  go_enter Try.func3, Try.ntmps3
  go_wp2_with fail
  simp only [← Hn.out]
  have hn6 : n ≤ 5 := by have := Hn.out; omega
  go_loopw [8, 9] (fun v i wr => ∃ k : Nat, k ≤ n ∧ i = .int .i64 k ∧ wr.ownsRow w.heap.size 26 1 v k (ptsT k) ∧ Only (fun _ => False) w wr)
    (fun _ i _ => n - (intOf i).toNat)
  case atStart => exact ⟨0, Nat.zero_le _, rfl, World.ownsRow_nil _ _ _ _, Only.refl _ _⟩
  case round =>
    obtain ⟨k, hk, rfl, hown, ho⟩ := hrel
    have hsz := ho.size
    by_cases hlt : k < n
    · have hk6 : (k : Int) < 6 := by omega
      have hlt' : (k : Int) < (n : Int) := by omega
      go_wp2_with (first
        | (at_builtin; refine wpList_append_own _ rfl _ _ 24 rfl w.heap.size 26 i0 (.int .u16 0) 1 2 Try.underlying24 hi hz0i hz1i hz2i rfl (by decide) _ _ _ rfl (hown.alloc _) ⟨wr.heap.size, 0, none⟩ 1 1 [.int .u16 (10 + (k : Int))] rfl rfl (cell_one_new _ _ _) (ints_oneCell .u16 [10 + (k : Int)]) (by unfold maxLen; omega) (by omega) (by simp; omega) ?_; intro v' w1 hown' hgrow _)
        | go_in)
      go_roundw
      case rel =>
        refine ⟨k + 1, by omega, by go_num, by rw [ptsT_succ]; exact hown', (ho.alloc _).andThen (Only.of_grownBy hgrow) ?_⟩
        intro i hi h
        have := (hown.lt i h.symm).1
        omega
      case measure => simp [intOf]; omega
    · have hkn : k = n := by omega
      subst hkn
      have hsl : ∃ a' cap', u8 = .slice a' k cap' ∧ (k = 0 ∨ ∃ g, a' = some ⟨g, 0, none⟩) := by
        rcases hown.2 with ⟨h1, h0⟩ | ⟨g, cap, cur, h1, h2, _⟩
        · exact ⟨none, 0, by rw [h1, h0], Or.inl h0⟩
        · exact ⟨_, cap, h1, Or.inr ⟨g, rfl⟩⟩
      obtain ⟨a', cap', hv, hg⟩ := hsl
      subst hv
      have hcs : k = 0 ∨ ∃ bl off, a' = some ⟨bl, off, none⟩ ∧ ∀ i, i < k → wr.cell? ⟨bl, off + i, none⟩ = some (.int .u16 (10 + (i : Nat))) := by
        rcases hg with h0 | ⟨g, rfl⟩
        · exact Or.inl h0
        · refine Or.inr ⟨g, 0, rfl, fun i hi' => ?_⟩
          rw [Nat.zero_add, hown.cellAt i (by omega)]
          simp [ptsT, hi']
      have Hcs := Lib.hid hcs
      clear hown hcs hg
      go_wp2_with fail
      refine (pm_new a' 10 k cap' base (by omega) (by decide) (by omega) Hcs.out hb0 (by omega)).mono ?_
      rintro e w1 ⟨ma, la, rfl, hma, hla, hA, hoA⟩
      have hO2 := ho.trans hoA
      have hst := pm_state' hA 0 rfl
      have hmw : w.heap.size ≤ ma ∧ w.heap.size ≤ la := by omega
      clear ho hoA Hcs
      go_wp2_with (go_at_call 9; refine hst.mono ?_; rintro e w' ⟨rfl, rfl⟩)
      have hO3 := (hO2.alloc (.cells #[.bool true, .bool true, .bool true, .bool true, .bool true, .bool true] 33)).alloc (.cells #[.bool false, .bool false, .bool false, .bool false, .bool false, .bool false] 33)
      have hoN : Only (fun _ => False) w1 ((w1.alloc (.cells #[.bool true, .bool true, .bool true, .bool true, .bool true, .bool true] 33)).alloc (.cells #[.bool false, .bool false, .bool false, .bool false, .bool false, .bool false] 33)) := ((Only.refl _ _).alloc _).alloc _
      have hU : Arr ((w1.alloc (.cells #[.bool true, .bool true, .bool true, .bool true, .bool true, .bool true] 33)).alloc (.cells #[.bool false, .bool false, .bool false, .bool false, .bool false, .bool false] 33)) w1.heap.size (List.replicate 6 true) :=
        ⟨((MapKept.heap_alloc _ _).2 _ (by simp)).trans (MapKept.heap_alloc w1 _).1, rfl⟩
      have hD : Arr ((w1.alloc (.cells #[.bool true, .bool true, .bool true, .bool true, .bool true, .bool true] 33)).alloc (.cells #[.bool false, .bool false, .bool false, .bool false, .bool false, .bool false] 33)) (w1.heap.size + 1) (List.replicate 6 false) := by
        have := (MapKept.heap_alloc (w1.alloc (.cells #[.bool true, .bool true, .bool true, .bool true, .bool true, .bool true] 33)) (.cells #[.bool false, .bool false, .bool false, .bool false, .bool false, .bool false] 33)).1
        rw [World.size_alloc] at this
        exact ⟨this, rfl⟩
      have hltA := hA.lt
      have hA2 := hA.only hoN (by simp) (by simp)
      rw [← psOf_start (by omega)] at hA2
      have hws := hO2.size
      have HU := Lib.hid hU
      have HD := Lib.hid hD
      clear hO2 hoN hU hD hA hst
      generalize ((w1.alloc (.cells #[.bool true, .bool true, .bool true, .bool true, .bool true, .bool true] 33)).alloc (.cells #[.bool false, .bool false, .bool false, .bool false, .bool false, .bool false] 33)) = w2 at *
      generalize w1.heap.size = B at *
      go_loopw [14, 15, 16, 17] (fun v14 v15 v16 i wr => ∃ (q : Nat) (st t si : Int) (us ds : List Bool), q ≤ len ∧ i = .int .i64 q ∧ v14 = .int .u8 st ∧ v15 = .int .i64 t ∧ v16 = .int .i64 si ∧ (0 ≤ t ∧ t ≤ 59 * q ∧ 0 ≤ si ∧ si ≤ 59 * q) ∧
          Pm wr ma la 10 ⟨st, base, si, psOf k us ds⟩ ∧ Hid (Arr wr B us) ∧ Hid (Arr wr (B + 1) ds) ∧ Only (fun _ => False) w wr)
        (fun _ _ _ i _ => len - (intOf i).toNat)
      case atStart => exact ⟨0, 0, 0, 0, _, _, Nat.zero_le _, rfl, rfl, rfl, rfl, ⟨by decide, by decide, by decide, by decide⟩, hA2, HU, HD, hO3⟩
      case round =>
        clear hA2 HU HD hO3
        obtain ⟨q, st, t, si, us, ds, hq, rfl, rfl, rfl, rfl, ⟨ht0, ht1, hs0, hs1⟩, hA, HU, HD, hO⟩ := hrel
        by_cases hlt : q < len
        · obtain ⟨bl, off, ha, hact⟩ := Hacts.out.resolve_left (by omega)
          subst ha
          obtain ⟨⟨a0, a1, a2⟩, ⟨b0, b0'⟩, ⟨b1, b1'⟩, ⟨b2, b2'⟩⟩ := hact q hlt
          clear hact
          have a0 := hO.cell a0 (by simp)
          have a1 := hO.cell a1 (by simp)
          have a2 := hO.cell a2 (by simp)
          have hlt' : (q : Int) < (len : Int) := by omega
          generalize (f q).1 = what at *
          generalize (f q).2.1 = who at *
          generalize (f q).2.2 = wait at *
          have hwb : 0 ≤ wait % 60 ∧ wait % 60 ≤ 59 := by omega
          --ROUND
          have hws' : 0 ≤ 59 * (q : Int) := by omega
          have hj0 : 0 ≤ who % 7 := by omega
          obtain ⟨j, hj⟩ : ∃ j : Nat, (j : Int) = who % 7 := ⟨(who % 7).toNat, by omega⟩
          have Hj := Lib.hid hj
          have hj6 : (j : Int) ≤ 6 := by omega
          have hT0 : 0 ≤ t + wait % 60 := by omega
          have hT1 : t + wait % 60 ≤ 59 * ((q + 1 : Nat) : Int) := by omega
          have hT2 : t + wait % 60 ≤ 20000 := by omega
          have hS1 : si ≤ 59 * ((q + 1 : Nat) : Int) := by omega
          have h4 : what % 4 = 0 ∨ what % 4 = 1 ∨ what % 4 = 2 ∨ what % 4 = 3 := by omega
          rcases h4 with h4 | h4 | h4 | h4
          · as_aux_lemma =>
              have hw0 : (what % 4 == 0) = true := by rw [h4]; rfl
              clear h4
              by_cases hjk : j < k
              · by_cases hs1' : st = 1
                · subst hs1'
                  have hjk' : who % 7 < (k : Int) := by omega
                  have hjk2 : (j : Int) < (k : Int) := by omega
                  have hj6' : (j : Int) < 6 := by omega
                  have hcall := pm_up' hA (t + wait % 60) (by omega) (by omega) (10 + (j : Int)) j rfl (by decide) (by omega) 0 (by rw [play_err, if_pos hjk]) ⟨2, base, t + wait % 60, psOf k (us.set j true) ds⟩ (by rw [play_up hjk HU.out.2 HD.out.2 (by omega)]; simp)
                  clear hA hj
                  go_wp2_with fail
                  simp only [← Hj.out]
                  refine hcall.mono ?_
                  rintro e w4 ⟨rfl, hA4, ho4⟩
                  have hO4 := hO.andThen ho4 (fun i hi h => by omega)
                  have hU4 := HU.out.only ho4 (by omega)
                  have hD4 := HD.out.only ho4 (by omega)
                  have hcu := hU4.cell j (by omega)
                  have hfu := hU4.free j
                  have hoS := (Only.refl (fun i => i = B) w4).setCell ⟨B, j, none⟩ (.bool true) (fun _ => rfl)
                  have hA5 := hA4.only hoS (by omega) (by omega)
                  have hU5 := Lib.hid (hU4.set j true)
                  have hD5 := Lib.hid (hD4.only hoS (by omega))
                  have hO5 := hO4.andThen hoS (fun i hi h => by omega)
                  have hst4 := pm_state' hA5 2 rfl
                  clear hcall hO hoS hA4 hU4 hD4 hO4
                  go_wp2_with (go_at_call 9; refine hst4.mono ?_; rintro e w' ⟨rfl, rfl⟩)
                  go_roundw
                  case rel => exact ⟨q + 1, 2, t + wait % 60, t + wait % 60, _, _, by omega, by go_num, rfl, rfl, rfl, ⟨hT0, hT1, by omega, by omega⟩, hA5, hU5, hD5, hO5⟩
                  case measure => simp [intOf]; omega
                · have hsb : (st == 1) = false := by simpa using hs1'
                  have hjk' : who % 7 < (k : Int) := by omega
                  have hjk2 : (j : Int) < (k : Int) := by omega
                  have hj6' : (j : Int) < 6 := by omega
                  have hcall := pm_up' hA (t + wait % 60) (by omega) (by omega) (10 + (j : Int)) j rfl (by decide) (by omega) 0 (by rw [play_err, if_pos hjk]) ⟨st, base, si, psOf k (us.set j true) ds⟩ (by rw [play_up hjk HU.out.2 HD.out.2 (by omega)]; simp [hs1'])
                  clear hA hj
                  go_wp2_with fail
                  simp only [← Hj.out]
                  refine hcall.mono ?_
                  rintro e w4 ⟨rfl, hA4, ho4⟩
                  have hO4 := hO.andThen ho4 (fun i hi h => by omega)
                  have hU4 := HU.out.only ho4 (by omega)
                  have hD4 := HD.out.only ho4 (by omega)
                  have hcu := hU4.cell j (by omega)
                  have hfu := hU4.free j
                  have hoS := (Only.refl (fun i => i = B) w4).setCell ⟨B, j, none⟩ (.bool true) (fun _ => rfl)
                  have hA5 := hA4.only hoS (by omega) (by omega)
                  have hU5 := Lib.hid (hU4.set j true)
                  have hD5 := Lib.hid (hD4.only hoS (by omega))
                  have hO5 := hO4.andThen hoS (fun i hi h => by omega)
                  have hst4 := pm_state' hA5 st rfl
                  clear hcall hO hoS hA4 hU4 hD4 hO4
                  go_wp2_with (go_at_call 9; refine hst4.mono ?_; rintro e w' ⟨rfl, rfl⟩)
                  go_roundw
                  case rel => exact ⟨q + 1, st, t + wait % 60, si, _, _, by omega, by go_num, rfl, rfl, rfl, ⟨hT0, hT1, by omega, by omega⟩, hA5, hU5, hD5, hO5⟩
                  case measure => simp [intOf]; omega
              · have hjk' : (k : Int) ≤ who % 7 := by omega
                have hjk2 : (k : Int) ≤ (j : Int) := by omega
                have hcall := pm_up' hA (t + wait % 60) (by omega) (by omega) (10 + (j : Int)) j rfl (by decide) (by omega) 7 (by rw [play_err, if_neg hjk]) _ (play_up_no hjk)
                clear hA hj
                go_wp2_with fail
                simp only [← Hj.out]
                refine hcall.mono ?_
                rintro e w4 ⟨rfl, hA4, ho4⟩
                have hO4 := hO.andThen ho4 (fun i hi h => by omega)
                have hU5 := Lib.hid (HU.out.only ho4 (by omega))
                have hD5 := Lib.hid (HD.out.only ho4 (by omega))
                have hst4 := pm_state' hA4 st rfl
                clear hcall hO
                go_wp2_with (go_at_call 9; refine hst4.mono ?_; rintro e w' ⟨rfl, rfl⟩)
                go_roundw
                case rel => exact ⟨q + 1, st, t + wait % 60, si, us, ds, by omega, by go_num, rfl, rfl, rfl, ⟨hT0, hT1, by omega, by omega⟩, hA4, hU5, hD5, hO4⟩
                case measure => simp [intOf]; omega
          · as_aux_lemma =>
              have hw0 : (what % 4 == 0) = false := by rw [h4]; rfl
              have hw1 : (what % 4 == 1) = true := by rw [h4]; rfl
              clear h4
              by_cases hjk : j < k
              · have hjk' : who % 7 < (k : Int) := by omega
                have hjk2 : (j : Int) < (k : Int) := by omega
                have hj6' : (j : Int) < 6 := by omega
                have hcall := pm_down' hA (10 + (j : Int)) j rfl (by decide) (by omega) 0 (by rw [play_err, if_pos hjk]) _ (play_down hjk HU.out.2 HD.out.2 (by omega))
                clear hA hj
                go_wp2_with fail
                simp only [← Hj.out]
                refine hcall.mono ?_
                rintro e w4 ⟨rfl, hA4, ho4⟩
                have hO4 := hO.andThen ho4 (fun i hi h => by omega)
                have hU4 := HU.out.only ho4 (by omega)
                have hD4 := HD.out.only ho4 (by omega)
                have hcu := hU4.cell j (by omega)
                have hfu := hU4.free j
                have hoS := (Only.refl (fun i => i = B) w4).setCell ⟨B, j, none⟩ (.bool false) (fun _ => rfl)
                have hA5 := hA4.only hoS (by omega) (by omega)
                have hU5 := hU4.set j false
                have hD5 := hD4.only hoS (by omega)
                have hO5 := hO4.andThen hoS (fun i hi h => by omega)
                have hcd := hD4.cell j (by omega)
                have hfd := hD4.free j
                have hoT := (Only.refl (fun i => i = B + 1) (w4.setCell ⟨B, j, none⟩ (.bool false))).setCell ⟨B + 1, j, none⟩ (.bool false) (fun _ => rfl)
                have hA6 := hA5.only hoT (by omega) (by omega)
                have hU6 := hU5.only hoT (by omega)
                have hD6 := hD5.set j false
                have hO6 := hO5.andThen hoT (fun i hi h => by omega)
                have hlB : B + 1 < w4.heap.size := hD4.lt
                clear hcall hO hoS hoT hA4 hU4 hD4 hO4 hA5 hU5 hD5 hO5
                go_wp2_with fail
                clear hcu hfu hcd hfd
                generalize ((w4.setCell ⟨B, j, none⟩ (.bool false)).setCell ⟨B + 1, j, none⟩ (.bool false)) = w6 at *
                have HU6 := Lib.hid hU6
                have HD6 := Lib.hid hD6
                clear hU6 hD6
                generalize us.set j false = us' at *
                go_loop [22, 23] (fun v i => ∃ m : Nat, m ≤ k ∧ i = .int .i64 m ∧ v = .bool ((List.range m).any fun i => us'[i]?.getD false)) (fun _ i => k - (intOf i).toNat)
                case atStart => exact ⟨0, Nat.zero_le _, rfl, rfl⟩
                case round =>
                  obtain ⟨m, hm, rfl, rfl⟩ := hrel
                  by_cases hmk : m < k
                  · have hmk' : (m : Int) < (k : Int) := by omega
                    have hm6 : (m : Int) < 6 := by omega
                    have hcm := HU6.out.cell m (by omega)
                    have Hs := Lib.hid (rany_succ (fun i => us'[i]?.getD false) m)
                    try simp only at Hs
                    generalize us'[m]?.getD false = y at *
                    generalize hx : ((List.range m).any fun i => us'[i]?.getD false) = x at *
                    clear hx
                    cases x
                    all_goals
                      go_wp2_with fail
                      go_round
                      case rel => exact ⟨m + 1, by omega, by go_num, by rw [Hs.out]; simp⟩
                      case measure => simp [intOf]; omega
                  · have hmk' : m = k := by omega
                    subst hmk'
                    have Hx := Lib.hid hA6
                    clear hA6
                    generalize hx : ((List.range m).any fun i => us'[i]?.getD false) = x at *
                    clear hx
                    cases x
                    · have hA7 : Pm w6 ma la 10 ⟨1, base, si, psOf m us' (ds.set j false)⟩ := Hx.out
                      have hst4 := pm_state' hA7 1 rfl
                      go_wp2_with (go_at_call 9; refine hst4.mono ?_; rintro e w' ⟨rfl, rfl⟩)
                      go_roundw
                      case rel => exact ⟨q + 1, 1, t + wait % 60, si, _, _, by omega, by go_num, rfl, rfl, rfl, ⟨hT0, hT1, by omega, by omega⟩, hA7, HU6, HD6, hO6⟩
                      case measure => simp [intOf]; omega
                    · have hA7 : Pm w6 ma la 10 ⟨st, base, si, psOf m us' (ds.set j false)⟩ := Hx.out
                      have hst4 := pm_state' hA7 st rfl
                      go_wp2_with (go_at_call 9; refine hst4.mono ?_; rintro e w' ⟨rfl, rfl⟩)
                      go_roundw
                      case rel => exact ⟨q + 1, st, t + wait % 60, si, _, _, by omega, by go_num, rfl, rfl, rfl, ⟨hT0, hT1, by omega, by omega⟩, hA7, HU6, HD6, hO6⟩
                      case measure => simp [intOf]; omega
              · have hjk' : (k : Int) ≤ who % 7 := by omega
                have hjk2 : (k : Int) ≤ (j : Int) := by omega
                have hcall := pm_down' hA (10 + (j : Int)) j rfl (by decide) (by omega) 7 (by rw [play_err, if_neg hjk]) _ (play_down_no hjk)
                clear hA hj
                go_wp2_with fail
                simp only [← Hj.out]
                refine hcall.mono ?_
                rintro e w4 ⟨rfl, hA4, ho4⟩
                have hO4 := hO.andThen ho4 (fun i hi h => by omega)
                have hU5 := Lib.hid (HU.out.only ho4 (by omega))
                have hD5 := Lib.hid (HD.out.only ho4 (by omega))
                have hst4 := pm_state' hA4 st rfl
                clear hcall hO
                go_wp2_with (go_at_call 9; refine hst4.mono ?_; rintro e w' ⟨rfl, rfl⟩)
                go_roundw
                case rel => exact ⟨q + 1, st, t + wait % 60, si, us, ds, by omega, by go_num, rfl, rfl, rfl, ⟨hT0, hT1, by omega, by omega⟩, hA4, hU5, hD5, hO4⟩
                case measure => simp [intOf]; omega
          · as_aux_lemma =>
              have hw0 : (what % 4 == 0) = false := by rw [h4]; rfl
              have hw1 : (what % 4 == 1) = false := by rw [h4]; rfl
              have hw2 : (what % 4 == 2) = true := by rw [h4]; rfl
              clear h4
              by_cases hjk : j < k
              · cases hu : us[j]?.getD false
                · have hjk' : who % 7 < (k : Int) := by omega
                  have hjk2 : (j : Int) < (k : Int) := by omega
                  have hj6' : (j : Int) < 6 := by omega
                  have hcall := pm_done' hA (10 + (j : Int)) j rfl (by decide) (by omega) 0 (by rw [play_err, if_pos hjk]) _ (play_done_no (fun h => by rw [hu] at h; cases h.2.1))
                  clear hA hj
                  go_wp2_with fail
                  simp only [← Hj.out]
                  refine hcall.mono ?_
                  rintro e w4 ⟨rfl, hA4, ho4⟩
                  have hO4 := hO.andThen ho4 (fun i hi h => by omega)
                  have hU4 := HU.out.only ho4 (by omega)
                  have hD4 := HD.out.only ho4 (by omega)
                  have hcu := hU4.cell j (by omega)
                  rw [hu] at hcu
                  have hcd := hD4.cell j (by omega)
                  have hfd := hD4.free j
                  have hst4 := pm_state' hA4 st rfl
                  have hU5 := Lib.hid hU4
                  have hD5 := Lib.hid hD4
                  clear hcall hO hU4 hD4 hu
                  go_wp2_with (go_at_call 9; refine hst4.mono ?_; rintro e w' ⟨rfl, rfl⟩)
                  go_roundw
                  case rel => exact ⟨q + 1, st, t + wait % 60, si, _, _, by omega, by go_num, rfl, rfl, rfl, ⟨hT0, hT1, by omega, by omega⟩, hA4, hU5, hD5, hO4⟩
                  case measure => simp [intOf]; omega
                · by_cases hs2 : st = 2
                  · subst hs2
                    have hjk' : who % 7 < (k : Int) := by omega
                    have hjk2 : (j : Int) < (k : Int) := by omega
                    have hj6' : (j : Int) < 6 := by omega
                    have hcall := pm_done' hA (10 + (j : Int)) j rfl (by decide) (by omega) 0 (by rw [play_err, if_pos hjk]) _ (play_done hjk HU.out.2 HD.out.2 (by omega) hu)
                    clear hA hj
                    go_wp2_with fail
                    simp only [← Hj.out]
                    refine hcall.mono ?_
                    rintro e w4 ⟨rfl, hA4, ho4⟩
                    have hO4 := hO.andThen ho4 (fun i hi h => by omega)
                    have hU4 := HU.out.only ho4 (by omega)
                    have hD4 := HD.out.only ho4 (by omega)
                    have hcu := hU4.cell j (by omega)
                    rw [hu] at hcu
                    have hcd := hD4.cell j (by omega)
                    have hfd := hD4.free j
                    have hoS := (Only.refl (fun i => i = B + 1) w4).setCell ⟨B + 1, j, none⟩ (.bool true) (fun _ => rfl)
                    have hA5 := hA4.only hoS (by omega) (by omega)
                    have hU5 := Lib.hid (hU4.only hoS (by omega))
                    have hD5 := Lib.hid (hD4.set j true)
                    have hO5 := hO4.andThen hoS (fun i hi h => by omega)
                    have hst4 := pm_state' hA5 2 rfl
                    clear hcall hO hoS hA4 hU4 hD4 hO4 hu
                    go_wp2_with (go_at_call 9; refine hst4.mono ?_; rintro e w' ⟨rfl, rfl⟩)
                    go_roundw
                    case rel => exact ⟨q + 1, 2, t + wait % 60, si, _, _, by omega, by go_num, rfl, rfl, rfl, ⟨hT0, hT1, by omega, by omega⟩, hA5, hU5, hD5, hO5⟩
                    case measure => simp [intOf]; omega
                  · have hsb : (st == 2) = false := by simpa using hs2
                    have hjk' : who % 7 < (k : Int) := by omega
                    have hjk2 : (j : Int) < (k : Int) := by omega
                    have hj6' : (j : Int) < 6 := by omega
                    have hcall := pm_done' hA (10 + (j : Int)) j rfl (by decide) (by omega) 0 (by rw [play_err, if_pos hjk]) _ (play_done_no (fun h => hs2 h.2.2))
                    clear hA hj
                    go_wp2_with fail
                    simp only [← Hj.out]
                    refine hcall.mono ?_
                    rintro e w4 ⟨rfl, hA4, ho4⟩
                    have hO4 := hO.andThen ho4 (fun i hi h => by omega)
                    have hU4 := HU.out.only ho4 (by omega)
                    have hD4 := HD.out.only ho4 (by omega)
                    have hcu := hU4.cell j (by omega)
                    rw [hu] at hcu
                    have hcd := hD4.cell j (by omega)
                    have hfd := hD4.free j
                    have hst4 := pm_state' hA4 st rfl
                    have hU5 := Lib.hid hU4
                    have hD5 := Lib.hid hD4
                    clear hcall hO hU4 hD4 hu
                    go_wp2_with (go_at_call 9; refine hst4.mono ?_; rintro e w' ⟨rfl, rfl⟩)
                    go_roundw
                    case rel => exact ⟨q + 1, st, t + wait % 60, si, _, _, by omega, by go_num, rfl, rfl, rfl, ⟨hT0, hT1, by omega, by omega⟩, hA4, hU5, hD5, hO4⟩
                    case measure => simp [intOf]; omega
              · have hjk' : (k : Int) ≤ who % 7 := by omega
                have hjk2 : (k : Int) ≤ (j : Int) := by omega
                have hcall := pm_done' hA (10 + (j : Int)) j rfl (by decide) (by omega) 7 (by rw [play_err, if_neg hjk]) _ (play_done_no (fun h => hjk h.1))
                clear hA hj
                go_wp2_with fail
                simp only [← Hj.out]
                refine hcall.mono ?_
                rintro e w4 ⟨rfl, hA4, ho4⟩
                have hO4 := hO.andThen ho4 (fun i hi h => by omega)
                have hU5 := Lib.hid (HU.out.only ho4 (by omega))
                have hD5 := Lib.hid (HD.out.only ho4 (by omega))
                have hst4 := pm_state' hA4 st rfl
                clear hcall hO
                go_wp2_with (go_at_call 9; refine hst4.mono ?_; rintro e w' ⟨rfl, rfl⟩)
                go_roundw
                case rel => exact ⟨q + 1, st, t + wait % 60, si, us, ds, by omega, by go_num, rfl, rfl, rfl, ⟨hT0, hT1, by omega, by omega⟩, hA4, hU5, hD5, hO4⟩
                case measure => simp [intOf]; omega
          · as_aux_lemma =>
              have hw0 : (what % 4 == 0) = false := by rw [h4]; rfl
              have hw1 : (what % 4 == 1) = false := by rw [h4]; rfl
              have hw2 : (what % 4 == 2) = false := by rw [h4]; rfl
              clear h4
              have Hdue := Lib.hid (due_small' hb0 hb1 hs0 (by omega : si ≤ 20000))
              by_cases hjk : who % 7 < (k : Int)
              · as_aux_lemma =>
                  go_wp2_with fail
                  go_loop [24, 25] (fun v i => ∃ m : Nat, m ≤ k ∧ i = .int .i64 m ∧ v = .bool ((List.range m).all fun i => !(us[i]?.getD false) || ds[i]?.getD false)) (fun _ i => k - (intOf i).toNat)
                  case atStart => exact ⟨0, Nat.zero_le _, rfl, rfl⟩
                  case round =>
                    obtain ⟨m, hm, rfl, rfl⟩ := hrel
                    by_cases hmk : m < k
                    · have hmk' : (m : Int) < (k : Int) := by omega
                      have hm6 : (m : Int) < 6 := by omega
                      have hcu := HU.out.cell m (by omega)
                      have hcd := HD.out.cell m (by omega)
                      have Hs := Lib.hid (rall_succ (fun i => !(us[i]?.getD false) || ds[i]?.getD false) m)
                      try simp only at Hs
                      generalize us[m]?.getD false = y at *
                      generalize ds[m]?.getD false = z at *
                      generalize hx : ((List.range m).all fun i => !(us[i]?.getD false) || ds[i]?.getD false) = x at *
                      clear hx
                      cases x <;> cases y
                      all_goals
                        go_wp2_with fail
                        go_round
                        case rel => exact ⟨m + 1, by omega, by go_num, by rw [Hs.out]; simp⟩
                        case measure => simp [intOf]; omega
                    · have hmk' : m = k := by omega
                      subst hmk'
                      obtain ⟨x, hall⟩ : ∃ x, ((List.range m).all fun i => !(us[i]?.getD false) || ds[i]?.getD false) = x := ⟨_, rfl⟩
                      rw [hall]
                      by_cases hs2 : st = 2
                      · subst hs2
                        cases x
                        · by_cases hnow : si + base ≤ t + wait % 60
                          · have htk := pm_tick' hA (t + wait % 60) true (by rw [play_ends, Hdue.out]; rw [hall]; simp; omega) _ (play_tick (by rw [play_ends, Hdue.out]; rw [hall]; simp; omega) (by omega))
                            clear hA
                            clear hall
                            go_wp2_with fail
                            refine htk.mono ?_
                            rintro e w4 ⟨rfl, hA4, ho4⟩
                            have hO4 := hO.andThen ho4 (fun i hi h => by omega)
                            have hU4 := HU.out.only ho4 (by omega)
                            have hD4 := HD.out.only ho4 (by omega)
                            clear htk hO
                            obtain ⟨z0, z1, z2, z3, z4, z5⟩ : _ ∧ _ ∧ _ ∧ _ ∧ _ ∧ _ := ⟨hD4.cell 0 (by decide), hD4.cell 1 (by decide), hD4.cell 2 (by decide), hD4.cell 3 (by decide), hD4.cell 4 (by decide), hD4.cell 5 (by decide)⟩
                            obtain ⟨y0, y1, y2, y3, y4, y5⟩ : _ ∧ _ ∧ _ ∧ _ ∧ _ ∧ _ := ⟨hD4.free 0, hD4.free 1, hD4.free 2, hD4.free 3, hD4.free 4, hD4.free 5⟩
                            go_wp2_with fail
                            have hoS := ((((((Only.refl (fun i => i = B + 1) w4).setCell ⟨B + 1, 0, none⟩ (.bool false) (fun _ => rfl)).setCell ⟨B + 1, 1, none⟩ (.bool false) (fun _ => rfl)).setCell ⟨B + 1, 2, none⟩ (.bool false) (fun _ => rfl)).setCell ⟨B + 1, 3, none⟩ (.bool false) (fun _ => rfl)).setCell ⟨B + 1, 4, none⟩ (.bool false) (fun _ => rfl)).setCell ⟨B + 1, 5, none⟩ (.bool false) (fun _ => rfl)
                            have hD5 := Lib.hid ((set6 ds hD4.2) ▸ (((((hD4.set 0 false).set 1 false).set 2 false).set 3 false).set 4 false).set 5 false)
                            have hU5 := Lib.hid (hU4.only hoS (by omega))
                            have hA5 := hA4.only hoS (by omega) (by omega)
                            have hO5 := hO4.andThen hoS (fun i hi h => by omega)
                            have hst4 := pm_state' hA5 0 rfl
                            clear hoS hA4 hU4 hD4 hO4 z0 z1 z2 z3 z4 z5 y0 y1 y2 y3 y4 y5
                            refine hst4.mono ?_
                            rintro e w' ⟨rfl, rfl⟩
                            go_wp2_with fail
                            go_roundw
                            case rel => exact ⟨q + 1, 0, t + wait % 60, si, _, _, by omega, by go_num, rfl, rfl, rfl, ⟨hT0, hT1, by omega, by omega⟩, hA5, hU5, hD5, hO5⟩
                            case measure => simp [intOf]; omega

                          · have htk := pm_tick' hA (t + wait % 60) false (by rw [play_ends, Hdue.out]; rw [hall]; simp; omega) _ (play_tick_no (by rw [play_ends, Hdue.out]; rw [hall]; simp; omega))
                            clear hA
                            clear hall
                            go_wp2_with fail
                            refine htk.mono ?_
                            rintro e w4 ⟨rfl, hA4, ho4⟩
                            have hO4 := hO.andThen ho4 (fun i hi h => by omega)
                            have hU4 := HU.out.only ho4 (by omega)
                            have hD4 := HD.out.only ho4 (by omega)
                            clear htk hO
                            have hst4 := pm_state' hA4 2 rfl
                            have hU5 := Lib.hid hU4
                            have hD5 := Lib.hid hD4
                            clear hU4 hD4
                            go_wp2_with (go_at_call 9; refine hst4.mono ?_; rintro e w' ⟨rfl, rfl⟩)
                            go_roundw
                            case rel => exact ⟨q + 1, 2, t + wait % 60, si, _, _, by omega, by go_num, rfl, rfl, rfl, ⟨hT0, hT1, by omega, by omega⟩, hA4, hU5, hD5, hO4⟩
                            case measure => simp [intOf]; omega
                        · have htk := pm_tick' hA (t + wait % 60) true (by rw [play_ends, Hdue.out]; rw [hall]; rfl) _ (play_tick (by rw [play_ends, Hdue.out]; rw [hall]; rfl) (by omega))
                          clear hA
                          clear hall
                          go_wp2_with fail
                          refine htk.mono ?_
                          rintro e w4 ⟨rfl, hA4, ho4⟩
                          have hO4 := hO.andThen ho4 (fun i hi h => by omega)
                          have hU4 := HU.out.only ho4 (by omega)
                          have hD4 := HD.out.only ho4 (by omega)
                          clear htk hO
                          obtain ⟨z0, z1, z2, z3, z4, z5⟩ : _ ∧ _ ∧ _ ∧ _ ∧ _ ∧ _ := ⟨hD4.cell 0 (by decide), hD4.cell 1 (by decide), hD4.cell 2 (by decide), hD4.cell 3 (by decide), hD4.cell 4 (by decide), hD4.cell 5 (by decide)⟩
                          obtain ⟨y0, y1, y2, y3, y4, y5⟩ : _ ∧ _ ∧ _ ∧ _ ∧ _ ∧ _ := ⟨hD4.free 0, hD4.free 1, hD4.free 2, hD4.free 3, hD4.free 4, hD4.free 5⟩
                          go_wp2_with fail
                          have hoS := ((((((Only.refl (fun i => i = B + 1) w4).setCell ⟨B + 1, 0, none⟩ (.bool false) (fun _ => rfl)).setCell ⟨B + 1, 1, none⟩ (.bool false) (fun _ => rfl)).setCell ⟨B + 1, 2, none⟩ (.bool false) (fun _ => rfl)).setCell ⟨B + 1, 3, none⟩ (.bool false) (fun _ => rfl)).setCell ⟨B + 1, 4, none⟩ (.bool false) (fun _ => rfl)).setCell ⟨B + 1, 5, none⟩ (.bool false) (fun _ => rfl)
                          have hD5 := Lib.hid ((set6 ds hD4.2) ▸ (((((hD4.set 0 false).set 1 false).set 2 false).set 3 false).set 4 false).set 5 false)
                          have hU5 := Lib.hid (hU4.only hoS (by omega))
                          have hA5 := hA4.only hoS (by omega) (by omega)
                          have hO5 := hO4.andThen hoS (fun i hi h => by omega)
                          have hst4 := pm_state' hA5 0 rfl
                          clear hoS hA4 hU4 hD4 hO4 z0 z1 z2 z3 z4 z5 y0 y1 y2 y3 y4 y5
                          refine hst4.mono ?_
                          rintro e w' ⟨rfl, rfl⟩
                          go_wp2_with fail
                          go_roundw
                          case rel => exact ⟨q + 1, 0, t + wait % 60, si, _, _, by omega, by go_num, rfl, rfl, rfl, ⟨hT0, hT1, by omega, by omega⟩, hA5, hU5, hD5, hO5⟩
                          case measure => simp [intOf]; omega

                      · have hsb : (st == 2) = false := by simpa using hs2
                        have htk := pm_tick' hA (t + wait % 60) false (by rw [play_ends, Hdue.out]; simp [hs2]) _ (play_tick_no (by rw [play_ends, Hdue.out]; simp [hs2]))
                        clear hA
                        clear hall
                        go_wp2_with fail
                        refine htk.mono ?_
                        rintro e w4 ⟨rfl, hA4, ho4⟩
                        have hO4 := hO.andThen ho4 (fun i hi h => by omega)
                        have hU4 := HU.out.only ho4 (by omega)
                        have hD4 := HD.out.only ho4 (by omega)
                        clear htk hO
                        have hst4 := pm_state' hA4 st rfl
                        have hU5 := Lib.hid hU4
                        have hD5 := Lib.hid hD4
                        clear hU4 hD4
                        go_wp2_with (go_at_call 9; refine hst4.mono ?_; rintro e w' ⟨rfl, rfl⟩)
                        go_roundw
                        case rel => exact ⟨q + 1, st, t + wait % 60, si, _, _, by omega, by go_num, rfl, rfl, rfl, ⟨hT0, hT1, by omega, by omega⟩, hA4, hU5, hD5, hO4⟩
                        case measure => simp [intOf]; omega
              · as_aux_lemma =>
                  go_wp2_with fail
                  go_loop [24, 25] (fun v i => ∃ m : Nat, m ≤ k ∧ i = .int .i64 m ∧ v = .bool ((List.range m).all fun i => !(us[i]?.getD false) || ds[i]?.getD false)) (fun _ i => k - (intOf i).toNat)
                  case atStart => exact ⟨0, Nat.zero_le _, rfl, rfl⟩
                  case round =>
                    obtain ⟨m, hm, rfl, rfl⟩ := hrel
                    by_cases hmk : m < k
                    · have hmk' : (m : Int) < (k : Int) := by omega
                      have hm6 : (m : Int) < 6 := by omega
                      have hcu := HU.out.cell m (by omega)
                      have hcd := HD.out.cell m (by omega)
                      have Hs := Lib.hid (rall_succ (fun i => !(us[i]?.getD false) || ds[i]?.getD false) m)
                      try simp only at Hs
                      generalize us[m]?.getD false = y at *
                      generalize ds[m]?.getD false = z at *
                      generalize hx : ((List.range m).all fun i => !(us[i]?.getD false) || ds[i]?.getD false) = x at *
                      clear hx
                      cases x <;> cases y
                      all_goals
                        go_wp2_with fail
                        go_round
                        case rel => exact ⟨m + 1, by omega, by go_num, by rw [Hs.out]; simp⟩
                        case measure => simp [intOf]; omega
                    · have hmk' : m = k := by omega
                      subst hmk'
                      obtain ⟨x, hall⟩ : ∃ x, ((List.range m).all fun i => !(us[i]?.getD false) || ds[i]?.getD false) = x := ⟨_, rfl⟩
                      rw [hall]
                      by_cases hs2 : st = 2
                      · subst hs2
                        cases x
                        · by_cases hnow : si + base ≤ t + wait % 60
                          · have htk := pm_tick' hA (t + wait % 60) true (by rw [play_ends, Hdue.out]; rw [hall]; simp; omega) _ (play_tick (by rw [play_ends, Hdue.out]; rw [hall]; simp; omega) (by omega))
                            clear hA
                            clear hall
                            go_wp2_with fail
                            refine htk.mono ?_
                            rintro e w4 ⟨rfl, hA4, ho4⟩
                            have hO4 := hO.andThen ho4 (fun i hi h => by omega)
                            have hU4 := HU.out.only ho4 (by omega)
                            have hD4 := HD.out.only ho4 (by omega)
                            clear htk hO
                            obtain ⟨z0, z1, z2, z3, z4, z5⟩ : _ ∧ _ ∧ _ ∧ _ ∧ _ ∧ _ := ⟨hD4.cell 0 (by decide), hD4.cell 1 (by decide), hD4.cell 2 (by decide), hD4.cell 3 (by decide), hD4.cell 4 (by decide), hD4.cell 5 (by decide)⟩
                            obtain ⟨y0, y1, y2, y3, y4, y5⟩ : _ ∧ _ ∧ _ ∧ _ ∧ _ ∧ _ := ⟨hD4.free 0, hD4.free 1, hD4.free 2, hD4.free 3, hD4.free 4, hD4.free 5⟩
                            go_wp2_with fail
                            have hoS := ((((((Only.refl (fun i => i = B + 1) w4).setCell ⟨B + 1, 0, none⟩ (.bool false) (fun _ => rfl)).setCell ⟨B + 1, 1, none⟩ (.bool false) (fun _ => rfl)).setCell ⟨B + 1, 2, none⟩ (.bool false) (fun _ => rfl)).setCell ⟨B + 1, 3, none⟩ (.bool false) (fun _ => rfl)).setCell ⟨B + 1, 4, none⟩ (.bool false) (fun _ => rfl)).setCell ⟨B + 1, 5, none⟩ (.bool false) (fun _ => rfl)
                            have hD5 := Lib.hid ((set6 ds hD4.2) ▸ (((((hD4.set 0 false).set 1 false).set 2 false).set 3 false).set 4 false).set 5 false)
                            have hU5 := Lib.hid (hU4.only hoS (by omega))
                            have hA5 := hA4.only hoS (by omega) (by omega)
                            have hO5 := hO4.andThen hoS (fun i hi h => by omega)
                            have hst4 := pm_state' hA5 0 rfl
                            clear hoS hA4 hU4 hD4 hO4 z0 z1 z2 z3 z4 z5 y0 y1 y2 y3 y4 y5
                            refine hst4.mono ?_
                            rintro e w' ⟨rfl, rfl⟩
                            go_wp2_with fail
                            go_roundw
                            case rel => exact ⟨q + 1, 0, t + wait % 60, si, _, _, by omega, by go_num, rfl, rfl, rfl, ⟨hT0, hT1, by omega, by omega⟩, hA5, hU5, hD5, hO5⟩
                            case measure => simp [intOf]; omega

                          · have htk := pm_tick' hA (t + wait % 60) false (by rw [play_ends, Hdue.out]; rw [hall]; simp; omega) _ (play_tick_no (by rw [play_ends, Hdue.out]; rw [hall]; simp; omega))
                            clear hA
                            clear hall
                            go_wp2_with fail
                            refine htk.mono ?_
                            rintro e w4 ⟨rfl, hA4, ho4⟩
                            have hO4 := hO.andThen ho4 (fun i hi h => by omega)
                            have hU4 := HU.out.only ho4 (by omega)
                            have hD4 := HD.out.only ho4 (by omega)
                            clear htk hO
                            have hst4 := pm_state' hA4 2 rfl
                            have hU5 := Lib.hid hU4
                            have hD5 := Lib.hid hD4
                            clear hU4 hD4
                            go_wp2_with (go_at_call 9; refine hst4.mono ?_; rintro e w' ⟨rfl, rfl⟩)
                            go_roundw
                            case rel => exact ⟨q + 1, 2, t + wait % 60, si, _, _, by omega, by go_num, rfl, rfl, rfl, ⟨hT0, hT1, by omega, by omega⟩, hA4, hU5, hD5, hO4⟩
                            case measure => simp [intOf]; omega
                        · have htk := pm_tick' hA (t + wait % 60) true (by rw [play_ends, Hdue.out]; rw [hall]; rfl) _ (play_tick (by rw [play_ends, Hdue.out]; rw [hall]; rfl) (by omega))
                          clear hA
                          clear hall
                          go_wp2_with fail
                          refine htk.mono ?_
                          rintro e w4 ⟨rfl, hA4, ho4⟩
                          have hO4 := hO.andThen ho4 (fun i hi h => by omega)
                          have hU4 := HU.out.only ho4 (by omega)
                          have hD4 := HD.out.only ho4 (by omega)
                          clear htk hO
                          obtain ⟨z0, z1, z2, z3, z4, z5⟩ : _ ∧ _ ∧ _ ∧ _ ∧ _ ∧ _ := ⟨hD4.cell 0 (by decide), hD4.cell 1 (by decide), hD4.cell 2 (by decide), hD4.cell 3 (by decide), hD4.cell 4 (by decide), hD4.cell 5 (by decide)⟩
                          obtain ⟨y0, y1, y2, y3, y4, y5⟩ : _ ∧ _ ∧ _ ∧ _ ∧ _ ∧ _ := ⟨hD4.free 0, hD4.free 1, hD4.free 2, hD4.free 3, hD4.free 4, hD4.free 5⟩
                          go_wp2_with fail
                          have hoS := ((((((Only.refl (fun i => i = B + 1) w4).setCell ⟨B + 1, 0, none⟩ (.bool false) (fun _ => rfl)).setCell ⟨B + 1, 1, none⟩ (.bool false) (fun _ => rfl)).setCell ⟨B + 1, 2, none⟩ (.bool false) (fun _ => rfl)).setCell ⟨B + 1, 3, none⟩ (.bool false) (fun _ => rfl)).setCell ⟨B + 1, 4, none⟩ (.bool false) (fun _ => rfl)).setCell ⟨B + 1, 5, none⟩ (.bool false) (fun _ => rfl)
                          have hD5 := Lib.hid ((set6 ds hD4.2) ▸ (((((hD4.set 0 false).set 1 false).set 2 false).set 3 false).set 4 false).set 5 false)
                          have hU5 := Lib.hid (hU4.only hoS (by omega))
                          have hA5 := hA4.only hoS (by omega) (by omega)
                          have hO5 := hO4.andThen hoS (fun i hi h => by omega)
                          have hst4 := pm_state' hA5 0 rfl
                          clear hoS hA4 hU4 hD4 hO4 z0 z1 z2 z3 z4 z5 y0 y1 y2 y3 y4 y5
                          refine hst4.mono ?_
                          rintro e w' ⟨rfl, rfl⟩
                          go_wp2_with fail
                          go_roundw
                          case rel => exact ⟨q + 1, 0, t + wait % 60, si, _, _, by omega, by go_num, rfl, rfl, rfl, ⟨hT0, hT1, by omega, by omega⟩, hA5, hU5, hD5, hO5⟩
                          case measure => simp [intOf]; omega

                      · have hsb : (st == 2) = false := by simpa using hs2
                        have htk := pm_tick' hA (t + wait % 60) false (by rw [play_ends, Hdue.out]; simp [hs2]) _ (play_tick_no (by rw [play_ends, Hdue.out]; simp [hs2]))
                        clear hA
                        clear hall
                        go_wp2_with fail
                        refine htk.mono ?_
                        rintro e w4 ⟨rfl, hA4, ho4⟩
                        have hO4 := hO.andThen ho4 (fun i hi h => by omega)
                        have hU4 := HU.out.only ho4 (by omega)
                        have hD4 := HD.out.only ho4 (by omega)
                        clear htk hO
                        have hst4 := pm_state' hA4 st rfl
                        have hU5 := Lib.hid hU4
                        have hD5 := Lib.hid hD4
                        clear hU4 hD4
                        go_wp2_with (go_at_call 9; refine hst4.mono ?_; rintro e w' ⟨rfl, rfl⟩)
                        go_roundw
                        case rel => exact ⟨q + 1, st, t + wait % 60, si, _, _, by omega, by go_num, rfl, rfl, rfl, ⟨hT0, hT1, by omega, by omega⟩, hA4, hU5, hD5, hO4⟩
                        case measure => simp [intOf]; omega
        · go_wp2_with (go_at_call 7; refine (lives_any _).mono ?_; rintro e wl ⟨rfl, hol⟩)
          go_ret
          exact ⟨rfl, hO.trans hol⟩

end Go.Proofs.Ytofdmfibffcojaa
