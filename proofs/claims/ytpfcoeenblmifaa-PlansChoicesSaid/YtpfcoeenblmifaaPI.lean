/-
  Plans: slices.Compact of a few codes.
-/
import Derived.Test.YtpfcoeenblmifaaPH
namespace Go.Proofs.Ytpfcoeenblmifaa
open Go.RowKit Go.PC

set_option maxHeartbeats 4000000 in
set_option maxRecDepth 100000 in
theorem compact_points (g N cap : Nat) (ys : List Int) (w : World) (hr : Row w g 34 N (pts ys)) (hs : ys.Pairwise fun x y => x ≤ y) (hl : ys.length ≤ 1000) (hc : ys.length ≤ cap) :
    Calls Try.prog 45 #[.slice (some ⟨g, 0, none⟩) ys.length cap] w fun e w' =>
      ∃ A : List Int, e = .returned (.slice (some ⟨g, 0, none⟩) A.length cap) ∧ Only (fun i => i = g) w w' ∧ A.Pairwise (fun x y => x < y) ∧ (∀ z, z ∈ A ↔ z ∈ ys) ∧ A.length ≤ ys.length ∧ Row w' g 34 N (pts A) := by
  have HR := Lib.hid hr
  have HS := Lib.hid hs
  clear hr hs
  have hcc : (ys.length : Int) ≤ (cap : Int) := by omega
  by_cases h2 : ys.length < 2
  · have hp : ys.Pairwise (fun x y => x < y) := by
      match ys, h2 with
      | [], _ => exact List.Pairwise.nil
      | [x], _ => simp
    have HP := Lib.hid hp
    clear hp
    go_enter Try.func45, Try.ntmps45
    go_wp2_with fail
    go_ret
    exact ⟨ys, rfl, Only.refl _ _, HP.out, fun _ => Iff.rfl, Nat.le_refl _, HR.out⟩
  have HD := Lib.hid (p := ∀ j x y, j < 1 → ys[j]? = some x → ys[j + 1]? = some y → j + 1 < 1 → x ≠ y) (fun j x y _ _ _ h => by omega)
  go_enter Try.func45, Try.ntmps45
  go_wp2_with fail
  go_loopw [3] (fun v wr => ∃ k : Nat, v = .int .i64 k ∧ 1 ≤ k ∧ k ≤ ys.length ∧ Only (fun i => i = g) w wr ∧ Hid (Row wr g 34 N (pts ys)) ∧ Hid (∀ j x y, j < k → ys[j]? = some x → ys[j + 1]? = some y → j + 1 < k → x ≠ y))
    (fun v _ => ys.length - (intOf v).toNat)
  case atStart => exact ⟨1, rfl, Nat.le_refl _, by omega, Only.refl _ _, HR, HD⟩
  case round =>
    clear HR HD
    obtain ⟨k, rfl, hk1, hkn, ho, HR, HD⟩ := hrel
    obtain ⟨wo, hwo⟩ : ∃ wo : World, wo = wr := ⟨_, rfl⟩
    rw [← hwo] at ho HR ⊢
    clear hwo wr
    by_cases hlt : k < ys.length
    · have hlt' : (k : Int) < (ys.length : Int) := by omega
      obtain ⟨x, hx⟩ : ∃ x, ys[k]? = some x := ⟨_, List.getElem?_eq_getElem hlt⟩
      obtain ⟨y, hy⟩ : ∃ y, ys[k - 1]? = some y := ⟨_, List.getElem?_eq_getElem (by omega)⟩
      have c0 := HR.out.cell (pts_at hx)
      have c1 := HR.out.cell (pts_at hy)
      have hi0 : (0 : Int) ≤ (k : Int) - 1 := by omega
      have hi1 : (k : Int) - 1 < (ys.length : Int) := by omega
      have HX := Lib.hid hx
      have HY := Lib.hid hy
      clear hx hy
      by_cases hxy : x = y
      · subst hxy
        have HI := Lib.hid (CInv.start HS.out HD.out hlt hk1 HX.out HY.out)
        have hkc : (k : Int) ≤ (cap : Int) := by omega
        go_wp2_with fail
        go_quiet (fail)
        clear c0 c1 hi0 hi1 HX HY HD
        go_wp2_with fail
        have hrow0 : Row (wo.drewN nq) g 34 N (pts ys) := HR.out.of_block rfl
        have ho0 : Only (fun i => i = g) w (wo.drewN nq) := ⟨ho.os, ho.tape, ho.output, ho.size, ho.block⟩
        have HR0 := Lib.hid hrow0
        clear HR ho hrow0
        generalize wo.drewN nq = w1 at *
        go_loopw [3, 5] (fun v3 v5 wr2 => ∃ (kk k2 : Nat) (zs A : List Int), v3 = .int .i64 kk ∧ v5 = .int .i64 k2 ∧ 1 ≤ k2 ∧ k + k2 ≤ ys.length ∧ Only (fun i => i = g) w wr2 ∧ Hid (Row wr2 g 34 N (pts zs)) ∧ Hid (CInv ys (k + k2) kk zs A))
          (fun _ v5 _ => ys.length - (intOf v5).toNat)
        case atStart => exact ⟨k, 1, ys, ys.take k, rfl, rfl, Nat.le_refl _, hlt, ho0, HR0, HI⟩
        case round =>
          clear HI ho0 HR0
          obtain ⟨kk, k2, zs, A, rfl, rfl, hk2, hkk, ho, HR, HI⟩ := hrel
          obtain ⟨wo, hwo⟩ : ∃ wo : World, wo = wr := ⟨_, rfl⟩
          rw [← hwo] at ho HR ⊢
          clear hwo wr
          have hkq := HI.out.klt
          by_cases hl2 : k + k2 < ys.length
          · obtain ⟨u, hu⟩ : ∃ u, ys[k + k2]? = some u := ⟨_, List.getElem?_eq_getElem hl2⟩
            obtain ⟨v, hv⟩ : ∃ v, ys[k + k2 - 1]? = some v := ⟨_, List.getElem?_eq_getElem (by omega)⟩
            have c0 : wo.cell? ⟨g, k + k2, none⟩ = some (.int .u16 u) := HR.out.cell (pts_at ((HI.out.high (by omega)).trans hu))
            have c1 : wo.cell? ⟨g, k + (k2 - 1), none⟩ = some (.int .u16 v) := by rw [show k + (k2 - 1) = k + k2 - 1 by omega]; exact HR.out.cell (pts_at ((HI.out.high (by omega)).trans hv))
            obtain ⟨t, ht⟩ : ∃ t, zs[kk]? = some t := ⟨_, List.getElem?_eq_getElem (by have := HI.out.size; omega)⟩
            have c2 := HR.out.cell (pts_at ht)
            have f2 := HR.out.frozen kk
            have hi0 : (0 : Int) ≤ (k2 : Int) - 1 := by omega
            have hi1 : (k2 : Int) < ((ys.length - k : Nat) : Int) := by omega
            have hi2 : (k2 : Int) - 1 < ((ys.length - k : Nat) : Int) := by omega
            have hi3 : (kk : Int) < (ys.length : Int) := by omega
            have HU := Lib.hid hu
            have HV := Lib.hid hv
            clear hu hv ht
            by_cases huv : u = v
            · subst huv
              have HN := Lib.hid (HI.out.skip HU.out HV.out)
              clear HI
              go_wp2_with fail
              go_quiet (fail)
              go_wp2_with fail
              go_roundw
              case rel => exact ⟨kk, k2 + 1, zs, A, rfl, by go_num, by omega, by omega, ⟨ho.os, ho.tape, ho.output, ho.size, ho.block⟩, Lib.hid (HR.out.of_block rfl), HN⟩
              case measure => simp [intOf]; omega
            · have HN := Lib.hid (HI.out.keep HS.out HU.out HV.out huv)
              have hne : (u != v) = true := by simpa using huv
              clear HI huv
              go_wp2_with fail
              go_quiet (fail)
              have HR2 := Lib.hid ((HR.out.of_block (w' := wo.drewN nq) rfl).set kk (.int .u16 u))
              have hO2 : Only (fun i => i = g) w ((wo.drewN nq).setCell ⟨g, kk, none⟩ (.int .u16 u)) := Only.setCell (p := ⟨g, kk, none⟩) (b := wo.drewN nq) ⟨ho.os, ho.tape, ho.output, ho.size, ho.block⟩ _ (fun _ => rfl)
              have c2 : (wo.drewN nq).cell? ⟨g, kk, none⟩ = some (.int .u16 t) := c2
              have f2 : (wo.drewN nq).frozen? ⟨g, kk, none⟩ = false := f2
              have c0 : (wo.drewN nq).cell? ⟨g, k + k2, none⟩ = some (.int .u16 u) := c0
              clear ho HR c1
              generalize wo.drewN nq = w5 at *
              go_wp2_with fail
              go_roundw
              case rel => exact ⟨kk + 1, k2 + 1, zs.set kk u, A ++ [u], by go_num, by go_num, by omega, by omega, hO2, Lib.hid (by have := HR2.out; simpa [pts, List.map_set] using this), HN⟩
              case measure => simp [intOf]; omega
          · have hend : k + k2 = ys.length := by omega
            rw [hend] at HI
            have hza := HI.out.first
            have hkA := HI.out.len
            have hAz : Row wo g 34 N (pts A) := by
              have := HR.out.take kk
              rwa [show (pts zs).take kk = pts (zs.take kk) by simp [pts], hza] at this
            have hsz := HI.out.size
            have hcl : ∀ ty, (Builtin.clear_ #[61] ty #[.slice (some ⟨g, kk, none⟩) (ys.length - kk) (cap - kk)]).run Try.prog wo = .ok (.tuple #[]) (wo.setCells g kk (List.replicate (ys.length - kk) (.int .u16 0))) :=
              fun ty => Lib.run_clear_slice wo _ _ ty _ Try.underlying61 Try.zeroValue34 rfl rfl g kk _ _ (by omega) (fun j hj => by rw [HR.out.cell (pts_at (List.getElem?_eq_getElem (i := kk + j) (by omega)))]; rfl) (fun j hj => HR.out.frozen _)
            have hAs : Row (wo.setCells g kk (List.replicate (ys.length - kk) (.int .u16 0))) g 34 N (pts A) := Row.setCells _ hAz (by simp [hkA])
            have hOs : Only (fun i => i = g) w (wo.setCells g kk (List.replicate (ys.length - kk) (.int .u16 0))) := Only.setCells (S := fun i => i = g) rfl _ ho
            have HA := Lib.hid hAs
            have HM := Lib.hid (And.intro (HI.out.all (Nat.le_refl _)) (And.intro HI.out.asc hkA))
            have hk63 : (kk : Int) ≤ (ys.length : Int) := by omega
            have hkcap : (kk : Int) ≤ (cap : Int) := by omega
            clear hza hkA hAz hsz HR HI ho hAs
            go_wp2_with fail
            go_ret
            exact ⟨A, by rw [HM.out.2.2]; simp, hOs, HM.out.2.1, HM.out.1, by have := HM.out.2.2; omega, HA.out⟩
      · have hne : (x == y) = false := by simpa using hxy
        have HD' := Lib.hid (p := ∀ j x y, j < k + 1 → ys[j]? = some x → ys[j + 1]? = some y → j + 1 < k + 1 → x ≠ y) (fun j x' y' h1 h2 h3 h4 => by
          rcases Nat.lt_or_ge (j + 1) k with h | h
          · exact HD.out j x' y' (by omega) h2 h3 h
          · have : j = k - 1 := by omega
            subst this
            have e : k - 1 + 1 = k := by omega
            rw [e, HX.out] at h3
            rw [HY.out] at h2
            cases h2
            cases h3
            exact fun e => hxy e.symm)
        clear hxy HD
        go_wp2_with fail
        go_quiet (fail)
        go_wp2_with fail
        go_roundw
        case rel => exact ⟨k + 1, by go_num, by omega, hlt, ⟨ho.os, ho.tape, ho.output, ho.size, ho.block⟩, HR, HD'⟩
        case measure => simp [intOf]; omega
    · have hk : k = ys.length := by omega
      subst hk
      have hp : ys.Pairwise (fun x y => x < y) := by
        have := asc_take HS.out HD.out (Nat.le_refl _)
        rwa [List.take_length] at this
      have HP := Lib.hid hp
      clear hp
      go_wp2_with fail
      go_ret
      exact ⟨ys, rfl, ho, HP.out, fun _ => Iff.rfl, Nat.le_refl _, HR.out⟩

theorem compact_own (base n : Nat) (v : Value) (ys : List Int) (w : World) (hr : w.ownsRow base 34 1 v n (pts ys)) (hs : ys.Pairwise fun x y => x ≤ y) (hl : ys.length ≤ 1000) :
    Calls Try.prog 45 #[v] w fun e w' =>
      ∃ (v2 : Value) (A : List Int), e = .returned v2 ∧ Only (fun i => some i = v.ownBlock) w w' ∧ A.Pairwise (fun x y => x < y) ∧ (∀ z, z ∈ A ↔ z ∈ ys) ∧ A.length ≤ ys.length ∧ w'.ownsRow base 34 1 v2 A.length (pts A) := by
  have hn : n = ys.length := by have := hr.1; simp at this; omega
  subst hn
  rcases hr.2 with ⟨rfl, h0⟩ | ⟨g, cap, cur, rfl, hb, hg, hnc, hm, hs', ht⟩
  · have hx : ys = [] := List.eq_nil_of_length_eq_zero h0
    subst hx
    have HR := Lib.hid hr
    clear hr
    go_enter Try.func45, Try.ntmps45
    go_wp2_with fail
    go_ret
    exact ⟨_, [], rfl, Only.refl _ _, List.Pairwise.nil, fun _ => Iff.rfl, Nat.le_refl _, HR.out⟩
  · have hrow : Row w g 34 cap (pts ys) := ⟨cur, hg, by omega, by simpa using ht⟩
    refine (compact_points g cap cap ys w hrow hs hl hnc).mono ?_
    rintro e w' ⟨A, rfl, ho, ha, hm', hAl, hA⟩
    refine ⟨_, A, rfl, ho.mono (fun i _ h => by simp [Value.ownBlock, h]), ha, hm', hAl, ?_⟩
    have h1 := hA.len
    exact Row.owns (by simpa using hA) hb (by simp) (by simpa using h1) hm

end Go.Proofs.Ytpfcoeenblmifaa
