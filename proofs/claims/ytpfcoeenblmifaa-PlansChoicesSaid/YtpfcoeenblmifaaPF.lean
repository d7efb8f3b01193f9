/-
  Plans: Check and known, at a valid plan.
-/
import Derived.Test.YtpfcoeenblmifaaPE
namespace Go.Proofs.Ytpfcoeenblmifaa
open Go.RowKit Go.PC

set_option maxHeartbeats 4000000 in
set_option maxRecDepth 100000 in
theorem check_ok (pa la : Option Addr) (pc lc : Nat) (P : Pn) (w : World) (hp : RdP w pa P.ps) (hl : RdL w la P.ls) (hok : PlanOK P) :
    Calls Try.prog 34 #[planV pa la pc lc P] w fun e w' => e = .returned (.int .i64 0) ∧ Only (fun _ => False) w w' := by
  have hPl := fun (wx : World) (hx : Only (fun _ => False) w wx) => places_ok pa P.ps pc wx (hp.keep hx) hok.asc hok.ne hok.np hok.codes
  have hLi := fun (wx : World) (hx : Only (fun _ => False) w wx) => lines_ok pa la pc lc P wx (hp.keep hx) (hl.keep hx) hok
  have HPl := Lib.hid hPl
  have HLi := Lib.hid hLi
  obtain ⟨h1, h2⟩ := hok.rate
  obtain ⟨h3, h4⟩ := hok.room
  obtain ⟨h5, h6, h7, h8⟩ := hok.marks
  have hnp := hok.np
  have hnl := hok.nl
  clear hPl hLi hp hl hok
  obtain ⟨ps, ls, rate, room, m0, m1, m2⟩ := P
  unfold planV at HLi ⊢
  simp only at HPl HLi h1 h2 h3 h4 h5 h6 h7 h8 hnp hnl ⊢
  have hnp' : ¬ (64 : Int) < (ps.length : Int) := by omega
  have hnl' : ¬ (1024 : Int) < (ls.length : Int) := by omega
  have t1 : ¬ rate < 1 := by omega
  have t2 : ¬ 16 < rate := by omega
  have t3 : ¬ room < 1 := by omega
  have t4 : ¬ 64 < room := by omega
  have t5 : ¬ m0 < 1 := by omega
  have t6 : ¬ m1 ≤ m0 := by omega
  have t7 : ¬ m2 ≤ m1 := by omega
  have t8 : ¬ room < m2 := by omega
  have hO0 := (Only.refl (fun _ => False) w).alloc (.cells #[.slice pa ps.length pc, .slice la ls.length lc, .int .i64 rate, .int .i64 room, .int .i64 m0, .int .i64 m1, .int .i64 m2] 31)
  have hbox := World.cell?_alloc_new w #[.slice pa ps.length pc, .slice la ls.length lc, .int .i64 rate, .int .i64 room, .int .i64 m0, .int .i64 m1, .int .i64 m2] 31
  have Hbox := Lib.hid hbox
  clear hbox
  go_enter Try.func34, Try.ntmps34
  go_wp2_with fail
  refine (HPl.out _ hO0).mono ?_
  rintro e w1 ⟨rfl, ho1⟩
  have hO1 := hO0.trans ho1
  obtain ⟨B, hB⟩ : ∃ B, w.heap.size = B := ⟨_, rfl⟩
  rw [hB] at Hbox
  simp only [hB]
  clear hB hO0
  have y0 : w1.cell? ⟨B, 0, none⟩ = some (.slice pa ps.length pc) := ho1.cell (Hbox.out 0) (by simp)
  have y1 : w1.cell? ⟨B, 1, none⟩ = some (.slice la ls.length lc) := ho1.cell (Hbox.out 1) (by simp)
  have y2 : w1.cell? ⟨B, 2, none⟩ = some (.int .i64 rate) := ho1.cell (Hbox.out 2) (by simp)
  have y3 : w1.cell? ⟨B, 3, none⟩ = some (.int .i64 room) := ho1.cell (Hbox.out 3) (by simp)
  have y4 : w1.cell? ⟨B, 4, none⟩ = some (.int .i64 m0) := ho1.cell (Hbox.out 4) (by simp)
  have y5 : w1.cell? ⟨B, 5, none⟩ = some (.int .i64 m1) := ho1.cell (Hbox.out 5) (by simp)
  have y6 : w1.cell? ⟨B, 6, none⟩ = some (.int .i64 m2) := ho1.cell (Hbox.out 6) (by simp)
  clear ho1 Hbox
  go_wp2_with fail
  refine (HLi.out _ hO1).mono ?_
  rintro e w2 ⟨rfl, ho2⟩
  have hO2 := hO1.trans ho2
  have y2 := ho2.cell y2 (by simp)
  have y3 := ho2.cell y3 (by simp)
  have y4 := ho2.cell y4 (by simp)
  have y5 := ho2.cell y5 (by simp)
  have y6 := ho2.cell y6 (by simp)
  have hb : B < w2.heap.size := lt_of_cell y2
  clear ho2 y0 y1
  go_wp2_with fail
  go_ret
  exact ⟨rfl, hO2.alloc _⟩

/-- The codes that a slice leads to. -/
def RdC (w : World) (a : Option Addr) (zs : List Int) : Prop := zs = [] ∨ ∃ b off, a = some ⟨b, off, none⟩ ∧ ∀ i z, zs[i]? = some z → w.cell? ⟨b, off + i, none⟩ = some (.int .u16 z)
theorem RdC.keep {w w' : World} {a : Option Addr} {zs : List Int} (h : RdC w a zs) (ho : Only (fun _ => False) w w') : RdC w' a zs := by
  rcases h with h | ⟨b, off, ha, hc⟩
  · exact Or.inl h
  · exact Or.inr ⟨b, off, ha, fun i z hz => ho.cell (hc i z hz) (by simp)⟩

set_option maxHeartbeats 4000000 in
set_option maxRecDepth 100000 in
theorem known_ok (pa la : Option Addr) (pc lc : Nat) (P : Pn) (za : Option Addr) (zs : List Int) (zc : Nat) (w : World) (hp : RdP w pa P.ps) (hl : RdL w la P.ls) (hok : PlanOK P) (hz : RdC w za zs) (hzl : zs.length ≤ 1000) (hin : ∀ z ∈ zs, hasCode P.ps z = true) :
    Calls Try.prog 23 #[planV pa la pc lc P, .slice za zs.length zc] w fun e w' => e = .returned (.int .i64 0) ∧ Only (fun _ => False) w w' := by
  have HC := Lib.hid (fun (wx : World) (hx : Only (fun _ => False) w wx) => check_ok pa la pc lc P wx (hp.keep hx) (hl.keep hx) hok)
  have HF := Lib.hid (fun (z : Int) (hz : z ∈ zs) (wx : World) (hx : Only (fun _ => False) w wx) => (hin z hz) ▸ find_any pa P.ps pc (.slice la P.ls.length lc) (.int .i64 P.rate) (.int .i64 P.room) (.int .i64 P.m0) (.int .i64 P.m1) (.int .i64 P.m2) z wx (hp.keep hx) hok.asc (by have := hok.np; omega))
  have Hz := Lib.hid (p := RdC w za zs) hz
  clear hp hl hok hz hin
  obtain ⟨ps, ls, rate, room, m0, m1, m2⟩ := P
  unfold planV at HC ⊢
  simp only at HC HF ⊢
  have hO0 := (Only.refl (fun _ => False) w).alloc (.cells #[.slice pa ps.length pc, .slice la ls.length lc, .int .i64 rate, .int .i64 room, .int .i64 m0, .int .i64 m1, .int .i64 m2] 31)
  have Hbox := Lib.hid (World.cell?_alloc_new w #[.slice pa ps.length pc, .slice la ls.length lc, .int .i64 rate, .int .i64 room, .int .i64 m0, .int .i64 m1, .int .i64 m2] 31)
  go_enter Try.func23, Try.ntmps23
  go_wp2_with fail
  refine (HC.out _ hO0).mono ?_
  rintro e w1 ⟨rfl, ho1⟩
  have hO1 := hO0.trans ho1
  obtain ⟨B, hB⟩ : ∃ B, w.heap.size = B := ⟨_, rfl⟩
  rw [hB] at Hbox
  simp only [hB]
  clear hB hO0
  have HB := Lib.hid (fun i v (hv : (#[Value.slice pa ps.length pc, .slice la ls.length lc, .int .i64 rate, .int .i64 room, .int .i64 m0, .int .i64 m1, .int .i64 m2] : Array Value)[i]? = some v) => ho1.cell ((Hbox.out i).trans hv) (by simp))
  clear ho1 Hbox
  go_wp2_with fail
  go_loopw [17] (fun v wr => ∃ k : Nat, k ≤ zs.length ∧ v = .int .i64 k ∧ Only (fun _ => False) w1 wr) (fun v _ => zs.length - (intOf v).toNat)
  case atStart => exact ⟨0, Nat.zero_le _, rfl, Only.refl _ _⟩
  case round =>
    obtain ⟨k, hk, rfl, ho⟩ := hrel
    by_cases hlt : k < zs.length
    · have hlt' : (k : Int) < (zs.length : Int) := by omega
      obtain ⟨b, off, ha, hcell⟩ := Hz.out.resolve_left (fun he => by rw [he] at hlt; cases hlt)
      subst ha
      obtain ⟨z, hz⟩ : ∃ z, zs[k]? = some z := ⟨_, List.getElem?_eq_getElem hlt⟩
      have c0 := (hO1.trans ho).cell (hcell k z hz) (by simp)
      have hf := HF.out z (List.mem_of_getElem? hz) wr (hO1.trans ho)
      have y0 := ho.cell (HB.out 0 _ rfl) (by simp)
      have y1 := ho.cell (HB.out 1 _ rfl) (by simp)
      have y2 := ho.cell (HB.out 2 _ rfl) (by simp)
      have y3 := ho.cell (HB.out 3 _ rfl) (by simp)
      have y4 := ho.cell (HB.out 4 _ rfl) (by simp)
      have y5 := ho.cell (HB.out 5 _ rfl) (by simp)
      have y6 := ho.cell (HB.out 6 _ rfl) (by simp)
      clear hcell hz
      go_wp2_with fail
      refine hf.mono ?_
      rintro e w2 ⟨rfl, ho2⟩
      go_wp2_with fail
      go_roundw
      case rel => exact ⟨k + 1, hlt, by go_num, ho.trans ho2⟩
      case measure => simp [intOf]; omega
    · go_wp2_with fail
      go_ret
      exact ⟨rfl, hO1.trans ho⟩

end Go.Proofs.Ytpfcoeenblmifaa
