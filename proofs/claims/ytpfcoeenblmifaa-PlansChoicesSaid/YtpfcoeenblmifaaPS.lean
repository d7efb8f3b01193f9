/-
  Plans: Base, Gap, Hold.
-/
import Derived.Test.YtpfcoeenblmifaaPR
namespace Go.Proofs.Ytpfcoeenblmifaa
open Go.RowKit Go.PC

/-- The greatest delay. -/
def maxD (ls : List Ln) : Int := ls.foldl (fun a l => if a < l.d then l.d else a) 0
theorem maxD_step {ls : List Ln} {k : Nat} {l : Ln} (h : ls[k]? = some l) : maxD (ls.take (k + 1)) = if maxD (ls.take k) < l.d then l.d else maxD (ls.take k) := by
  unfold maxD
  rw [List.take_add_one, h, Option.toList_some, List.foldl_append]
  rfl
theorem maxD_le {ls : List Ln} {m : Int} (hm : 0 ≤ m) (h : ∀ l ∈ ls, l.d ≤ m) : 0 ≤ maxD ls ∧ maxD ls ≤ m := by
  unfold maxD
  have key : ∀ (l : List Ln) (a : Int), 0 ≤ a → a ≤ m → (∀ x ∈ l, x.d ≤ m) → 0 ≤ l.foldl (fun a l => if a < l.d then l.d else a) a ∧ l.foldl (fun a l => if a < l.d then l.d else a) a ≤ m := by
    intro l
    induction l with
    | nil => intro a h1 h2 _; exact ⟨h1, h2⟩
    | cons x l ih =>
      intro a h1 h2 h3
      have hx := h3 x (by simp)
      refine ih _ ?_ ?_ (fun y hy => h3 y (by simp [hy]))
      · simp only; split <;> omega
      · simp only; split <;> omega
  exact key ls 0 (Int.le_refl _) hm h

/-- The unit of all timers. -/
def baseV (P : Pn) : Int := 4 * (P.ps.length : Int) * (maxD P.ls + P.room + 1)

set_option maxHeartbeats 4000000 in
set_option maxRecDepth 100000 in
theorem Base_ok (pa la : Option Addr) (pc lc : Nat) (P : Pn) (w : World) (h : Small pa la P w) :
    Calls Try.prog 17 #[planV pa la pc lc P] w fun e w' =>
      Only (fun _ => False) w w' ∧ e = .returned (.tuple #[.int .i64 (baseV P), .int .i64 0]) := by
  have HC := Lib.hid (fun wx (ho : Only (fun _ => False) w wx) => check_ok pa la pc lc P wx (h.rp.keep ho) (h.rl.keep ho) h.ok)
  have Hl := Lib.hid h.rl
  have Hd := Lib.hid h.ok.lines
  have hr1 := h.ok.room.1
  have hr2 := h.ok.room.2
  have hn12 := h.n
  have hm12 := h.m
  have hmx := maxD_le (ls := P.ls) (m := 64) (by decide) (fun l hl => (h.ok.lines l hl).2.2.2.2.2.2)
  have hO0 := (Only.refl (fun _ => False) w).alloc (planB pa la pc lc P)
  have Hbox := Lib.hid (World.cell?_alloc_new w #[.slice pa P.ps.length pc, .slice la P.ls.length lc, .int .i64 P.rate, .int .i64 P.room, .int .i64 P.m0, .int .i64 P.m1, .int .i64 P.m2] 31)
  clear h
  unfold planV at HC ⊢
  unfold planB at hO0
  go_enter Try.func17, Try.ntmps17
  go_upto_region 1 with fail
  generalize hW : w.alloc (.cells #[.slice pa P.ps.length pc, .slice la P.ls.length lc, .int .i64 P.rate, .int .i64 P.room, .int .i64 P.m0, .int .i64 P.m1, .int .i64 P.m2] 31) = w0 at hO0 Hbox ⊢
  clear hW
  obtain ⟨B, hB⟩ : ∃ B, w.heap.size = B := ⟨_, rfl⟩
  rw [hB] at Hbox
  simp only [hB]
  have HB := Lib.hid hB
  clear hB
  obtain ⟨y0, y1, y2, y3, y4, y5, y6⟩ := relay Hbox (Only.refl _ w0)
  have HC1 := Lib.hid (HC.out _ hO0)
  go_wp2_with fail
  refine HC1.out.mono ?_
  rintro e w1 ⟨rfl, ho1⟩
  have hO1 := hO0.trans ho1
  clear y0 y1 y2 y3 y4 y5 y6 HC1 HC
  obtain ⟨y0, y1, y2, y3, y4, y5, y6⟩ := relay Hbox ho1
  clear y0 y2 y4 y5 y6
  go_wp2_with fail
  clear y1 y3
  go_loopw [5, 16] (fun v i wr => ∃ k : Nat, k ≤ P.ls.length ∧ i = .int .i64 k ∧ v = .int .i64 (maxD (P.ls.take k)) ∧ Only (fun _ => False) w1 wr) (fun _ i _ => P.ls.length - (intOf i).toNat)
  case atStart => exact ⟨0, Nat.zero_le _, rfl, rfl, Only.refl _ _⟩
  case round =>
    obtain ⟨k, hk, rfl, rfl, ho⟩ := hrel
    by_cases hlt : k < P.ls.length
    · have hlt' : (k : Int) < (P.ls.length : Int) := by omega
      obtain ⟨b, off, ha, hcell⟩ := Hl.out.resolve_left (fun he => by rw [he] at hlt; cases hlt)
      subst ha
      obtain ⟨⟨xa, xb, xc, xd⟩, hq⟩ : ∃ l, P.ls[k]? = some l := ⟨_, List.getElem?_eq_getElem hlt⟩
      obtain ⟨c0, c1, c2, c3⟩ := hcell k _ hq
      have c0 := (hO1.trans ho).cell c0 (by simp)
      have c1 := (hO1.trans ho).cell c1 (by simp)
      have c2 := (hO1.trans ho).cell c2 (by simp)
      have c3 := (hO1.trans ho).cell c3 (by simp)
      simp only at c0 c1 c2 c3
      have HS := Lib.hid (maxD_step hq)
      obtain ⟨md, hmd⟩ : ∃ md, maxD (P.ls.take k) = md := ⟨_, rfl⟩
      rw [hmd] at HS ⊢
      have hb : b < wr.heap.size := lt_of_cell c0
      clear hcell hq
      go_wp2_with fail
      go_roundw
      case rel => exact ⟨k + 1, hlt, by go_num, by rw [HS.out], ho.alloc _⟩
      case measure => simp [intOf]; omega
    · have hk' : k = P.ls.length := by omega
      subst hk'
      rw [List.take_length]
      obtain ⟨y0, y1, y2, y3, y4, y5, y6⟩ := relay Hbox (ho1.trans ho)
      clear y1 y2 y4 y5 y6
      have HBV := Lib.hid (show baseV P = 4 * (P.ps.length : Int) * (maxD P.ls + P.room + 1) from rfl)
      generalize maxD P.ls = md at *
      generalize P.room = rm at *
      obtain ⟨n4, hn4⟩ : ∃ n4, 4 * (P.ps.length : Int) = n4 := ⟨_, rfl⟩
      obtain ⟨s, hs⟩ : ∃ s, md + rm + 1 = s := ⟨_, rfl⟩
      have hw1 : IntKind.i64.wrap (4 * (P.ps.length : Int)) = n4 := by rw [IntWalk.i64_in _ (by omega)]; exact hn4
      have hw2 : IntKind.i64.wrap (md + rm) = md + rm := IntWalk.i64_in _ (by omega)
      have hw3 : IntKind.i64.wrap (md + rm + 1) = s := by rw [IntWalk.i64_in _ (by omega)]; exact hs
      have hw4 : IntKind.i64.wrap (n4 * s) = n4 * s := IntWalk.i64_in _ (by
        have h1 : 0 ≤ n4 * s := Int.mul_nonneg (by omega) (by omega)
        have h2 : n4 * s ≤ 48 * 129 := Int.mul_le_mul (by omega) (by omega) (by omega) (by omega)
        omega)
      rw [hn4, hs] at HBV
      have HN := Lib.hid (And.intro hn4 hs)
      clear hn4 hs hmx hr1 hr2
      go_wp2_with fail
      go_ret2
      exact ⟨hO1.trans ho, by rw [HBV.out]; rfl⟩

theorem baseV_bound {pa la : Option Addr} {P : Pn} {w : World} (h : Small pa la P w) : 0 ≤ baseV P ∧ baseV P ≤ 6192 := by
  have hmx := maxD_le (ls := P.ls) (m := 64) (by decide) (fun l hl => (h.ok.lines l hl).2.2.2.2.2.2)
  have hr1 := h.ok.room.1
  have hr2 := h.ok.room.2
  have hn := h.n
  unfold baseV
  exact ⟨Int.mul_nonneg (by omega) (by omega), Int.le_trans (Int.mul_le_mul (a := 4 * (P.ps.length : Int)) (b := maxD P.ls + P.room + 1) (c := 48) (d := 129) (by omega) (by omega) (by omega) (by omega)) (by decide)⟩

set_option maxHeartbeats 4000000 in
set_option maxRecDepth 100000 in
theorem Gap_ok (pa la : Option Addr) (pc lc : Nat) (P : Pn) (w : World) (h : Small pa la P w) :
    Calls Try.prog 19 #[planV pa la pc lc P] w fun e w' =>
      Only (fun _ => False) w w' ∧ e = .returned (.tuple #[.int .i64 (((P.ps.length : Int) + 2) * baseV P), .int .i64 0]) := by
  have HC := Lib.hid (fun wx (ho : Only (fun _ => False) w wx) => Base_ok pa la pc lc P wx (h.keep ho))
  have hbb := baseV_bound h
  have hn12 := h.n
  have hO0 := (Only.refl (fun _ => False) w).alloc (planB pa la pc lc P)
  have Hbox := Lib.hid (World.cell?_alloc_new w #[.slice pa P.ps.length pc, .slice la P.ls.length lc, .int .i64 P.rate, .int .i64 P.room, .int .i64 P.m0, .int .i64 P.m1, .int .i64 P.m2] 31)
  clear h
  generalize baseV P = bv at *
  obtain ⟨n2, hn2⟩ : ∃ n2, (P.ps.length : Int) + 2 = n2 := ⟨_, rfl⟩
  have hw1 : IntKind.i64.wrap ((P.ps.length : Int) + 2) = n2 := by rw [IntWalk.i64_in _ (by omega)]; exact hn2
  have hw4 : IntKind.i64.wrap (n2 * bv) = n2 * bv := IntWalk.i64_in _ (by
    have h1 : 0 ≤ n2 * bv := Int.mul_nonneg (by omega) (by omega)
    have h2 : n2 * bv ≤ 14 * 6192 := Int.mul_le_mul (by omega) (by omega) (by omega) (by omega)
    omega)
  rw [hn2]
  clear hn2 hbb
  unfold planV at HC ⊢
  unfold planB at hO0
  go_enter Try.func19, Try.ntmps19
  go_upto_region 1 with fail
  generalize hW : w.alloc (.cells #[.slice pa P.ps.length pc, .slice la P.ls.length lc, .int .i64 P.rate, .int .i64 P.room, .int .i64 P.m0, .int .i64 P.m1, .int .i64 P.m2] 31) = w0 at hO0 Hbox ⊢
  clear hW
  obtain ⟨B, hB⟩ : ∃ B, w.heap.size = B := ⟨_, rfl⟩
  rw [hB] at Hbox
  simp only [hB]
  have HB := Lib.hid hB
  clear hB
  obtain ⟨y0, y1, y2, y3, y4, y5, y6⟩ := relay Hbox (Only.refl _ w0)
  have HC1 := Lib.hid (HC.out _ hO0)
  go_wp2_with fail
  refine HC1.out.mono ?_
  rintro e w1 ⟨ho1, rfl⟩
  have hO1 := hO0.trans ho1
  clear y0 y1 y2 y3 y4 y5 y6 HC1 HC
  obtain ⟨y0, y1, y2, y3, y4, y5, y6⟩ := relay Hbox ho1
  clear y1 y2 y3 y4 y5 y6
  go_wp2_with fail
  go_ret2
  exact ⟨hO1, rfl⟩

/-- The distances and the heights of a plan for a place. -/
noncomputable def dOf (P : Pn) (src : Nat) : List Int := Classical.epsilon fun out => Dist P.ps.length src (passP P src) (adjP P) out
theorem dOf_eq {P : Pn} {src : Nat} {out : List Int} (h : Dist P.ps.length src (passP P src) (adjP P) out) : out = dOf P src := h.unique (Classical.epsilon_spec (p := fun out => Dist P.ps.length src (passP P src) (adjP P) out) ⟨out, h⟩)
theorem dOf_ok {P : Pn} {src : Nat} {out : List Int} (h : Dist P.ps.length src (passP P src) (adjP P) out) : Dist P.ps.length src (passP P src) (adjP P) (dOf P src) := dOf_eq h ▸ h

/-- The height of a place. -/
def hOf (d : List Int) (i : Nat) : Int := if o d i < 0 then -1 else ((List.range d.length).countP fun k => decide (0 ≤ o d k ∧ (o d k < o d i ∨ (o d k = o d i ∧ k < i))) : Nat)
theorem Hts.eq {d h : List Int} (hh : Hts d h) {i : Nat} (hi : i < d.length) : o h i = hOf d i := by
  unfold hOf
  by_cases c : o d i < 0
  · rw [if_pos c]; exact hh.no i hi c
  · rw [if_neg c]; exact hh.yes i hi (by omega)

end Go.Proofs.Ytpfcoeenblmifaa
