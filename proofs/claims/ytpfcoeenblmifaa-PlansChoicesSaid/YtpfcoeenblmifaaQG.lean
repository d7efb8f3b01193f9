/-
  Plans: the law's index and lines.
-/
import Derived.Test.YtpfcoeenblmifaaPR
namespace Go.Proofs.Ytpfcoeenblmifaa
open Go.RowKit Go.PC

set_option maxHeartbeats 4000000 in
set_option maxRecDepth 100000 in
theorem index_ok (pa la : Option Addr) (pc lc : Nat) (P : Pn) (c : Int) (w : World) (h : Small pa la P w) (hc : hasCode P.ps c = true) :
    Calls Try.prog 16 #[planV pa la pc lc P, .int .u16 c] w fun e w' => Only (fun _ => False) w w' ∧ e = .returned (.int .i64 (idxOf P.ps c)) := by
  obtain ⟨tc, hat⟩ := has_at h.ok.asc hc
  have hil := (List.getElem?_eq_some_iff.1 hat).1
  have Hp := Lib.hid h.rp
  have HAs := Lib.hid h.ok.asc
  have hn12 := h.n
  have HAt := Lib.hid hat
  have hO0 := (Only.refl (fun _ => False) w).alloc (planB pa la pc lc P)
  have Hbox := Lib.hid (World.cell?_alloc_new w #[.slice pa P.ps.length pc, .slice la P.ls.length lc, .int .i64 P.rate, .int .i64 P.room, .int .i64 P.m0, .int .i64 P.m1, .int .i64 P.m2] 31)
  clear h hc hat
  obtain ⟨ps, ls, rate, room, m0, m1, m2⟩ := P
  unfold planV
  unfold planB at hO0
  simp only at hil Hp HAs hn12 HAt hO0 Hbox ⊢
  generalize hI : idxOf ps c = I at *
  clear hI
  go_enter Try.func16, Try.ntmps16
  go_upto_region 1 with fail
  generalize hW : w.alloc (.cells #[.slice pa ps.length pc, .slice la ls.length lc, .int .i64 rate, .int .i64 room, .int .i64 m0, .int .i64 m1, .int .i64 m2] 31) = w0 at hO0 Hbox ⊢
  clear hW
  obtain ⟨B, hB⟩ : ∃ B, w.heap.size = B := ⟨_, rfl⟩
  rw [hB] at Hbox
  simp only [hB]
  have HB := Lib.hid hB
  clear hB
  obtain ⟨y0, y1, y2, y3, y4, y5, y6⟩ := relay Hbox (Only.refl _ w0)
  go_wp2_with fail
  go_loop [5] (fun i => ∃ k : Nat, k ≤ I ∧ i = .int .i64 k) (fun i => I - (intOf i).toNat)
  case atStart => exact ⟨0, Nat.zero_le _, rfl⟩
  case round =>
    obtain ⟨k, hk, rfl⟩ := hrel
    have hlt' : (k : Int) < (ps.length : Int) := by omega
    obtain ⟨b, off, ha, hcell⟩ := Hp.out.resolve_left (fun he => by rw [he] at hil; cases hil)
    subst ha
    obtain ⟨⟨xc, xt⟩, hq⟩ : ∃ l, ps[k]? = some l := ⟨_, List.getElem?_eq_getElem (by omega)⟩
    obtain ⟨c0, _⟩ := hcell k _ hq
    have c0 := hO0.cell c0 (by simp)
    simp only at c0
    by_cases hkI : k = I
    · have hxc : xc = c := by
        have := HAt.out
        rw [← hkI, hq] at this
        cases this
        rfl
      subst hxc hkI
      clear hcell hq
      go_wp2_with fail
      go_ret
      exact ⟨hO0, rfl⟩
    · have hxc : xc ≠ c := by
        have := HAs.out.lt hq HAt.out (by omega)
        simp only at this
        omega
      clear hcell hq
      go_wp2_with fail
      go_round
      case rel => exact ⟨k + 1, by omega, by go_num⟩
      case measure => simp [intOf]; omega

/-- The number of lines between two places. -/
def betw (a b : Int) (l : Ln) : Bool := (decide (l.a = a) && decide (l.b = b)) || (decide (l.a = b) && decide (l.b = a))
theorem betw_iff {a b : Int} {l : Ln} : betw a b l = true ↔ (l.a = a ∧ l.b = b) ∨ (l.a = b ∧ l.b = a) := by simp [betw]
theorem count_step {p : Ln → Bool} {ls : List Ln} {k : Nat} {l : Ln} (hk : ls[k]? = some l) : (ls.take (k + 1)).countP p = (ls.take k).countP p + (if p l = true then 1 else 0) := by
  rw [List.take_add_one, hk, Option.toList_some, List.countP_append, List.countP_singleton]

set_option maxHeartbeats 4000000 in
set_option maxRecDepth 100000 in
theorem lines_cnt (pa la : Option Addr) (pc lc : Nat) (P : Pn) (x y : Int) (w : World) (hl : RdL w la P.ls) (hm : P.ls.length ≤ 12) :
    Calls Try.prog 15 #[planV pa la pc lc P, .int .u16 x, .int .u16 y] w fun e w' => Only (fun _ => False) w w' ∧ e = .returned (.int .i64 ((P.ls.countP (betw x y) : Nat) : Int)) := by
  have HL := Lib.hid hl
  have hO0 := (Only.refl (fun _ => False) w).alloc (planB pa la pc lc P)
  have Hbox := Lib.hid (World.cell?_alloc_new w #[.slice pa P.ps.length pc, .slice la P.ls.length lc, .int .i64 P.rate, .int .i64 P.room, .int .i64 P.m0, .int .i64 P.m1, .int .i64 P.m2] 31)
  clear hl
  obtain ⟨ps, ls, rate, room, m0, m1, m2⟩ := P
  unfold planV
  unfold planB at hO0
  simp only at HL hm hO0 Hbox ⊢
  go_enter Try.func15, Try.ntmps15
  go_upto_region 1 with fail
  generalize hW : w.alloc (.cells #[.slice pa ps.length pc, .slice la ls.length lc, .int .i64 rate, .int .i64 room, .int .i64 m0, .int .i64 m1, .int .i64 m2] 31) = w0 at hO0 Hbox ⊢
  clear hW
  obtain ⟨B, hB⟩ : ∃ B, w.heap.size = B := ⟨_, rfl⟩
  rw [hB] at Hbox
  simp only [hB]
  have HB := Lib.hid hB
  clear hB
  go_wp2_with fail
  go_loopw [7, 8] (fun v i wr => ∃ k : Nat, k ≤ ls.length ∧ v = .int .i64 (((ls.take k).countP (betw x y) : Nat) : Int) ∧ i = .int .i64 k ∧ Only (fun _ => False) w0 wr)
    (fun _ i _ => ls.length - (intOf i).toNat)
  case atStart => exact ⟨0, Nat.zero_le _, rfl, rfl, Only.refl _ _⟩
  case round =>
    obtain ⟨k, hk, rfl, rfl, ho⟩ := hrel
    obtain ⟨_, y1, _⟩ := relay Hbox ho
    have hOo := hO0.trans ho
    by_cases hlt : k < ls.length
    · have hlt' : (k : Int) < (ls.length : Int) := by omega
      obtain ⟨b, off, ha, hcell⟩ := HL.out.resolve_left (fun he => by rw [he] at hlt; cases hlt)
      subst ha
      obtain ⟨⟨xa, xb, xc, xd⟩, hq⟩ : ∃ l, ls[k]? = some l := ⟨_, List.getElem?_eq_getElem hlt⟩
      obtain ⟨c0, c1, c2, c3⟩ := hcell k _ hq
      have hS := count_step (p := betw x y) hq
      have c0 := hOo.cell c0 (by simp)
      have c1 := hOo.cell c1 (by simp)
      have c2 := hOo.cell c2 (by simp)
      simp only at c0 c1 c2
      have hb : b < wr.heap.size := lt_of_cell c0
      have hN := ho.alloc (.cells #[.int .u16 xa, .int .u16 xb, .int .u8 xc] 55)
      have hA : (ls.take k).countP (betw x y) ≤ 12 := by have h1 := List.countP_le_length (p := betw x y) (l := ls.take k); rw [List.length_take] at h1; omega
      generalize (ls.take k).countP (betw x y) = A at hS hA ⊢
      clear hcell hq c3
      by_cases g1 : xa = x ∧ xb = y
      · rw [if_pos (betw_iff.2 (Or.inl g1))] at hS
        obtain ⟨rfl, rfl⟩ := g1
        have HSS := Lib.hid hS
        clear hS
        go_wp2_with fail
        go_roundw
        case rel => exact ⟨k + 1, by omega, by rw [HSS.out]; go_num, by go_num, hN⟩
        case measure => simp [intOf]; omega
      · by_cases g2 : xa = y ∧ xb = x
        · rw [if_pos (betw_iff.2 (Or.inr g2))] at hS
          obtain ⟨rfl, rfl⟩ := g2
          have HSS := Lib.hid hS
          have g3 : xa ≠ xb := fun h => g1 ⟨h, h.symm⟩
          have g4 : xb ≠ xa := fun h => g3 h.symm
          clear hS g1
          go_wp2_with fail
          go_roundw
          case rel => exact ⟨k + 1, by omega, by rw [HSS.out]; go_num, by go_num, hN⟩
          case measure => simp [intOf]; omega
        · rw [if_neg (fun h => (betw_iff.1 h).elim g1 g2)] at hS
          have HSS := Lib.hid hS
          have g1' : xa ≠ x ∨ (xa = x ∧ xb ≠ y) := by omega
          have g2' : xa ≠ y ∨ (xa = y ∧ xb ≠ x) := by omega
          clear hS g1 g2
          rcases g1' with g1 | ⟨rfl, g1⟩ <;> rcases g2' with g2 | ⟨rfl, g2⟩
          all_goals go_wp2_with fail
          all_goals exact ⟨⟨k + 1, by omega, by rw [HSS.out, Nat.add_zero], by go_num, hN⟩, by simp [intOf]; omega⟩
    · have hk' : k = ls.length := by omega
      subst hk'
      rw [List.take_length]
      go_wp2_with fail
      go_ret
      exact ⟨hO0.trans ho, rfl⟩

end Go.Proofs.Ytpfcoeenblmifaa
