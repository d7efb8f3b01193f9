/-
  PlansHeights: its walk.
-/
import Derived.Test.YtpfcoeenblmifaaDis
import Derived.Deep.LoopGhost
import Derived.StillTailTactics
namespace Go.Proofs.Ytpfcoeenblmifaa
open Go.RowKit Go.PC

/-- The number of places lower than i, as the law counts them. -/
def lows (e : List Int) (i k : Nat) : Nat := (List.range k).countP fun j => decide (o e j < o e i ∨ (o e j = o e i ∧ j < i))
theorem lows_step (e : List Int) (i k : Nat) : lows e i (k + 1) = lows e i k + (if o e k < o e i ∨ (o e k = o e i ∧ k < i) then 1 else 0) := by
  unfold lows
  rw [List.range_succ, List.countP_append, List.countP_singleton]
  simp only [decide_eq_true_eq]

theorem lows_eq {d : List Int} (hl : ∀ i, o d i < 99) {i : Nat} (hi : i < d.length) (h0 : 0 ≤ o d i) : ((lows (d.map up) i d.length : Nat) : Int) = hOf d i := by
  unfold hOf lows
  rw [if_neg (by omega)]
  congr 1
  apply List.countP_congr
  intro k hk
  have hk' := List.mem_range.1 hk
  have h1 := hl i
  have h2 := hl k
  have e1 : up (o d i) = o d i := by unfold up; rw [if_neg (by omega)]
  rw [o_up hi, o_up hk', decide_eq_true_eq, decide_eq_true_eq, e1]
  unfold up
  split <;> omega

set_option maxHeartbeats 20000000 in
set_option maxRecDepth 100000 in
theorem heights_any (x : Nx) (ea : Option Addr) (ec : Nat) (hx : NxOK x) (z : Int) (hz : U8 z) (w : World) (hre : RdE w ea x.ex) :
    Calls Try.prog 4 #[.agg (nxCells x (.slice ea x.ex.length ec)).toArray, .int .u8 z] w fun e w' => Only (fun _ => False) w w' ∧ e = .returned (.bool true) := by
  obtain ⟨many, c0, c1, c2, c3, c4, c5, ends, t0, t1, t2, t3, t4, t5, ex, rate, room, k0, k1, rfl⟩ := nx_lit x hx
  simp only at hre ⊢
  have HOf := Lib.hid (fun wx (ho : Only (fun _ => False) w wx) => of_lit hx ea ec wx (hre.keep ho))
  have e19 : (nxCells ⟨many, [c0, c1, c2, c3, c4, c5], ends, [t0, t1, t2, t3, t4, t5], ex, rate, room, k0, k1⟩ (.slice ea ex.length ec)).toArray = #[.int .u8 many, .int .u8 c0, .int .u8 c1, .int .u8 c2, .int .u8 c3, .int .u8 c4, .int .u8 c5, .int .u8 ends, .int .u8 t0, .int .u8 t1, .int .u8 t2, .int .u8 t3, .int .u8 t4, .int .u8 t5, .slice ea ex.length ec, .int .u8 rate, .int .u8 room, .int .u8 k0, .int .u8 k1] := rfl
  rw [e19]
  clear e19 hre hx
  go_enter Try.func4, Try.ntmps4
  go_upto_region 1 with fail
  have hOA := (Only.refl (fun _ => False) w).alloc (.cells #[.int .u8 many, .int .u8 c0, .int .u8 c1, .int .u8 c2, .int .u8 c3, .int .u8 c4, .int .u8 c5, .int .u8 ends, .int .u8 t0, .int .u8 t1, .int .u8 t2, .int .u8 t3, .int .u8 t4, .int .u8 t5, .slice ea ex.length ec, .int .u8 rate, .int .u8 room, .int .u8 k0, .int .u8 k1] 26)
  have hX1 : (w.alloc (.cells #[.int .u8 many, .int .u8 c0, .int .u8 c1, .int .u8 c2, .int .u8 c3, .int .u8 c4, .int .u8 c5, .int .u8 ends, .int .u8 t0, .int .u8 t1, .int .u8 t2, .int .u8 t3, .int .u8 t4, .int .u8 t5, .slice ea ex.length ec, .int .u8 rate, .int .u8 room, .int .u8 k0, .int .u8 k1] 26)).heap[w.heap.size]? = some (.cells #[.int .u8 many, .int .u8 c0, .int .u8 c1, .int .u8 c2, .int .u8 c3, .int .u8 c4, .int .u8 c5, .int .u8 ends, .int .u8 t0, .int .u8 t1, .int .u8 t2, .int .u8 t3, .int .u8 t4, .int .u8 t5, .slice ea ex.length ec, .int .u8 rate, .int .u8 room, .int .u8 k0, .int .u8 k1] 26) := (MapKept.heap_alloc w _).1
  have HOf1 := Lib.hid (HOf.out _ hOA)
  generalize hwA : w.alloc (.cells #[.int .u8 many, .int .u8 c0, .int .u8 c1, .int .u8 c2, .int .u8 c3, .int .u8 c4, .int .u8 c5, .int .u8 ends, .int .u8 t0, .int .u8 t1, .int .u8 t2, .int .u8 t3, .int .u8 t4, .int .u8 t5, .slice ea ex.length ec, .int .u8 rate, .int .u8 room, .int .u8 k0, .int .u8 k1] 26) = wA at *
  obtain ⟨B, hB⟩ : ∃ B, w.heap.size = B := ⟨_, rfl⟩
  rw [hB] at hX1
  simp only [hB]
  clear hB hwA HOf
  go_wp2_with (first | (refine wpList_load_row rfl _ _ rfl B rfl _ _ _ _ hX1 Try.underlying26 rfl (by kernel_rfl) ?_; clear hX1) | fail)
  refine HOf1.out.mono ?_
  rintro e w1 ⟨ho1, pa, la, pc, lc, P, rfl, hS, hn2, hn6, hG⟩
  have HO1 := Lib.hid (hOA.trans ho1)
  clear HOf1 ho1 hOA
  have hO0 := (Only.refl (fun _ => False) w1).alloc (planB pa la pc lc P)
  have Hbox := Lib.hid (World.cell?_alloc_new w1 #[.slice pa P.ps.length pc, .slice la P.ls.length lc, .int .i64 P.rate, .int .i64 P.room, .int .i64 P.m0, .int .i64 P.m1, .int .i64 P.m2] 31)
  have hS2 := hS.keep hO0
  unfold planV planB at *
  go_upto_region 2 with fail
  have HO2 := Lib.hid (HO1.out.trans hO0)
  generalize hW : w1.alloc (.cells #[.slice pa P.ps.length pc, .slice la P.ls.length lc, .int .i64 P.rate, .int .i64 P.room, .int .i64 P.m0, .int .i64 P.m1, .int .i64 P.m2] 31) = w2 at *
  clear hW hO0 hS HO1
  obtain ⟨C, hC⟩ : ∃ C, w1.heap.size = C := ⟨_, rfl⟩
  rw [hC] at Hbox
  simp only [hC]
  clear hC
  obtain ⟨e3, e4⟩ := tree_wrap z P.ps.length (by omega) hz
  have e3' : (IntKind.i64.wrap z).tmod P.ps.length = (((z % P.ps.length).toNat : Nat) : Int) := by rw [IntWalk.i64_left]; exact e3
  generalize (z % P.ps.length).toNat = b at e3 e3' e4
  obtain ⟨⟨pB, tB⟩, hpB⟩ : ∃ p, P.ps[b]? = some p := ⟨_, List.getElem?_eq_getElem (by omega)⟩
  obtain ⟨gp, go, hga, hcell⟩ := hS2.rp.resolve_left (fun he => by rw [he] at hn2; simp at hn2)
  have hcB := (hcell b _ hpB).1
  simp only at hcB
  have HPc := Lib.hid hcell
  have HPp := Lib.hid hpB
  obtain ⟨y0, y1, y2, y3, y4, y5, y6⟩ := relay Hbox (Only.refl _ w2)
  subst hga
  have hnne : P.ps.length ≠ 0 := by omega
  have hnne' : ((P.ps.length : Int) == 0) = false := by simp [hnne]
  have hn1' : (1 : Int) ≤ P.ps.length := by omega
  have hb' : (b : Int) < P.ps.length := by omega
  have hb0 : (0 : Int) ≤ b := by omega
  have HSm := Lib.hid hS2
  clear hcell hpB hS2
  go_upto_region 2 with fail
  go_still_tail 11, (by kernel_rfl)
  change wpList _ _ _ _ _ w2.drew
  have ho3 := (Only.refl (fun _ => False) w2).drew
  clear y0 y1 y2 y3 y4 y5 y6 hcB
  generalize w2.drew = w3 at *
  generalize IntKind.i64.wrap z = zw at *
  obtain ⟨y0, y1, y2, y3, y4, y5, y6⟩ := relay Hbox ho3
  -- Heights
  have HC := Lib.hid (Heights_ok (some ⟨gp, go, none⟩) la pc lc P pB w3 (HSm.out.keep ho3) (has_of HPp.out))
  unfold planV at HC
  go_wp2_with fail
  refine HC.out.mono ?_
  rintro e w4 ⟨ho4, gd, d, ht, rfl, hgd, hrd, hd, hh⟩
  have hO4 := ho3.trans ho4
  have HD := Lib.hid (And.intro hrd (And.intro hd hh))
  clear y0 y1 y2 y3 y4 y5 y6 HC ho3 ho4 hgd hrd hd hh
  obtain ⟨y0, y1, y2, y3, y4, y5, y6⟩ := relay Hbox hO4
  -- the law's
  have HC := Lib.hid (lawdist_ok (some ⟨gp, go, none⟩) la pc lc P pB w4 (HSm.out.keep hO4) (has_of HPp.out) d HD.out.2.1)
  unfold planV at HC
  go_wp2_with fail
  refine HC.out.mono ?_
  rintro e w5 ⟨ho5, gw, rfl, hgw, hrw⟩
  have hO5 := hO4.trans ho5
  have hdl := HD.out.2.1.len
  have hlow := HD.out.2.1.low
  have hhigh := HD.out.2.1.high
  have HRd := Lib.hid (HD.out.1.only ho5 (by simp))
  have HRw : Hid (Row w5 gw 3 P.ps.length (its (d.map up))) := Lib.hid hrw
  have HHt := Lib.hid HD.out.2.2
  clear y0 y1 y2 y3 y4 y5 y6 HC ho5 hO4 hrw HD hgw
  go_wp2_with fail
  go_loopg [10] P.ps.length (fun fu i wr => ∃ k : Nat, k ≤ P.ps.length ∧ i = .int .i64 k ∧ P.ps.length - k ≤ fu ∧ Only (fun _ => False) w5 wr)
  case atStart => exact ⟨0, Nat.zero_le _, rfl, by omega, Only.refl _ _⟩
  case round =>
    obtain ⟨k, hk, rfl, hfk, ho⟩ := hrel
    obtain ⟨wk, hwk⟩ : ∃ wk : World, wk = wr := ⟨_, rfl⟩
    rw [← hwk] at ho ⊢
    clear hwk wr
    by_cases hlt : k < P.ps.length
    · have hlt' : (k : Int) < P.ps.length := by omega
      have hk0 : (0 : Int) ≤ k := by omega
      have hel : (d.map up).length = P.ps.length := by rw [List.length_map, hdl]
      obtain ⟨vi, hvi⟩ : ∃ vi, o (d.map up) k = vi := ⟨_, rfl⟩
      have gi := o_get (out := d.map up) (i := k) (by omega)
      rw [hvi] at gi
      have HGi := Lib.hid (And.intro hvi gi)
      clear hvi gi
      go_wp2_with fail
      go_loopg [11, 12] P.ps.length (fun fu c i wr => ∃ m : Nat, m ≤ P.ps.length ∧ c = .int .i64 ((lows (d.map up) k m : Nat) : Int) ∧ i = .int .i64 m ∧ P.ps.length - m ≤ fu ∧ Only (fun _ => False) wk wr)
      case atStart => exact ⟨0, Nat.zero_le _, rfl, rfl, by omega, Only.refl _ _⟩
      case round =>
        obtain ⟨m, hm, rfl, rfl, hfm, hom⟩ := hrel
        have hL6 : lows (d.map up) k m ≤ m := by have h1 := List.countP_le_length (p := fun j => decide (o (d.map up) j < o (d.map up) k ∨ (o (d.map up) j = o (d.map up) k ∧ j < k))) (l := List.range m); rw [List.length_range] at h1; exact h1
        by_cases hlm : m < P.ps.length
        · have hlm' : (m : Int) < P.ps.length := by omega
          have hm0 : (0 : Int) ≤ m := by omega
          obtain ⟨vj, hvj⟩ : ∃ vj, o (d.map up) m = vj := ⟨_, rfl⟩
          have gj := o_get (out := d.map up) (i := m) (by omega)
          rw [hvj] at gj
          have ci := (HRw.out.only (ho.trans hom) (by simp)).cell (its_at HGi.out.2)
          have cj := (HRw.out.only (ho.trans hom) (by simp)).cell (its_at gj)
          have hst := lows_step (d.map up) k m
          rw [hvj, HGi.out.1] at hst
          generalize lows (d.map up) k m = A at hst hL6 ⊢
          have hA : (A : Int) ≤ 6 := by omega
          have hA0 : (0 : Int) ≤ A := by omega
          clear gj hvj
          rcases Int.lt_trichotomy vj vi with h1 | h1 | h1
          · rw [if_pos (Or.inl h1)] at hst
            have HSt := Lib.hid hst
            clear hst
            go_wp2_with fail
            refine wp_region_still_tail 24 (by kernel_rfl) (by kernel_rfl) ?_
            simp only [List.take_succ_cons, List.take_zero, List.drop_succ_cons, List.drop_zero]
            repeat (first
              | (with_reducible refine still_skip ?_ ?_
                 · rfl
                 simp only [Act.put, List.setIfInBounds_toArray, List.set_cons_zero, List.set_cons_succ])
              | (with_reducible refine still_do ?_ (fun K hK => ?_)
                 · rfl
                 go_simp
                 with_reducible refine hK _ ?_
                 clear hK K))
            with_reducible refine wpStill_nil ?_
            change wpList _ _ _ _ _ wr.drew
            have hom2 := hom.drew
            clear ci cj hom
            generalize wr.drew = w7 at *
            go_wp2_with fail
            go_roundg (P.ps.length - (m + 1))
            case measure => omega
            case rel => exact ⟨m + 1, by omega, by rw [HSt.out]; go_num, by go_num, Nat.le_refl _, hom2⟩
          · subst h1
            by_cases hmk : m < k
            · have hmk' : (m : Int) < k := by omega
              rw [if_pos (Or.inr ⟨rfl, hmk⟩)] at hst
              have HSt := Lib.hid hst
              clear hst
              go_wp2_with fail
              refine wp_region_still_tail 24 (by kernel_rfl) (by kernel_rfl) ?_
              simp only [List.take_succ_cons, List.take_zero, List.drop_succ_cons, List.drop_zero]
              repeat (first
                | (with_reducible refine still_skip ?_ ?_
                   · rfl
                   simp only [Act.put, List.setIfInBounds_toArray, List.set_cons_zero, List.set_cons_succ])
                | (with_reducible refine still_do ?_ (fun K hK => ?_)
                   · rfl
                   go_simp
                   with_reducible refine hK _ ?_
                   clear hK K))
              with_reducible refine wpStill_nil ?_
              change wpList _ _ _ _ _ wr.drew
              have hom2 := hom.drew
              clear ci cj hom
              generalize wr.drew = w7 at *
              go_wp2_with fail
              go_roundg (P.ps.length - (m + 1))
              case measure => omega
              case rel => exact ⟨m + 1, by omega, by rw [HSt.out]; go_num, by go_num, Nat.le_refl _, hom2⟩
            · have hmk' : ¬ (m : Int) < k := by omega
              rw [if_neg (by omega)] at hst
              have HSt := Lib.hid hst
              clear hst
              go_wp2_with fail
              have hn3 : ¬ (m : Int) < k := by omega
              refine wp_region_still_tail 24 (by kernel_rfl) (by kernel_rfl) ?_
              simp only [List.take_succ_cons, List.take_zero, List.drop_succ_cons, List.drop_zero]
              repeat (first
                | (with_reducible refine still_skip ?_ ?_
                   · rfl
                   simp only [Act.put, List.setIfInBounds_toArray, List.set_cons_zero, List.set_cons_succ])
                | (with_reducible refine still_do ?_ (fun K hK => ?_)
                   · rfl
                   go_simp
                   with_reducible refine hK _ ?_
                   clear hK K))
              with_reducible refine wpStill_nil ?_
              change wpList _ _ _ _ _ wr.drew
              have hom2 := hom.drew
              clear ci cj hom
              generalize wr.drew = w7 at *
              go_wp2_with fail
              go_roundg (P.ps.length - (m + 1))
              case measure => omega
              case rel => exact ⟨m + 1, by omega, by rw [HSt.out]; rfl, by go_num, Nat.le_refl _, hom2⟩
          · have hn1 : ¬ vj < vi := by omega
            have hn2 : vj ≠ vi := by omega
            rw [if_neg (by omega)] at hst
            have HSt := Lib.hid hst
            clear hst
            go_wp2_with fail
            have hn3 : ¬ vj < vi := by omega
            have hn4 : (vj == vi) = false := by simpa using hn2
            refine wp_region_still_tail 24 (by kernel_rfl) (by kernel_rfl) ?_
            simp only [List.take_succ_cons, List.take_zero, List.drop_succ_cons, List.drop_zero]
            repeat (first
              | (with_reducible refine still_skip ?_ ?_
                 · rfl
                 simp only [Act.put, List.setIfInBounds_toArray, List.set_cons_zero, List.set_cons_succ])
              | (with_reducible refine still_do ?_ (fun K hK => ?_)
                 · rfl
                 go_simp
                 with_reducible refine hK _ ?_
                 clear hK K))
            with_reducible refine wpStill_nil ?_
            change wpList _ _ _ _ _ wr.drew
            have hom2 := hom.drew
            clear ci cj hom
            generalize wr.drew = w7 at *
            go_wp2_with fail
            go_roundg (P.ps.length - (m + 1))
            case measure => omega
            case rel => exact ⟨m + 1, by omega, by rw [HSt.out]; rfl, by go_num, Nat.le_refl _, hom2⟩
        · have hmn : m = P.ps.length := by omega
          have hoA := ho.trans hom
          have ci := (HRw.out.only hoA (by simp)).cell (its_at HGi.out.2)
          have hhl := HHt.out.len
          have hhv : o ht k = hOf d k := HHt.out.eq (by omega)
          have ch := (HRd.out.only hoA (by simp)).cell (its_at (o_get (out := ht) (i := k) (by omega)))
          rw [hhv] at ch
          have hup := o_up (d := d) (i := k) (by omega)
          rw [HGi.out.1] at hup
          have hlq := lows_eq (d := d) (fun i => by have := hhigh i; omega) (i := k) (by omega)
          rw [hdl, ← hmn] at hlq
          generalize lows (d.map up) k m = A at hlq ⊢
          by_cases hneg : o d k < 0
          · have h99 : vi = 99 := by rw [hup]; unfold up; rw [if_pos hneg]
            have hm1 : hOf d k = -1 := by unfold hOf; rw [if_pos hneg]
            rw [hm1] at ch
            subst h99
            clear hlq hhv hup hm1 hneg
            go_wp2_with fail
            go_roundg (P.ps.length - (k + 1))
            case measure => omega
            case rel => exact ⟨k + 1, by omega, by go_num, Nat.le_refl _, hoA⟩
          · have h99 : vi ≠ 99 := by rw [hup]; unfold up; rw [if_neg hneg]; have := hhigh k; omega
            have hq := hlq (by omega)
            rw [← hq] at ch
            clear hlq hhv hup hneg hq
            go_wp2_with fail
            go_roundg (P.ps.length - (k + 1))
            case measure => omega
            case rel => exact ⟨k + 1, by omega, by go_num, Nat.le_refl _, hoA⟩
    · have hk' : k = P.ps.length := by omega
      subst hk'
      have HL := Lib.hid (lives_ok wk)
      have hOA := HO2.out.trans (hO5.trans ho)
      go_wp2_with fail
      refine HL.out.mono ?_
      rintro e w8 ⟨ho8, rfl⟩
      go_wp2_with fail
      go_ret
      exact ⟨hOA.trans ho8, rfl⟩

end Go.Proofs.Ytpfcoeenblmifaa
