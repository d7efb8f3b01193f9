/-
  Plans: the neighbors of a place.
-/
import Derived.Test.YtpfcoeenblmifaaPF
import Derived.Test.YtpfcoeenblmifaaPI
import Derived.Maps.AppendAt
namespace Go.Proofs.Ytpfcoeenblmifaa
open Go.RowKit Go.PC

/-- The other ends of the lines at a place, line by line. -/
def othersOf (ls : List Ln) (p : Int) : List Int := ls.filterMap fun l => if l.a = p then some l.b else if l.b = p then some l.a else none

theorem othersOf_step {ls : List Ln} {p : Int} {k : Nat} {l : Ln} (h : ls[k]? = some l) : othersOf (ls.take (k + 1)) p = othersOf (ls.take k) p ++ (if l.a = p then [l.b] else if l.b = p then [l.a] else []) := by
  unfold othersOf
  rw [List.take_add_one, h, Option.toList_some, List.filterMap_append]
  congr 1
  by_cases h1 : l.a = p
  · simp [h1]
  · by_cases h2 : l.b = p
    · simp [h1, h2]
    · simp [h1, h2]

theorem othersOf_length (ls : List Ln) (p : Int) : (othersOf ls p).length ≤ ls.length := List.length_filterMap_le _ _

theorem infoPoint : (Try.prog.info? 34).map (fun i => (i.zero, i.size, i.bytes)) = some (some (.int .u16 0), 1, 2) := by kernel_rfl

/-- A row of codes that a call has made. -/
def NbR (base : Nat) (w : World) (v : Value) (nb : List Int) : Prop := ∃ a, v = .slice a nb.length nb.length ∧ ((a = none ∧ nb = []) ∨ ∃ g cap, a = some ⟨g, 0, none⟩ ∧ base ≤ g ∧ Row w g 34 cap (pts nb))

set_option maxHeartbeats 4000000 in
set_option maxRecDepth 100000 in
theorem neighbors_ok (pa la : Option Addr) (pc lc : Nat) (P : Pn) (at' : Int) (w : World) (hl : RdL w la P.ls) (hnl : P.ls.length ≤ 12) (hab : ∀ l ∈ P.ls, l.a ≠ l.b) :
    Calls Try.prog 29 #[planV pa la pc lc P, .int .u16 at'] w fun e w' =>
      Only (fun _ => False) w w' ∧ ∃ v nb, e = .returned v ∧ NbR w.heap.size w' v nb ∧ nb.Pairwise (fun x y => x < y) ∧ (∀ z, z ∈ nb ↔ z ∈ othersOf P.ls at') ∧ nb.length ≤ P.ls.length := by
  have HL := Lib.hid hl
  have HAB := Lib.hid hab
  clear hl hab
  obtain ⟨ps, ls, rate, room, m0, m1, m2⟩ := P
  obtain ⟨i0, hi, hz0i, hz1i, hz2i⟩ := info_parts infoPoint
  unfold planV
  simp only at HL HAB hnl ⊢
  have hO0 := (Only.refl (fun _ => False) w).alloc (.cells #[.slice pa ps.length pc, .slice la ls.length lc, .int .i64 rate, .int .i64 room, .int .i64 m0, .int .i64 m1, .int .i64 m2] 31)
  have hbox := World.cell?_alloc_new w #[.slice pa ps.length pc, .slice la ls.length lc, .int .i64 rate, .int .i64 room, .int .i64 m0, .int .i64 m1, .int .i64 m2] 31
  have Hbox := Lib.hid hbox
  clear hbox
  go_enter Try.func29, Try.ntmps29
  go_wp2_with fail
  generalize hW : w.alloc (.cells #[.slice pa ps.length pc, .slice la ls.length lc, .int .i64 rate, .int .i64 room, .int .i64 m0, .int .i64 m1, .int .i64 m2] 31) = w1 at hO0 Hbox ⊢
  have hws := hO0.size
  clear hW
  obtain ⟨B, hB⟩ : ∃ B, w.heap.size = B := ⟨_, rfl⟩
  rw [hB] at Hbox
  simp only [hB]
  have HB := Lib.hid (And.intro hB hws)
  clear hB hws
  go_loopw [5, 13] (fun v i wr => ∃ k n : Nat, k ≤ ls.length ∧ i = .int .i64 k ∧ n ≤ k ∧ Hid (wr.ownsRow w1.heap.size 34 1 v n (pts (othersOf (ls.take k) at'))) ∧ Only (fun _ => False) w1 wr)
    (fun _ i _ => ls.length - (intOf i).toNat)
  case atStart => exact ⟨0, 0, Nat.zero_le _, rfl, Nat.le_refl _, Lib.hid (World.ownsRow_nil _ _ _ _), Only.refl _ _⟩
  case round =>
    obtain ⟨k, n, hk, rfl, hnk, HOwn, ho⟩ := hrel
    have hOo := hO0.trans ho
    by_cases hlt : k < ls.length
    · have hlt' : (k : Int) < (ls.length : Int) := by omega
      obtain ⟨b, off, ha, hcell⟩ := HL.out.resolve_left (fun he => by rw [he] at hlt; cases hlt)
      subst ha
      obtain ⟨⟨xa, xb, xc, xd⟩, hq⟩ : ∃ l, ls[k]? = some l := ⟨_, List.getElem?_eq_getElem hlt⟩
      obtain ⟨c0, c1, c2, c3⟩ := hcell k _ hq
      have hab := HAB.out _ (List.mem_of_getElem? hq)
      have HS := Lib.hid (othersOf_step (p := at') hq)
      have c0 := hOo.cell c0 (by simp)
      have c1 := hOo.cell c1 (by simp)
      have c2 := hOo.cell c2 (by simp)
      have c3 := hOo.cell c3 (by simp)
      simp only at c0 c1 c2 c3 hab
      have hb : b < wr.heap.size := lt_of_cell c0
      by_cases hat : xa = at' ∨ xb = at'
      · obtain ⟨z, hz⟩ : ∃ z, z = (if xa = at' then xb else if xb = at' then xa else 0) := ⟨_, rfl⟩
        have Hoth := Lib.hid (fun wx => (show decide (xa = at' ∨ xb = at') = true by simpa using hat) ▸ hz ▸ other_any xa xb xc at' wx hab)
        have HS' := Lib.hid (p := othersOf (ls.take (k + 1)) at' = othersOf (ls.take k) at' ++ [z]) (by
          rw [HS.out]
          congr 1
          subst hz
          simp only
          by_cases h1 : xa = at'
          · simp [h1]
          · have h2 := hat.resolve_left h1
            simp [h1, h2])
        clear hcell hq hab hat hz HS
        go_wp2_with fail
        refine (Hoth.out _).mono ?_
        rintro e w2 ⟨rfl, ho2⟩
        have hoN := (ho.alloc (.cells #[.int .u16 xa, .int .u16 xb, .int .u8 xc, .int .i64 xd] 57)).trans ho2
        have hN := ((Only.refl (fun _ => False) wr).alloc (.cells #[.int .u16 xa, .int .u16 xb, .int .u8 xc, .int .i64 xd] 57)).trans ho2
        have hown : w2.ownsRow w1.heap.size 34 1 u5 n (pts (othersOf (ls.take k) at')) := HOwn.out.kept (row := none) ⟨hN.os, hN.tape, hN.output, hN.size, fun i hi _ => hN.block i hi (by simp)⟩ (by cases u5.ownBlock <;> simp)
        have hsz := hoN.size
        clear c0 c1 c2 c3 hb ho2 ho hN HOwn Hoth hOo
        go_wp2_with (first
          | (at_builtin; refine wpList_append_own _ rfl _ _ 61 rfl w1.heap.size 34 i0 (.int .u16 0) 1 2 Try.underlying61 hi hz0i hz1i hz2i rfl (by decide) _ _ _ rfl (hown.alloc _) ⟨w2.heap.size, 0, none⟩ 1 1 [.int .u16 z] rfl rfl (cell_one_new _ _ _) (ints_oneCell .u16 [z]) (by unfold maxLen; omega) (by omega) (by simp; omega) ?_; intro v' w3 hown' hgrow _)
          | fail)
        go_roundw
        case rel =>
          refine ⟨k + 1, n + 1, by omega, by go_num, by omega, Lib.hid (by rw [HS'.out]; simpa [pts] using hown'), (hoN.alloc _).andThen (Only.of_grownBy hgrow) ?_⟩
          intro i hi h
          have := (hown.lt i h.symm).1
          omega
        case measure => simp [intOf]; omega
      · have Hoth := Lib.hid (fun wx => (show decide (xa = at' ∨ xb = at') = false by simpa using hat) ▸ other_any xa xb xc at' wx hab)
        have HS' := Lib.hid (p := othersOf (ls.take (k + 1)) at' = othersOf (ls.take k) at') (by
          have h1 : xa ≠ at' := fun h => hat (Or.inl h)
          have h2 : xb ≠ at' := fun h => hat (Or.inr h)
          rw [HS.out]
          simp [h1, h2])
        clear hcell hq hab hat HS
        go_wp2_with fail
        refine (Hoth.out _).mono ?_
        rintro e w2 ⟨rfl, ho2⟩
        have hoN := (ho.alloc (.cells #[.int .u16 xa, .int .u16 xb, .int .u8 xc, .int .i64 xd] 57)).trans ho2
        have hN := ((Only.refl (fun _ => False) wr).alloc (.cells #[.int .u16 xa, .int .u16 xb, .int .u8 xc, .int .i64 xd] 57)).trans ho2
        have hown : w2.ownsRow w1.heap.size 34 1 u5 n (pts (othersOf (ls.take k) at')) := HOwn.out.kept (row := none) ⟨hN.os, hN.tape, hN.output, hN.size, fun i hi _ => hN.block i hi (by simp)⟩ (by cases u5.ownBlock <;> simp)
        clear c0 c1 c2 c3 hb ho2 ho hN HOwn Hoth hOo
        go_wp2_with fail
        go_roundw
        case rel => exact ⟨k + 1, n, by omega, by go_num, by omega, Lib.hid (by rw [HS'.out]; exact hown), hoN⟩
        case measure => simp [intOf]; omega
    · have hk' : k = ls.length := by omega
      subst hk'
      rw [List.take_length] at HOwn
      have hlo := othersOf_length ls at'
      have hOwn := HOwn.out
      have hno : n = (othersOf ls at').length := by have := hOwn.1; simp at this; omega
      subst hno
      have hsort := sort_points w1.heap.size _ u5 (othersOf ls at') wr hOwn (by omega)
      have HSort := Lib.hid hsort
      have HLt := Lib.hid hOwn.lt
      clear hsort hOwn HOwn HL HAB Hbox
      go_wp2_with fail
      refine HSort.out.mono ?_
      rintro e w2 ⟨rfl, ho2, ys, hys, hown2⟩
      have hle : ys.Pairwise fun x y => x ≤ y := hys.2.imp (fun {x y} h => by unfold Bef at h; simp only [id] at h; omega)
      have hlen := hys.length
      rw [← hlen] at hown2
      have hcomp := compact_own w1.heap.size _ u5 ys w2 hown2 hle (by omega)
      have hmem := hys.1
      have HC := Lib.hid hcomp
      have HM := Lib.hid hmem
      have HO2 := Lib.hid ho2
      clear hcomp hmem hown2 hle hys HSort ho2
      go_wp2_with fail
      refine HC.out.mono ?_
      rintro e w3 ⟨v2, A, rfl, ho3, ha, hm, hAl, hown3⟩
      have hclip := clip_points w1.heap.size _ v2 (pts A) w3 hown3
      have HClip := Lib.hid hclip
      have HA := Lib.hid (And.intro ha hm)
      have HAl := Lib.hid (p := A.length ≤ ls.length) (by omega)
      have HO3 := Lib.hid ho3
      clear hclip ha hm hown3 HC ho3 hAl
      go_wp2_with fail
      refine HClip.out.mono ?_
      rintro e w4 ⟨a, rfl, rfl, hA⟩
      have HA2 := Lib.hid hA
      clear hA HClip
      go_wp2_with fail
      go_ret
      have hb1 := HB.out
      have hno : ∀ i, i < w1.heap.size → ¬ some i = u5.ownBlock := fun i hi h => by have := (HLt.out i h.symm).1; omega
      have hw1r := ho.size
      have hoA : Only (fun _ => False) w1 w4 := (ho.andThen HO2.out (fun i hi h => hno i hi h)).andThen HO3.out (fun i hi h => hno i hi h)
      refine ⟨hO0.trans hoA, _, A, rfl, ⟨a, rfl, ?_⟩, HA.out.1, fun z => (HA.out.2 z).trans HM.out.mem_iff, HAl.out⟩
      rcases HA2.out with ⟨h1, h2⟩ | ⟨g, h1, h2, cap, h3⟩
      · exact Or.inl ⟨h1, by simpa [pts] using h2⟩
      · exact Or.inr ⟨g, cap, h1, by omega, h3⟩

end Go.Proofs.Ytpfcoeenblmifaa
