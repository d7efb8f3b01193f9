/-
  Plans: Hold.
-/
import Derived.Test.YtpfcoeenblmifaaPS
namespace Go.Proofs.Ytpfcoeenblmifaa
open Go.RowKit Go.PC

set_option maxHeartbeats 4000000 in
set_option maxRecDepth 100000 in
theorem Hold_ok (pa la : Option Addr) (pc lc : Nat) (P : Pn) (src tgt : Int) (w : World) (h : Small pa la P w) (hsrc : hasCode P.ps src = true) (hto : hasCode P.ps tgt = true) :
    Calls Try.prog 18 #[planV pa la pc lc P, .int .u16 src, .int .u16 tgt] w fun e w' =>
      Only (fun _ => False) w w' ∧ ∃ r er d, e = .returned (.tuple #[.int .i64 r, .int .i64 er]) ∧ Dist P.ps.length (idxOf P.ps tgt) (passP P (idxOf P.ps tgt)) (adjP P) d ∧
        ((hOf d (idxOf P.ps src) < 0 ∧ r = 0 ∧ er = 11) ∨ (0 ≤ hOf d (idxOf P.ps src) ∧ r = (hOf d (idxOf P.ps src) + 1) * baseV P ∧ er = 0)) := by
  have HK := Lib.hid (fun wx ho b hb hb1 => known2 pa la pc lc P w wx h ho src tgt hsrc hto b hb hb1)
  have HF := Lib.hid (fun (wx : World) (hx : Only (fun _ => False) w wx) => hsrc ▸ find_any pa P.ps pc (.slice la P.ls.length lc) (.int .i64 P.rate) (.int .i64 P.room) (.int .i64 P.m0) (.int .i64 P.m1) (.int .i64 P.m2) src wx (h.rp.keep hx) h.ok.asc (by have := h.n; omega))
  have HD := Lib.hid (fun wx (ho : Only (fun _ => False) w wx) => distances_ok pa la pc lc P tgt wx (h.rp.keep ho) (h.rl.keep ho) h.ok h.n h.m hto)
  have HBs := Lib.hid (fun wx (ho : Only (fun _ => False) w wx) => Base_ok pa la pc lc P wx (h.keep ho))
  have hbb := baseV_bound h
  have hn12 := h.n
  have hn1 : 1 ≤ P.ps.length := List.length_pos_iff.2 h.ok.ne
  obtain ⟨ts, hsi⟩ := has_at h.ok.asc hsrc
  have hsl := (List.getElem?_eq_some_iff.1 hsi).1
  obtain ⟨i, hiI⟩ : ∃ i, idxOf P.ps src = i := ⟨_, rfl⟩
  rw [hiI] at hsl HF ⊢
  have hO0 := (Only.refl (fun _ => False) w).alloc (planB pa la pc lc P)
  have Hbox := Lib.hid (World.cell?_alloc_new w #[.slice pa P.ps.length pc, .slice la P.ls.length lc, .int .i64 P.rate, .int .i64 P.room, .int .i64 P.m0, .int .i64 P.m1, .int .i64 P.m2] 31)
  clear h hsrc hto hsi hiI
  unfold planV at HK HD HBs ⊢
  unfold planB at hO0
  go_enter Try.func18, Try.ntmps18
  go_upto_region 1 with fail
  generalize hW : w.alloc (.cells #[.slice pa P.ps.length pc, .slice la P.ls.length lc, .int .i64 P.rate, .int .i64 P.room, .int .i64 P.m0, .int .i64 P.m1, .int .i64 P.m2] 31) = w0 at hO0 Hbox ⊢
  clear hW
  obtain ⟨B, hB⟩ : ∃ B, w.heap.size = B := ⟨_, rfl⟩
  rw [hB] at Hbox
  simp only [hB]
  have HB := Lib.hid hB
  clear hB
  obtain ⟨y0, y1, y2, y3, y4, y5, y6⟩ := relay Hbox (Only.refl _ w0)
  have hO1 := hO0.alloc (.cells #[.int .u16 src, .int .u16 tgt] 34)
  have hN1 := (Only.refl (fun _ => False) w0).alloc (.cells #[.int .u16 src, .int .u16 tgt] 34)
  have HK1 := Lib.hid (HK.out _ hO1 w0.heap.size (World.cell?_alloc_new w0 #[.int .u16 src, .int .u16 tgt] 34 0) (World.cell?_alloc_new w0 #[.int .u16 src, .int .u16 tgt] 34 1))
  go_wp2_with fail
  refine HK1.out.mono ?_
  rintro e w1 ⟨rfl, ho1⟩
  have hO2 := hO1.trans ho1
  have hN2 := hN1.trans ho1
  clear y0 y1 y2 y3 y4 y5 y6 HK1 HK hO1 hN1 ho1
  obtain ⟨y0, y1, y2, y3, y4, y5, y6⟩ := relay Hbox hN2
  have HF1 := Lib.hid (HF.out _ hO2)
  go_wp2_with fail
  refine HF1.out.mono ?_
  rintro e w2 ⟨rfl, ho2⟩
  have hO3 := hO2.trans ho2
  have hN3 := hN2.trans ho2
  clear y0 y1 y2 y3 y4 y5 y6 HF1 HF hO2 hN2 ho2
  obtain ⟨y0, y1, y2, y3, y4, y5, y6⟩ := relay Hbox hN3
  have HD1 := Lib.hid (HD.out _ hO3)
  go_wp2_with fail
  refine HD1.out.mono ?_
  rintro e w3 ⟨ho3, g, d, rfl, hg, hrow, hd⟩
  have hO4 := hO3.trans ho3
  have hN4 := hN3.trans ho3
  have HH := Lib.hid (heights_ok g d P.ps.length P.ps.length P.ps.length hd.len hn1 hn12 w3 hrow (ways_ne hd))
  have HDi := Lib.hid hd
  clear y0 y1 y2 y3 y4 y5 y6 hg hrow hd HD1 HD hO3 hN3 ho3
  go_wp2_with fail
  refine HH.out.mono ?_
  rintro e w4 ⟨ho4, g4, ht, rfl, hg4, hrow4, hts⟩
  have hO5 := hO4.trans ho4
  have hN5 := hN4.trans ho4
  have hil : (i : Int) < (P.ps.length : Int) := by omega
  have hdl := HDi.out.len
  have hhl := hts.len
  have c0 := hrow4.cell (its_at (o_get (out := ht) (i := i) (by omega)))
  rw [hts.eq (by omega)] at c0
  have hhb : hOf d i ≤ 12 := by
    unfold hOf
    split
    · omega
    · have := List.countP_le_length (p := fun k => decide (0 ≤ o d k ∧ (o d k < o d i ∨ (o d k = o d i ∧ k < i)))) (l := List.range d.length)
      rw [List.length_range] at this
      omega
  obtain ⟨hv, hhv⟩ : ∃ hv, hOf d i = hv := ⟨_, rfl⟩
  rw [hhv] at c0 hhb
  have HHv := Lib.hid hhv
  obtain ⟨y0, y1, y2, y3, y4, y5, y6⟩ := relay Hbox hN5
  clear hhv hdl hhl hts hrow4 hg4 HH hO4 hN4 ho4
  by_cases hneg : hv < 0
  · go_wp2_with fail
    go_ret2
    exact ⟨hO5, 0, 11, d, rfl, HDi.out, Or.inl ⟨by rw [HHv.out]; exact hneg, rfl, rfl⟩⟩
  · have HB1 := Lib.hid (HBs.out _ hO5)
    go_wp2_with fail
    refine HB1.out.mono ?_
    rintro e w6 ⟨ho6, rfl⟩
    have hO6 := hO5.trans ho6
    obtain ⟨h1, hh1⟩ : ∃ h1, hv + 1 = h1 := ⟨_, rfl⟩
    have HH1 := Lib.hid hh1
    generalize hbv : baseV P = bv at *
    have HBv := Lib.hid hbv
    have hw1 : IntKind.i64.wrap (hv + 1) = h1 := by rw [IntWalk.i64_in _ (by omega)]; exact hh1
    have hw4 : IntKind.i64.wrap (h1 * bv) = h1 * bv := IntWalk.i64_in _ (by
      have h2 : 0 ≤ h1 * bv := Int.mul_nonneg (by omega) (by omega)
      have h3 : h1 * bv ≤ 13 * 6192 := Int.mul_le_mul (by omega) (by omega) (by omega) (by omega)
      omega)
    have Hnn := Lib.hid (p := 0 ≤ hv) (by omega)
    clear y0 y1 y2 y3 y4 y5 y6 hh1 hbv HB1 HBs hbb hneg hhb
    go_wp2_with fail
    go_ret2
    exact ⟨hO6, h1 * bv, 0, d, rfl, HDi.out, Or.inr ⟨by rw [HHv.out]; exact Hnn.out, by rw [HHv.out, HH1.out, HBv.out], rfl⟩⟩

end Go.Proofs.Ytpfcoeenblmifaa
