/-
  Plans: Distances, Heights, Base, Gap.
-/
import Derived.Test.YtpfcoeenblmifaaPQ
namespace Go.Proofs.Ytpfcoeenblmifaa
open Go.RowKit Go.PC

/-- A plan of at most 12 places and 12 lines lies in a world. -/
structure Small (pa la : Option Addr) (P : Pn) (w : World) : Prop where
  rp : RdP w pa P.ps
  rl : RdL w la P.ls
  ok : PlanOK P
  n : P.ps.length ≤ 12
  m : P.ls.length ≤ 12

theorem Small.keep {pa la : Option Addr} {P : Pn} {w w' : World} (h : Small pa la P w) (ho : Only (fun _ => False) w w') : Small pa la P w' := ⟨h.rp.keep ho, h.rl.keep ho, h.ok, h.n, h.m⟩

theorem relay {w0 wx : World} {B : Nat} {v0 v1 v2 v3 v4 v5 v6 : Value} (h : Hid (∀ i, w0.cell? ⟨B, i, none⟩ = (#[v0, v1, v2, v3, v4, v5, v6] : Array Value)[i]?)) (ho : Only (fun _ => False) w0 wx) :
    wx.cell? ⟨B, 0, none⟩ = some v0 ∧ wx.cell? ⟨B, 1, none⟩ = some v1 ∧ wx.cell? ⟨B, 2, none⟩ = some v2 ∧ wx.cell? ⟨B, 3, none⟩ = some v3 ∧ wx.cell? ⟨B, 4, none⟩ = some v4 ∧ wx.cell? ⟨B, 5, none⟩ = some v5 ∧ wx.cell? ⟨B, 6, none⟩ = some v6 :=
  ⟨ho.cell (h.out 0) (by simp), ho.cell (h.out 1) (by simp), ho.cell (h.out 2) (by simp), ho.cell (h.out 3) (by simp), ho.cell (h.out 4) (by simp), ho.cell (h.out 5) (by simp), ho.cell (h.out 6) (by simp)⟩

/-- The box of a plan. -/
abbrev planB (pa la : Option Addr) (pc lc : Nat) (P : Pn) : Obj := .cells #[.slice pa P.ps.length pc, .slice la P.ls.length lc, .int .i64 P.rate, .int .i64 P.room, .int .i64 P.m0, .int .i64 P.m1, .int .i64 P.m2] 31

theorem known1 (pa la : Option Addr) (pc lc : Nat) (P : Pn) (w wx : World) (h : Small pa la P w) (ho : Only (fun _ => False) w wx) (z : Int) (hz : hasCode P.ps z = true) (b : Nat) (hb : wx.cell? ⟨b, 0, none⟩ = some (.int .u16 z)) :
    Calls Try.prog 23 #[planV pa la pc lc P, .slice (some ⟨b, 0, none⟩) 1 1] wx fun e w' => e = .returned (.int .i64 0) ∧ Only (fun _ => False) wx w' :=
  known_ok pa la pc lc P (some ⟨b, 0, none⟩) [z] 1 wx (h.rp.keep ho) (h.rl.keep ho) h.ok (Or.inr ⟨b, 0, rfl, fun i y hy => by
    match i, hy with
    | 0, hy => simp at hy; subst hy; exact hb⟩) (by simp) (by simpa using hz)

theorem known2 (pa la : Option Addr) (pc lc : Nat) (P : Pn) (w wx : World) (h : Small pa la P w) (ho : Only (fun _ => False) w wx) (y z : Int) (hy : hasCode P.ps y = true) (hz : hasCode P.ps z = true) (b : Nat) (hb : wx.cell? ⟨b, 0, none⟩ = some (.int .u16 y)) (hb1 : wx.cell? ⟨b, 1, none⟩ = some (.int .u16 z)) :
    Calls Try.prog 23 #[planV pa la pc lc P, .slice (some ⟨b, 0, none⟩) 2 2] wx fun e w' => e = .returned (.int .i64 0) ∧ Only (fun _ => False) wx w' :=
  known_ok pa la pc lc P (some ⟨b, 0, none⟩) [y, z] 2 wx (h.rp.keep ho) (h.rl.keep ho) h.ok (Or.inr ⟨b, 0, rfl, fun i x hx => by
    match i, hx with
    | 0, hx => simp at hx; subst hx; exact hb
    | 1, hx => simp at hx; subst hx; exact hb1⟩) (by simp) (by simp [hy, hz])

set_option maxHeartbeats 4000000 in
set_option maxRecDepth 100000 in
theorem Distances_ok (pa la : Option Addr) (pc lc : Nat) (P : Pn) (tgt : Int) (w : World) (h : Small pa la P w) (hto : hasCode P.ps tgt = true) :
    Calls Try.prog 10 #[planV pa la pc lc P, .int .u16 tgt] w fun e w' =>
      Only (fun _ => False) w w' ∧ ∃ g out, e = .returned (.tuple #[.slice (some ⟨g, 0, none⟩) P.ps.length P.ps.length, .int .i64 0]) ∧ w.heap.size ≤ g ∧ Row w' g 3 P.ps.length (its out) ∧
        Dist P.ps.length (idxOf P.ps tgt) (passP P (idxOf P.ps tgt)) (adjP P) out := by
  have HK := Lib.hid (fun wx ho b hb => known1 pa la pc lc P w wx h ho tgt hto b hb)
  have HD := Lib.hid (fun wx (ho : Only (fun _ => False) w wx) => distances_ok pa la pc lc P tgt wx (h.rp.keep ho) (h.rl.keep ho) h.ok h.n h.m hto)
  have hO0 := (Only.refl (fun _ => False) w).alloc (planB pa la pc lc P)
  have Hbox := Lib.hid (World.cell?_alloc_new w #[.slice pa P.ps.length pc, .slice la P.ls.length lc, .int .i64 P.rate, .int .i64 P.room, .int .i64 P.m0, .int .i64 P.m1, .int .i64 P.m2] 31)
  clear h hto
  unfold planV at HK HD ⊢
  unfold planB at hO0
  go_enter Try.func10, Try.ntmps10
  go_upto_region 1 with fail
  generalize hW : w.alloc (.cells #[.slice pa P.ps.length pc, .slice la P.ls.length lc, .int .i64 P.rate, .int .i64 P.room, .int .i64 P.m0, .int .i64 P.m1, .int .i64 P.m2] 31) = w0 at hO0 Hbox ⊢
  clear hW
  obtain ⟨B, hB⟩ : ∃ B, w.heap.size = B := ⟨_, rfl⟩
  rw [hB] at Hbox
  simp only [hB]
  have HB := Lib.hid hB
  clear hB
  obtain ⟨y0, y1, y2, y3, y4, y5, y6⟩ := relay Hbox (Only.refl _ w0)
  have hO1 := hO0.alloc (.cells #[.int .u16 tgt] 34)
  have hN1 := (Only.refl (fun _ => False) w0).alloc (.cells #[.int .u16 tgt] 34)
  have HK1 := Lib.hid (HK.out _ hO1 w0.heap.size (World.cell?_alloc_new w0 #[.int .u16 tgt] 34 0))
  go_wp2_with fail
  refine HK1.out.mono ?_
  rintro e w1 ⟨rfl, ho1⟩
  have hO2 := hO1.trans ho1
  clear y0 y1 y2 y3 y4 y5 y6
  obtain ⟨y0, y1, y2, y3, y4, y5, y6⟩ := relay Hbox (hN1.trans ho1)
  have HD1 := Lib.hid (HD.out _ hO2)
  clear HK1 HK hO1 hN1 ho1
  go_wp2_with fail
  refine HD1.out.mono ?_
  rintro e w2 ⟨ho2, g, out, rfl, hg, hrow, hd⟩
  have hF := Lib.hid (And.intro hg (And.intro hrow hd))
  clear y0 y1 y2 y3 y4 y5 y6 hg hrow hd HD1 HD
  go_wp2_with fail
  go_ret2
  have hs := hO2.size
  have hB := HB.out
  exact ⟨hO2.trans ho2, g, out, rfl, by have := hF.out.1; omega, hF.out.2.1, hF.out.2.2⟩

theorem ways_ne {n src : Nat} {pass : Nat → Prop} {adj : Nat → Nat → Prop} {d : List Int} (h : Dist n src pass adj d) : ways d ≠ [] := by
  have h0 : 0 ≤ o d src := by rw [h.src0]; omega
  exact List.ne_nil_of_mem (ways_mem.2 ⟨o_lt h0, h0⟩)

set_option maxHeartbeats 4000000 in
set_option maxRecDepth 100000 in
theorem Heights_ok (pa la : Option Addr) (pc lc : Nat) (P : Pn) (tgt : Int) (w : World) (h : Small pa la P w) (hto : hasCode P.ps tgt = true) :
    Calls Try.prog 13 #[planV pa la pc lc P, .int .u16 tgt] w fun e w' =>
      Only (fun _ => False) w w' ∧ ∃ g out ht, e = .returned (.tuple #[.slice (some ⟨g, 0, none⟩) P.ps.length P.ps.length, .int .i64 0]) ∧ w.heap.size ≤ g ∧ Row w' g 3 P.ps.length (its ht) ∧
        Dist P.ps.length (idxOf P.ps tgt) (passP P (idxOf P.ps tgt)) (adjP P) out ∧ Hts out ht := by
  have HK := Lib.hid (fun wx ho b hb => known1 pa la pc lc P w wx h ho tgt hto b hb)
  have HD := Lib.hid (fun wx (ho : Only (fun _ => False) w wx) => distances_ok pa la pc lc P tgt wx (h.rp.keep ho) (h.rl.keep ho) h.ok h.n h.m hto)
  have hO0 := (Only.refl (fun _ => False) w).alloc (planB pa la pc lc P)
  have Hbox := Lib.hid (World.cell?_alloc_new w #[.slice pa P.ps.length pc, .slice la P.ls.length lc, .int .i64 P.rate, .int .i64 P.room, .int .i64 P.m0, .int .i64 P.m1, .int .i64 P.m2] 31)
  have hn12 := h.n
  have hn1 : 1 ≤ P.ps.length := List.length_pos_iff.2 h.ok.ne
  clear h hto
  unfold planV at HK HD ⊢
  unfold planB at hO0
  go_enter Try.func13, Try.ntmps13
  go_upto_region 1 with fail
  generalize hW : w.alloc (.cells #[.slice pa P.ps.length pc, .slice la P.ls.length lc, .int .i64 P.rate, .int .i64 P.room, .int .i64 P.m0, .int .i64 P.m1, .int .i64 P.m2] 31) = w0 at hO0 Hbox ⊢
  clear hW
  obtain ⟨B, hB⟩ : ∃ B, w.heap.size = B := ⟨_, rfl⟩
  rw [hB] at Hbox
  simp only [hB]
  have HB := Lib.hid hB
  clear hB
  obtain ⟨y0, y1, y2, y3, y4, y5, y6⟩ := relay Hbox (Only.refl _ w0)
  have hO1 := hO0.alloc (.cells #[.int .u16 tgt] 34)
  have hN1 := (Only.refl (fun _ => False) w0).alloc (.cells #[.int .u16 tgt] 34)
  have HK1 := Lib.hid (HK.out _ hO1 w0.heap.size (World.cell?_alloc_new w0 #[.int .u16 tgt] 34 0))
  go_wp2_with fail
  refine HK1.out.mono ?_
  rintro e w1 ⟨rfl, ho1⟩
  have hO2 := hO1.trans ho1
  clear y0 y1 y2 y3 y4 y5 y6
  obtain ⟨y0, y1, y2, y3, y4, y5, y6⟩ := relay Hbox (hN1.trans ho1)
  have HD1 := Lib.hid (HD.out _ hO2)
  clear HK1 HK hO1 hN1 ho1
  go_wp2_with fail
  refine HD1.out.mono ?_
  rintro e w2 ⟨ho2, g, out, rfl, hg, hrow, hd⟩
  have HH := Lib.hid (heights_ok g out P.ps.length P.ps.length P.ps.length hd.len hn1 hn12 w2 hrow (ways_ne hd))
  have HF := Lib.hid (And.intro hg hd)
  clear y0 y1 y2 y3 y4 y5 y6 hg hrow hd HD1 HD
  go_wp2_with fail
  refine HH.out.mono ?_
  rintro e w3 ⟨ho3, g3, ht, rfl, hg3, hrow3, hts⟩
  have HF3 := Lib.hid (And.intro hg3 (And.intro hrow3 hts))
  clear hg3 hrow3 hts HH
  go_wp2_with fail
  go_ret2
  have hs := (hO2.trans ho2).size
  have hB := HB.out
  exact ⟨(hO2.trans ho2).trans ho3, g3, out, ht, rfl, by have := HF3.out.1; omega, HF3.out.2.1, HF.out.2, HF3.out.2.2⟩

end Go.Proofs.Ytpfcoeenblmifaa
