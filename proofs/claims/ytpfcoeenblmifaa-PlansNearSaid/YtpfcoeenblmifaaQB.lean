/-
  Plans: Neighbors.
-/
import Derived.Test.YtpfcoeenblmifaaPR
namespace Go.Proofs.Ytpfcoeenblmifaa
open Go.RowKit Go.PC

set_option maxHeartbeats 4000000 in
set_option maxRecDepth 100000 in
theorem Neighbors_ok (pa la : Option Addr) (pc lc : Nat) (P : Pn) (tgt : Int) (w : World) (h : Small pa la P w) (hto : hasCode P.ps tgt = true) :
    Calls Try.prog 20 #[planV pa la pc lc P, .int .u16 tgt] w fun e w' =>
      Only (fun _ => False) w w' ∧ ∃ v nb, e = .returned (.tuple #[v, .int .i64 0]) ∧ NbR w.heap.size w' v nb ∧ nb.Pairwise (fun x y => x < y) ∧ (∀ z, z ∈ nb ↔ z ∈ othersOf P.ls tgt) ∧ nb.length ≤ P.ls.length := by
  have HK := Lib.hid (fun wx ho b hb => known1 pa la pc lc P w wx h ho tgt hto b hb)
  have HD := Lib.hid (fun wx (ho : Only (fun _ => False) w wx) => neighbors_ok pa la pc lc P tgt wx (h.rl.keep ho) h.m (fun l hl => by have := h.ok.lines l hl; omega))
  have hO0 := (Only.refl (fun _ => False) w).alloc (planB pa la pc lc P)
  have Hbox := Lib.hid (World.cell?_alloc_new w #[.slice pa P.ps.length pc, .slice la P.ls.length lc, .int .i64 P.rate, .int .i64 P.room, .int .i64 P.m0, .int .i64 P.m1, .int .i64 P.m2] 31)
  clear h hto
  unfold planV at HK HD ⊢
  unfold planB at hO0
  go_enter Try.func20, Try.ntmps20
  go_upto_region 1 with fail
  generalize hW : w.alloc (.cells #[.slice pa P.ps.length pc, .slice la P.ls.length lc, .int .i64 P.rate, .int .i64 P.room, .int .i64 P.m0, .int .i64 P.m1, .int .i64 P.m2] 31) = w0 at hO0 Hbox ⊢
  clear hW
  obtain ⟨B, hB⟩ : ∃ B, w.heap.size = B := ⟨_, rfl⟩
  rw [hB] at Hbox
  simp only [hB]
  have HB := Lib.hid hB
  clear hB
  obtain ⟨y0, y1, y2, y3, y4, y5, y6⟩ := relay Hbox (Only.refl _ w0)
  have hO1 := hO0.alloc (.cells #[.int .u16 tgt] 34)
  have hN1 := (Only.refl (fun _ => False) w0).alloc (.cells #[.int .u16 tgt] 34)
  have HK1 := Lib.hid (HK.out _ hO1 w0.heap.size (World.cell?_alloc_new w0 #[.int .u16 tgt] 34 0))
  go_wp2_with fail
  refine HK1.out.mono ?_
  rintro e w1 ⟨rfl, ho1⟩
  have hO2 := hO1.trans ho1
  clear y0 y1 y2 y3 y4 y5 y6
  obtain ⟨y0, y1, y2, y3, y4, y5, y6⟩ := relay Hbox (hN1.trans ho1)
  have HD1 := Lib.hid (HD.out _ hO2)
  clear HK1 HK hO1 hN1 ho1
  go_wp2_with fail
  refine HD1.out.mono ?_
  rintro e w2 ⟨ho2, v, nb, rfl, hnb, hasc, hmem, hlen⟩
  have hF := Lib.hid (And.intro hnb (And.intro hasc (And.intro hmem hlen)))
  clear y0 y1 y2 y3 y4 y5 y6 hnb hasc hmem hlen HD1 HD
  go_wp2_with fail
  go_ret2
  have hs := hO2.size
  have hB := HB.out
  refine ⟨hO2.trans ho2, v, nb, rfl, ?_, hF.out.2.1, hF.out.2.2.1, hF.out.2.2.2⟩
  obtain ⟨a, hv, h1⟩ := hF.out.1
  refine ⟨a, hv, h1.imp_right ?_⟩
  rintro ⟨g, cap, h2, h3, h4⟩
  exact ⟨g, cap, h2, by omega, h4⟩

end Go.Proofs.Ytpfcoeenblmifaa
