/-
  Plans: distances: the walk.
-/
import Derived.Test.YtpfcoeenblmifaaPL
import Derived.Deep.LoopGhost
import Derived.WalkMore
import Derived.Deep.DeepCutAuto
import Derived.Deep.RegionWith
namespace Go.Proofs.Ytpfcoeenblmifaa
open Go.RowKit Go.PC

abbrev nats (qs : List Nat) : List Int := qs.map fun (x : Nat) => (x : Int)

set_option maxHeartbeats 4000000 in
set_option maxRecDepth 100000 in
theorem distances_ok (pa la : Option Addr) (pc lc : Nat) (P : Pn) (tgt : Int) (w : World) (hp : RdP w pa P.ps) (hl : RdL w la P.ls) (hok : PlanOK P) (hn : P.ps.length ≤ 12) (hnl : P.ls.length ≤ 12) (hto : hasCode P.ps tgt = true) :
    Calls Try.prog 24 #[planV pa la pc lc P, .int .u16 tgt] w fun e w' =>
      Only (fun _ => False) w w' ∧ ∃ g out, e = .returned (.slice (some ⟨g, 0, none⟩) P.ps.length P.ps.length) ∧ w.heap.size ≤ g ∧ Row w' g 3 P.ps.length (its out) ∧
        Dist P.ps.length (idxOf P.ps tgt) (passP P (idxOf P.ps tgt)) (adjP P) out := by
  have HNb := Lib.hid (fun (c : Int) (wx : World) (hx : Only (fun _ => False) w wx) => neighbors_ok pa la pc lc P c wx (hl.keep hx) hnl (fun l h => by have := (hok.lines l h).1; omega))
  have HF := Lib.hid (fun (z : Int) (hz : hasCode P.ps z = true) (wx : World) (hx : Only (fun _ => False) w wx) => hz ▸ find_any pa P.ps pc (.slice la P.ls.length lc) (.int .i64 P.rate) (.int .i64 P.room) (.int .i64 P.m0) (.int .i64 P.m1) (.int .i64 P.m2) z wx (hp.keep hx) hok.asc (by omega))
  have Hp := Lib.hid hp
  have Hok := Lib.hid hok
  have Hto := Lib.hid hto
  obtain ⟨i0, hi, hz0i, hz1i, hz2i⟩ := info_parts infoInt
  have hn1 : 1 ≤ P.ps.length := List.length_pos_iff.2 hok.ne
  obtain ⟨tt, hat⟩ := has_at hok.asc hto
  have hsrc := (List.getElem?_eq_some_iff.1 hat).1
  obtain ⟨src, hsrce⟩ : ∃ src, idxOf P.ps tgt = src := ⟨_, rfl⟩
  have hft := HF.out tgt hto
  rw [hsrce] at hsrc hft ⊢
  have Hft := Lib.hid hft
  have hO0 := (Only.refl (fun _ => False) w).alloc (.cells #[.slice pa P.ps.length pc, .slice la P.ls.length lc, .int .i64 P.rate, .int .i64 P.room, .int .i64 P.m0, .int .i64 P.m1, .int .i64 P.m2] 31)
  have hbox := World.cell?_alloc_new w #[.slice pa P.ps.length pc, .slice la P.ls.length lc, .int .i64 P.rate, .int .i64 P.room, .int .i64 P.m0, .int .i64 P.m1, .int .i64 P.m2] 31
  have Hbox := Lib.hid hbox
  clear hbox hp hl hok hto hat hft
  unfold planV at HNb ⊢
  go_enter Try.func24, Try.ntmps24
  go_wp2_with fail
  go_step3
  generalize hW : w.alloc (.cells #[.slice pa P.ps.length pc, .slice la P.ls.length lc, .int .i64 P.rate, .int .i64 P.room, .int .i64 P.m0, .int .i64 P.m1, .int .i64 P.m2] 31) = w0 at hO0 Hbox ⊢
  have hws : w0.heap.size = w.heap.size + 1 := by rw [← hW]; simp
  clear hW
  obtain ⟨B, hB⟩ : ∃ B, w.heap.size = B := ⟨_, rfl⟩
  rw [hB] at Hbox hws
  simp only [hB]
  have HB := Lib.hid (And.intro hB hws)
  clear hB hws
  have y0 : w0.cell? ⟨B, 0, none⟩ = some (.slice pa P.ps.length pc) := Hbox.out 0
  have hbB : B < w0.heap.size := lt_of_cell y0
  have hrep := repeat_small w0.heap.size P.ps.length hn1 hn (-1) (w0.alloc (.cells #[.int .i64 (-1)] 3)) (World.cell?_alloc_new w0 #[.int .i64 (-1)] 3 0)
  have HRep := Lib.hid hrep
  have hO1 := hO0.alloc (.cells #[.int .i64 (-1)] 3)
  have hN1 := (Only.refl (fun _ => False) w0).alloc (.cells #[.int .i64 (-1)] 3)
  clear hrep
  go_wp2_with fail
  refine HRep.out.mono ?_
  rintro e w1 ⟨rfl, ho1, hrow1⟩
  have hOA := hO1.trans ho1
  have hNA := hN1.trans ho1
  have HRow1 := Lib.hid hrow1
  have hgs : (w0.alloc (.cells #[.int .i64 (-1)] 3)).heap.size = w0.heap.size + 1 := by simp
  rw [hgs] at HRow1
  simp only [hgs]
  obtain ⟨G, hG⟩ : ∃ G, w0.heap.size + 1 = G := ⟨_, rfl⟩
  rw [hG] at HRow1
  simp only [hG]
  have HG := Lib.hid hG
  clear hG hgs hO1 hN1 ho1 hrow1 HRep y0 hbB
  have y0 : w1.cell? ⟨B, 0, none⟩ = some (.slice pa P.ps.length pc) := hNA.cell (Hbox.out 0) (by simp)
  have y1 : w1.cell? ⟨B, 1, none⟩ = some (.slice la P.ls.length lc) := hNA.cell (Hbox.out 1) (by simp)
  have y2 : w1.cell? ⟨B, 2, none⟩ = some (.int .i64 P.rate) := hNA.cell (Hbox.out 2) (by simp)
  have y3 : w1.cell? ⟨B, 3, none⟩ = some (.int .i64 P.room) := hNA.cell (Hbox.out 3) (by simp)
  have y4 : w1.cell? ⟨B, 4, none⟩ = some (.int .i64 P.m0) := hNA.cell (Hbox.out 4) (by simp)
  have y5 : w1.cell? ⟨B, 5, none⟩ = some (.int .i64 P.m1) := hNA.cell (Hbox.out 5) (by simp)
  have y6 : w1.cell? ⟨B, 6, none⟩ = some (.int .i64 P.m2) := hNA.cell (Hbox.out 6) (by simp)
  go_wp2_with fail
  refine (Hft.out _ hOA).mono ?_
  rintro e w2 ⟨rfl, ho2⟩
  have hrow2 := HRow1.out.only ho2 (by simp)
  have c0 := hrow2.cell (i := src) (v := .int .i64 (-1)) (by simp [its, hsrc])
  have f0 := hrow2.frozen src
  have hsrc' : (src : Int) < (P.ps.length : Int) := by omega
  have hNB := hNA.trans ho2
  have hGw2 := hrow2.lt
  have HRow3 := Lib.hid (p := Row (w2.setCell ⟨G, src, none⟩ (.int .i64 0)) G 3 P.ps.length (its ((List.replicate P.ps.length (-1)).set src 0))) (by
    have := hrow2.set src (.int .i64 0)
    simpa [its, List.map_set] using this)
  have hO3 : Only (fun i => i = G) w2 (w2.setCell ⟨G, src, none⟩ (.int .i64 0)) := (Only.refl _ _).setCell (p := ⟨G, src, none⟩) _ (fun _ => rfl)
  have hN3 : Only (fun _ => False) w0 (w2.setCell ⟨G, src, none⟩ (.int .i64 0)) := hNB.andThen hO3 (fun i hi h => by have := HG.out; omega)
  clear y0 y1 y2 y3 y4 y5 y6 ho2 hrow2 hO3 hNB hNA hOA HRow1 Hft
  go_wp2_with fail
  have hs3 : (w2.setCell ⟨G, src, none⟩ (.int .i64 0)).heap.size = w2.heap.size := by simp
  generalize w2.setCell ⟨G, src, none⟩ (.int .i64 0) = w3 at *
  have HRow4 := Lib.hid (HRow3.out.of_block (w' := w3.alloc (.cells #[.int .i64 src] 3)) ((MapKept.heap_alloc w3 _).2 G HRow3.out.lt))
  have hN4 := hN3.alloc (.cells #[.int .i64 src] 3)
  have HQ4 := Lib.hid (p := QRow (w3.alloc (.cells #[.int .i64 src] 3)) w3.heap.size 0 1 3 (its (nats [src]))) ⟨_, heap_alloc_new w3 _, Nat.le_refl _, rfl, by simp, by unfold maxLen; omega⟩
  have hgG : w3.heap.size ≠ G := by have := HRow3.out.lt; omega
  have hbg := hN3.size
  have HI := Lib.hid (Bfs.start (pass := passP P src) (adj := adjP P) hsrc)
  rw [hs3] at HQ4 hgG hbg
  clear hs3
  generalize w3.alloc (.cells #[.int .i64 src] 3) = w4 at *
  generalize w2.heap.size = g0 at *
  clear HRow3 hN3 c0 f0 hGw2
  go_step3
  go_wp2_with fail
  go_loopg [8] (2 * unseen ((List.replicate P.ps.length (-1)).set src 0) + 1) (fun fu v wr => ∃ (out : List Int) (qs : List Nat) (g oo cap : Nat), v = .slice (some ⟨g, oo, none⟩) qs.length cap ∧ 2 * unseen out + qs.length ≤ fu ∧ fu ≤ 25 ∧ g ≠ G ∧ w0.heap.size ≤ g ∧ Only (fun _ => False) w0 wr ∧
      Hid (Row wr G 3 P.ps.length (its out)) ∧ Hid (QRow wr g oo cap 3 (its (nats qs))) ∧ Hid (Bfs P.ps.length src (passP P src) (adjP P) (fun _ => False) out qs))
  case atStart => exact ⟨_, [src], g0, 0, 1, rfl, by simp, (by have : unseen ((List.replicate P.ps.length (-1)).set src 0) ≤ ((List.replicate P.ps.length (-1 : Int)).set src 0).length := List.countP_le_length; simp at this; omega), hgG, hbg, hN4, HRow4, HQ4, HI⟩
  case round =>
    clear HRow4 HQ4 HI hgG hbg hN4
    obtain ⟨out, qs, g, oo, cap, rfl, hfu, hf25, hgG, hbg, ho, HRow, HQ, HI⟩ := hrel
    obtain ⟨wo, hwo⟩ : ∃ wo : World, wo = wr := ⟨_, rfl⟩
    rw [← hwo] at ho HRow HQ ⊢
    clear hwo wr
    have hlen := HI.out.len
    cases qs with
    | nil =>
      go_wp2_with fail
      go_ret
      have hB := HB.out
      have hG := HG.out
      exact ⟨hO0.trans ho, G, out, rfl, by omega, HRow.out, HI.out.dist⟩
    | cons m qs =>
      have hmv := HI.out.qv m (by simp)
      have hml := o_lt hmv
      rw [hlen] at hml
      have c0 : wo.cell? ⟨g, oo, none⟩ = some (.int .i64 m) := HQ.out.cell (i := 0) rfl
      have hcap : 1 ≤ cap := by obtain ⟨cur, h1, h2, h3, h4, h5⟩ := HQ.out; simp at h4; omega
      have hql : (qs.length : Int) ≤ 24 := by simp at hfu; omega
      have hcapI : (1 : Int) ≤ (cap : Int) := by omega
      have hqp : (0 : Int) < (qs.length : Int) + 1 := by omega
      have HQ' := Lib.hid (QRow.tail (x := .int .i64 m) HQ.out)
      obtain ⟨b, off, hpa, hcell⟩ := Hp.out.resolve_left (fun he => by rw [he] at hml; cases hml)
      subst hpa
      obtain ⟨⟨mc, mt⟩, hm⟩ : ∃ p, P.ps[m]? = some p := ⟨_, List.getElem?_eq_getElem hml⟩
      obtain ⟨d0, d1⟩ := hcell m _ hm
      have d0 := (hO0.trans ho).cell d0 (by simp)
      have d1 := (hO0.trans ho).cell d1 (by simp)
      have HM := Lib.hid hm
      have y0 : wo.cell? ⟨B, 0, none⟩ = some (.slice (some ⟨b, off, none⟩) P.ps.length pc) := ho.cell (Hbox.out 0) (by simp)
      have hml' : (m : Int) < (P.ps.length : Int) := by omega
      simp only at d0 d1
      clear hcell hm
      have HFu := Lib.hid hfu
      have HLen := Lib.hid hlen
      clear hlen hmv hfu
      by_cases hpass : passP P src m
      · go_upto_region 7 with fail
        go_cut [8] (fun v wx => ∃ oo2 cap2, v = .slice (some ⟨g, oo2, none⟩) qs.length cap2 ∧ wx = wo ∧ Hid (QRow wo g oo2 cap2 3 (its (nats qs))))
        case first =>
          by_cases hc1 : cap = 1
          · subst hc1
            have hq0 : qs = [] := by
              obtain ⟨cur, h1, h2, h3, h4, h5⟩ := HQ.out
              simp at h4
              exact h4
            subst hq0
            have HQ2 := Lib.hid (QRow.none HQ.out)
            clear HQ HQ' hcap hcapI hqp hql
            go_wp2_with fail
            go_meet
            exact ⟨oo, 0, rfl, rfl, HQ2⟩
          · go_wp2_with fail
            go_meet
            exact ⟨oo + 1, cap - 1, by go_num, rfl, HQ'⟩
        case rest =>
          obtain ⟨oo2, cap2, rfl, hwc, HQ2⟩ := hcut
          rw [hwc]
          clear hwc wc
          clear HQ HQ' hcap hcapI hqp c0
          go_upto_region 8 with fail
          go_cut [49] (fun v wx => v = .bool false ∧ wx = wo)
          case first =>
            by_cases hms : m = src
            · have hne : ((m : Int) != (src : Int)) = false := by simp [hms]
              clear hpass hms
              go_wp2_with fail
              go_meet
              exact ⟨rfl, rfl⟩
            · have hmt : mt = true := by
                rcases hpass with h | ⟨c, h⟩
                · exact absurd h hms
                · rw [HM.out] at h; cases h; rfl
              subst hmt
              have hne : ((m : Int) != (src : Int)) = true := by simp; omega
              clear hpass hms
              go_wp2_with fail
              go_meet
              exact ⟨rfl, rfl⟩
          case rest =>
            obtain ⟨rfl, hwc⟩ := hcut
            rw [hwc]
            clear hwc wc
            go_upto_region 9 with fail
            have HN9 := Lib.hid (HNb.out mc wo.drew (hO0.trans ho.drew))
            have y1 : wo.cell? ⟨B, 1, none⟩ = some (.slice la P.ls.length lc) := ho.cell (Hbox.out 1) (by simp)
            have y2 : wo.cell? ⟨B, 2, none⟩ = some (.int .i64 P.rate) := ho.cell (Hbox.out 2) (by simp)
            have y3 : wo.cell? ⟨B, 3, none⟩ = some (.int .i64 P.room) := ho.cell (Hbox.out 3) (by simp)
            have y4 : wo.cell? ⟨B, 4, none⟩ = some (.int .i64 P.m0) := ho.cell (Hbox.out 4) (by simp)
            have y5 : wo.cell? ⟨B, 5, none⟩ = some (.int .i64 P.m1) := ho.cell (Hbox.out 5) (by simp)
            have y6 : wo.cell? ⟨B, 6, none⟩ = some (.int .i64 P.m2) := ho.cell (Hbox.out 6) (by simp)
            go_cut [57, 58, 59] (fun v57 v58 v59 wx => ∃ (nb : List Int) (gn : Option Addr), v57 = .slice gn nb.length nb.length ∧ v58 = .int .i64 nb.length ∧ v59 = .int .i64 0 ∧ Only (fun _ => False) wo wx ∧ Hid (NbR wo.heap.size wx v57 nb) ∧ Hid (nb.Pairwise (fun x y => x < y) ∧ (∀ z, z ∈ nb ↔ z ∈ othersOf P.ls mc) ∧ nb.length ≤ P.ls.length))
            case first =>
              go_wp2_with fail
              go_region_with (go_at_call 29; refine HN9.out.mono ?_; rintro e w5 ⟨ho5, v, nb, rfl, ⟨gn, rfl, hgn⟩, hasc⟩; have HO5 := Lib.hid ho5; have HGn := Lib.hid hgn; have HAsc := Lib.hid hasc; clear ho5 hgn hasc)
              all_goals go_wp2_with fail
              all_goals go_meet
              all_goals exact ⟨nb, gn, rfl, rfl, rfl, ⟨HO5.out.os, HO5.out.tape, HO5.out.output, HO5.out.size, HO5.out.block⟩, Lib.hid ⟨gn, rfl, HGn.out⟩, HAsc⟩
            case rest =>
              obtain ⟨nb, gn, rfl, rfl, rfl, hoN, HNbr, HAsc⟩ := hcut
              have hnb12 : nb.length ≤ 12 := Nat.le_trans HAsc.out.2.2 hnl
              obtain ⟨F, hF⟩ : ∃ F, F = 2 * unseen out + qs.length := ⟨_, rfl⟩
              have hF24 : F ≤ 24 := by have := HFu.out; simp at this; omega
              have hFle : 2 * unseen out + qs.length ≤ F := by omega
              have HFF := Lib.hid hF
              have hNb : nb = [] ∨ ∃ gg cp, gn = some ⟨gg, 0, none⟩ ∧ gg ≠ G ∧ gg ≠ g ∧ Row wc gg 34 cp (pts nb) := by
                obtain ⟨a, ha, h | ⟨gg, cp, h1, h2, h3⟩⟩ := HNbr.out
                · exact Or.inl h.2
                · injection ha with ha
                  have hl1 := HRow.out.lt
                  have hl2 := HQ2.out.lt
                  exact Or.inr ⟨gg, cp, ha.trans h1, by omega, by omega, h3⟩
              have HNbb := Lib.hid hNb
              have HRow2 := Lib.hid (HRow.out.only hoN (by simp))
              have HQ3 := Lib.hid (HQ2.out.only hoN (by simp))
              have ho2 := ho.trans hoN
              have HIn := Lib.hid (HI.out.pop.skip (i := m) (dn' := fun i => ∃ (k : Nat) (z : Int), k < 0 ∧ nb[k]? = some z ∧ i = idxOf P.ps z) (HI.out.qv m (by simp)) (fun j hj => by obtain ⟨k, z, h, _⟩ := hj; omega))
              have hmn : P.ps.length ≤ 12 := hn
              clear hF hNb HNbr HRow HQ2 ho hoN HI HN9 y0 y1 y2 y3 y4 y5 y6 d0 d1 hql
              go_wp2_with fail
              go_loopw [8, 59] (fun v8 v59 wr => ∃ (out' : List Int) (qs' : List Nat) (g' o' cap' j : Nat), v8 = .slice (some ⟨g', o', none⟩) qs'.length cap' ∧ v59 = .int .i64 j ∧ j ≤ nb.length ∧ 2 * unseen out' + qs'.length ≤ F ∧ g' ≠ G ∧ w0.heap.size ≤ g' ∧
                  Only (fun _ => False) w0 wr ∧ Hid (Row wr G 3 P.ps.length (its out')) ∧ Hid (QRow wr g' o' cap' 3 (its (nats qs'))) ∧ Hid (nb = [] ∨ ∃ gg cp, gn = some ⟨gg, 0, none⟩ ∧ gg ≠ G ∧ gg ≠ g' ∧ Row wr gg 34 cp (pts nb)) ∧
                  Hid (BfsI P.ps.length src (passP P src) (adjP P) m (fun i => ∃ (k : Nat) (z : Int), k < j ∧ nb[k]? = some z ∧ i = idxOf P.ps z) out' qs'))
                (fun _ v59 _ => nb.length - (intOf v59).toNat)
              case atStart => exact ⟨out, qs, g, oo2, cap2, 0, rfl, rfl, Nat.zero_le _, hFle, hgG, hbg, ho2, HRow2, HQ3, HNbb, HIn⟩
              case round =>
                clear HRow2 HQ3 HNbb HIn ho2 hgG hbg hFle
                obtain ⟨out', qs', g', o', cap', j, rfl, rfl, hj, hFle, hgG, hbg, ho, HRow, HQ, HNb2, HI⟩ := hrel
                obtain ⟨wo, hwo⟩ : ∃ wo : World, wo = wr := ⟨_, rfl⟩
                rw [← hwo] at ho HRow HQ HNb2 ⊢
                clear hwo wr
                by_cases hlt : j < nb.length
                · have hlt' : (j : Int) < (nb.length : Int) := by omega
                  obtain ⟨gg, cp, hgn, hggG, hggg, hnrow⟩ := HNb2.out.resolve_left (fun he => by rw [he] at hlt; cases hlt)
                  subst hgn
                  obtain ⟨z, hz⟩ : ∃ z, nb[j]? = some z := ⟨_, List.getElem?_eq_getElem hlt⟩
                  have c0 := hnrow.cell (pts_at hz)
                  have hzo := (HAsc.out.2.1 z).1 (List.mem_of_getElem? hz)
                  have hzh := others_has Hok.out hzo
                  obtain ⟨tz, hiz⟩ := has_at Hok.out.asc hzh
                  have hadj := adj_idx Hok.out HM.out hzo
                  have hcall := HF.out z hzh wo (hO0.trans ho)
                  obtain ⟨i, hiI⟩ : ∃ i, idxOf P.ps z = i := ⟨_, rfl⟩
                  rw [hiI] at hiz hadj hcall
                  have hil := (List.getElem?_eq_some_iff.1 hiz).1
                  have Hcall := Lib.hid hcall
                  have Hadj := Lib.hid hadj
                  have Hz := Lib.hid (And.intro hz hiI)
                  have HNrow := Lib.hid hnrow
                  have hdn : ∀ q, (∃ (k : Nat) (z : Int), k < j + 1 ∧ nb[k]? = some z ∧ q = idxOf P.ps z) → (∃ (k : Nat) (z : Int), k < j ∧ nb[k]? = some z ∧ q = idxOf P.ps z) ∨ q = i := by
                    rintro q ⟨k, z', hk, hkz, hq⟩
                    rcases Nat.lt_or_ge k j with h | h
                    · exact Or.inl ⟨k, z', h, hkz, hq⟩
                    · have : k = j := by omega
                      subst this
                      rw [hz] at hkz
                      cases hkz
                      exact Or.inr (hq.trans hiI)
                  have Hdn := Lib.hid hdn
                  have y0 : wo.cell? ⟨B, 0, none⟩ = some (.slice (some ⟨b, off, none⟩) P.ps.length pc) := ho.cell (Hbox.out 0) (by simp)
                  have y1 : wo.cell? ⟨B, 1, none⟩ = some (.slice la P.ls.length lc) := ho.cell (Hbox.out 1) (by simp)
                  have y2 : wo.cell? ⟨B, 2, none⟩ = some (.int .i64 P.rate) := ho.cell (Hbox.out 2) (by simp)
                  have y3 : wo.cell? ⟨B, 3, none⟩ = some (.int .i64 P.room) := ho.cell (Hbox.out 3) (by simp)
                  have y4 : wo.cell? ⟨B, 4, none⟩ = some (.int .i64 P.m0) := ho.cell (Hbox.out 4) (by simp)
                  have y5 : wo.cell? ⟨B, 5, none⟩ = some (.int .i64 P.m1) := ho.cell (Hbox.out 5) (by simp)
                  have y6 : wo.cell? ⟨B, 6, none⟩ = some (.int .i64 P.m2) := ho.cell (Hbox.out 6) (by simp)
                  clear hz hzo hzh hiz hadj hcall hiI hnrow hdn HNb2
                  go_wp2_with fail
                  refine Hcall.out.mono ?_
                  rintro e w5 ⟨rfl, ho5⟩
                  have hoA := ho.trans ho5
                  have HRow5 := Lib.hid (HRow.out.only ho5 (by simp))
                  have HQ5 := Lib.hid (HQ.out.only ho5 (by simp))
                  have HN5 := Lib.hid (HNrow.out.only ho5 (by simp))
                  have hlen' := HI.out.base.len
                  have ci : w5.cell? ⟨G, i, none⟩ = some (.int .i64 (o out' i)) := HRow5.out.cell (its_at (o_get (by omega)))
                  have cm : w5.cell? ⟨G, m, none⟩ = some (.int .i64 (o out' m)) := HRow5.out.cell (its_at (o_get (by omega)))
                  have fi := HRow5.out.frozen i
                  have hvm := HI.out.mv
                  have hvm2 : o out' m < 12 := by
                    have h1 := HI.out.base.high m
                    have h2 := List.countP_le_length (p := fun v => decide ((0 : Int) ≤ v)) (l := out')
                    omega
                  have hil' : (i : Int) < (P.ps.length : Int) := by omega
                  have HLen' := Lib.hid hlen'
                  obtain ⟨vm, hvme⟩ : ∃ vm, o out' m = vm := ⟨_, rfl⟩
                  obtain ⟨vi, hvie⟩ : ∃ vi, o out' i = vi := ⟨_, rfl⟩
                  rw [hvme] at cm hvm hvm2
                  rw [hvie] at ci
                  have HVm := Lib.hid hvme
                  have HVi := Lib.hid hvie
                  clear y0 y1 y2 y3 y4 y5 y6 c0 ho5 ho HRow HQ HNrow hlen' hvme hvie Hcall
                  by_cases hneg : vi < 0
                  · have HI2 := Lib.hid (HI.out.visit hil (by rw [HVi.out]; exact hneg) hpass Hadj.out Hdn.out)
                    rw [HVm.out] at HI2
                    have hun := unseen_set (out := out') (i := i) (v := vm + 1) (by have := HLen'.out; omega) (by rw [HVi.out]; exact hneg) (by omega)
                    have HUn := Lib.hid hun
                    have HRow6 := Lib.hid (p := Row (w5.setCell ⟨G, i, none⟩ (.int .i64 (vm + 1))) G 3 P.ps.length (its (out'.set i (vm + 1)))) (by
                      have := HRow5.out.set i (.int .i64 (vm + 1))
                      simpa [its, List.map_set] using this)
                    have hO6 : Only (fun i => i = G) w5 (w5.setCell ⟨G, i, none⟩ (.int .i64 (vm + 1))) := (Only.refl _ _).setCell (p := ⟨G, i, none⟩) _ (fun _ => rfl)
                    have hO7 := hO6.alloc (.cells #[.int .i64 i] 3)
                    have hq7 := HQ5.out.only hO7 hgG
                    have HN7 := Lib.hid (HN5.out.only hO7 hggG)
                    have HRow7 := Lib.hid (HRow6.out.of_block (w' := (w5.setCell ⟨G, i, none⟩ (.int .i64 (vm + 1))).alloc (.cells #[.int .i64 i] 3)) ((MapKept.heap_alloc _ _).2 G HRow6.out.lt))
                    have hN7 : Only (fun _ => False) w0 ((w5.setCell ⟨G, i, none⟩ (.int .i64 (vm + 1))).alloc (.cells #[.int .i64 i] 3)) := hoA.andThen hO7 (fun i hi h => by have := HG.out; omega)
                    have hcell7 : ((w5.setCell ⟨G, i, none⟩ (.int .i64 (vm + 1))).alloc (.cells #[.int .i64 i] 3)).cell? ⟨w5.heap.size, 0, none⟩ = some (.int .i64 i) := by
                      have := World.cell?_alloc_new (w5.setCell ⟨G, i, none⟩ (.int .i64 (vm + 1))) #[.int .i64 i] 3 0
                      simpa using this
                    have hql2 : qs'.length ≤ 24 := by omega
                    have hsz7 : w5.heap.size < ((w5.setCell ⟨G, i, none⟩ (.int .i64 (vm + 1))).alloc (.cells #[.int .i64 i] 3)).heap.size := by simp
                    have hgn5 := HN5.out.lt
                    have hsG5 := HRow5.out.lt
                    have hw5 := hoA.size
                    clear hun HI hO6 hO7
                    go_wp2_with (first
                      | (at_builtin; refine wpList_append_q rfl _ _ 37 rfl i0 (.int .i64 0) Try.underlying37 hi hz0i hz1i rfl hq7 qs'.length (by simp [its, nats]) rfl ⟨w5.heap.size, 0, none⟩ 1 (.int .i64 i) rfl hcell7 rfl (by unfold maxLen; omega) (by rw [hz2i]; omega) ?_; intro g2 o2 cap2 w8 hq8 ho8 hg8)
                      | fail)
                    have HQ8 := Lib.hid hq8
                    have HR8 := Lib.hid (HRow7.out.only ho8 (fun h => hgG h.symm))
                    have HN8 := Lib.hid (HN7.out.only ho8 (fun h => hggg h))
                    have hN8 : Only (fun _ => False) w0 w8 := hN7.andThen ho8 (fun i hi h => by omega)
                    have hszE : ((w5.setCell ⟨G, i, none⟩ (.int .i64 (vm + 1))).alloc (.cells #[.int .i64 i] 3)).heap.size = w5.heap.size + 1 := by simp
                    rw [hszE] at hg8
                    clear hq8 ho8 hq7 hcell7 hN7 hszE hsz7
                    go_roundw
                    case rel =>
                      refine ⟨out'.set i (vm + 1), qs' ++ [i], g2, o2, cap2, j + 1, by simp, by go_num, hlt, ?_, by omega, by omega, hN8, HR8, Lib.hid ?_, Lib.hid (Or.inr ⟨gg, cp, rfl, hggG, by omega, HN8.out⟩), HI2⟩
                      · have := HUn.out
                        simp
                        omega
                      · have := HQ8.out
                        simpa [its, nats] using this
                    case measure => simp [intOf]; omega
                  · have HI2 := Lib.hid (HI.out.skip (i := i) (by rw [HVi.out]; omega) Hdn.out)
                    clear HI cm
                    go_wp2_with fail
                    go_roundw
                    case rel => exact ⟨out', qs', g', o', cap', j + 1, rfl, by go_num, hlt, hFle, hgG, hbg, hoA, HRow5, HQ5, Lib.hid (Or.inr ⟨gg, cp, rfl, hggG, hggg, HN5.out⟩), HI2⟩
                    case measure => simp [intOf]; omega
                · have hjn : j = nb.length := by omega
                  subst hjn
                  have HFin := Lib.hid (HI.out.finish (fun _ i ha => by
                    obtain ⟨z, hz, he⟩ := adj_of Hok.out HM.out ha
                    obtain ⟨k, hk⟩ := List.getElem?_of_mem ((HAsc.out.2.1 z).2 hz)
                    exact ⟨k, z, (List.getElem?_eq_some_iff.1 hk).1, hk, he.symm⟩))
                  clear HI
                  go_wp2_with fail
                  go_roundg F
                  case measure => have := HFF.out; have := HFu.out; simp at this; omega
                  case rel => exact ⟨out', qs', g', o', cap', rfl, hFle, by omega, hgG, hbg, ho, HRow, HQ, HFin⟩
      · have hms : m ≠ src := fun h => hpass (Or.inl h)
        have hmt : mt = false := by
          cases mt with
          | false => rfl
          | true => exact absurd (Or.inr ⟨mc, HM.out⟩) hpass
        subst hmt
        have HI' := Lib.hid (HI.out.pop.finish (fun h => absurd h hpass))
        have hne : ((m : Int) != (src : Int)) = true := by simp; omega
        clear HI hpass hms
        by_cases hc1 : cap = 1
        · subst hc1
          have hq0 : qs = [] := by
            obtain ⟨cur, h1, h2, h3, h4, h5⟩ := HQ.out
            simp at h4
            exact h4
          subst hq0
          have HQ2 := Lib.hid (QRow.none HQ.out)
          clear HQ HQ' hcap hcapI hqp hql
          go_wp2_with fail
          go_roundg (2 * unseen out)
          case measure => have := HFu.out; simp at this; omega
          case rel => exact ⟨out, [], g, oo, 0, rfl, by simp, by have := HFu.out; simp at this; omega, hgG, hbg, ho, HRow, HQ2, HI'⟩
        · go_wp2_with fail
          go_roundg (2 * unseen out + qs.length)
          case measure => have := HFu.out; simp at this; omega
          case rel => exact ⟨out, qs, g, oo + 1, cap - 1, by go_num, by simp, by have := HFu.out; simp at this; omega, hgG, hbg, ho, HRow, HQ', HI'⟩

end Go.Proofs.Ytpfcoeenblmifaa
