/-
  Plans: Choices: the walk.
-/
import Derived.Test.YtpfcoeenblmifaaPV
namespace Go.Proofs.Ytpfcoeenblmifaa
open Go.RowKit Go.PC

/-- A message may go next to the place with the code z. -/
def mayGo (P : Pn) (d : List Int) (here : Nat) (tgt z : Int) : Prop :=
  0 ≤ hOf d (idxOf P.ps z) ∧ hOf d (idxOf P.ps z) < hOf d here ∧ (z = tgt ∨ ∃ c, P.ps[idxOf P.ps z]? = some (c, true))
open Classical in
noncomputable def chOf (P : Pn) (d : List Int) (here : Nat) (tgt : Int) (nb : List Int) : List (Int × Int) := nb.filterMap fun z => if mayGo P d here tgt z then some (z, o d (idxOf P.ps z)) else none

theorem cell_two_new (w : World) (x y : Value) (t : TypeId) : ∀ j u, [x, y][j]? = some u → (w.alloc (.cells #[x, y] t)).cell? ((⟨w.heap.size, 0, none⟩ : Addr).add j) = some u := by
  intro j u hj
  rw [Addr.add_lit, Nat.zero_add, World.cell?_alloc_new]
  simpa using hj

theorem chOf_step {P : Pn} {d : List Int} {here : Nat} {tgt : Int} {nb : List Int} {k : Nat} {z : Int} (h : nb[k]? = some z) :
    (mayGo P d here tgt z → chOf P d here tgt (nb.take (k + 1)) = chOf P d here tgt (nb.take k) ++ [(z, o d (idxOf P.ps z))]) ∧ (¬ mayGo P d here tgt z → chOf P d here tgt (nb.take (k + 1)) = chOf P d here tgt (nb.take k)) := by
  unfold chOf
  rw [List.take_add_one, h, Option.toList_some, List.filterMap_append]
  exact ⟨fun hm => by simp [hm], fun hm => by simp [hm]⟩

theorem chOf_mem {P : Pn} {d : List Int} {here : Nat} {tgt : Int} {nb : List Int} {p : Int × Int} : p ∈ chOf P d here tgt nb ↔ ∃ z ∈ nb, mayGo P d here tgt z ∧ p = (z, o d (idxOf P.ps z)) := by
  unfold chOf
  rw [List.mem_filterMap]
  constructor
  · rintro ⟨z, hz, h⟩
    split at h
    · cases h; exact ⟨z, hz, by assumption, rfl⟩
    · cases h
  · rintro ⟨z, hz, hm, rfl⟩
    exact ⟨z, hz, by rw [if_pos hm]⟩

theorem chOf_asc {P : Pn} {d : List Int} {here : Nat} {tgt : Int} {nb : List Int} (h : nb.Pairwise fun x y => x < y) : (chOf P d here tgt nb).Pairwise fun p q => p.1 < q.1 := by
  unfold chOf
  rw [List.pairwise_filterMap]
  refine h.imp ?_
  intro x y hxy p hp q hq
  split at hp
  · split at hq
    · cases hp; cases hq; exact hxy
    · cases hq
  · cases hp

theorem chOf_length {P : Pn} {d : List Int} {here : Nat} {tgt : Int} {nb : List Int} : (chOf P d here tgt nb).length ≤ nb.length := List.length_filterMap_le _ _

/-- r says whether p. -/
def IsT (r : Bool) (p : Prop) : Prop := r = true ↔ p

theorem infoChoice : (Try.prog.info? 49).map (fun i => (i.zero, i.size, i.bytes)) = some (some (.agg #[.int .u16 0, .int .i64 0]), 2, 16) := by kernel_rfl

theorem Choices_same (pa la : Option Addr) (pc lc : Nat) (P : Pn) (tgt : Int) (w : World) (h : Small pa la P w) (hto : hasCode P.ps tgt = true) :
    Calls Try.prog 14 #[planV pa la pc lc P, .int .u16 tgt, .int .u16 tgt] w fun e w' =>
      Only (fun _ => False) w w' ∧ e = .returned (.tuple #[.slice none 0 0, .int .i64 1]) := by
  have HK := Lib.hid (fun wx ho b hb hb1 => known2 pa la pc lc P w wx h ho tgt tgt hto hto b hb hb1)
  have hO0 := (Only.refl (fun _ => False) w).alloc (planB pa la pc lc P)
  have Hbox := Lib.hid (World.cell?_alloc_new w #[.slice pa P.ps.length pc, .slice la P.ls.length lc, .int .i64 P.rate, .int .i64 P.room, .int .i64 P.m0, .int .i64 P.m1, .int .i64 P.m2] 31)
  clear h hto
  unfold planV at HK ⊢
  unfold planB at hO0
  go_enter Try.func14, Try.ntmps14
  go_upto_region 1 with fail
  generalize hW : w.alloc (.cells #[.slice pa P.ps.length pc, .slice la P.ls.length lc, .int .i64 P.rate, .int .i64 P.room, .int .i64 P.m0, .int .i64 P.m1, .int .i64 P.m2] 31) = w0 at hO0 Hbox ⊢
  clear hW
  obtain ⟨B, hB⟩ : ∃ B, w.heap.size = B := ⟨_, rfl⟩
  rw [hB] at Hbox
  simp only [hB]
  have HB := Lib.hid hB
  clear hB
  obtain ⟨y0, y1, y2, y3, y4, y5, y6⟩ := relay Hbox (Only.refl _ w0)
  have hO1 := hO0.alloc (.cells #[.int .u16 tgt, .int .u16 tgt] 34)
  have HK1 := Lib.hid (HK.out _ hO1 w0.heap.size (World.cell?_alloc_new w0 #[.int .u16 tgt, .int .u16 tgt] 34 0) (World.cell?_alloc_new w0 #[.int .u16 tgt, .int .u16 tgt] 34 1))
  go_wp2_with fail
  refine HK1.out.mono ?_
  rintro e w1 ⟨rfl, ho1⟩
  have hO2 := hO1.trans ho1
  clear y0 y1 y2 y3 y4 y5 y6 HK1 HK hO1 ho1
  go_wp2_with fail
  go_ret2
  exact ⟨hO2, rfl⟩

set_option maxHeartbeats 4000000 in
set_option maxRecDepth 100000 in
theorem Choices_ok (pa la : Option Addr) (pc lc : Nat) (P : Pn) (src tgt : Int) (w : World) (h : Small pa la P w) (hsrc : hasCode P.ps src = true) (hto : hasCode P.ps tgt = true) (hne : src ≠ tgt) :
    Calls Try.prog 14 #[planV pa la pc lc P, .int .u16 src, .int .u16 tgt] w fun e w' =>
      Only (fun _ => False) w w' ∧ ∃ a ys d, e = .returned (.tuple #[.slice a ys.length ys.length, .int .i64 0]) ∧ ((a = none ∧ ys = []) ∨ ∃ g cap, a = some ⟨g, 0, none⟩ ∧ w.heap.size ≤ g ∧ Row w' g 49 cap (chs ys)) ∧
        Dist P.ps.length (idxOf P.ps tgt) (passP P (idxOf P.ps tgt)) (adjP P) d ∧
        ys.Pairwise (fun p q => p.2 < q.2 ∨ (p.2 = q.2 ∧ p.1 < q.1)) ∧ ∀ p, p ∈ ys ↔ ∃ z ∈ othersOf P.ls src, mayGo P d (idxOf P.ps src) tgt z ∧ p = (z, o d (idxOf P.ps z)) := by
  have HK := Lib.hid (fun wx ho b hb hb1 => known2 pa la pc lc P w wx h ho src tgt hsrc hto b hb hb1)
  have HF := Lib.hid (fun (z : Int) (hz : hasCode P.ps z = true) (wx : World) (hx : Only (fun _ => False) w wx) => hz ▸ find_any pa P.ps pc (.slice la P.ls.length lc) (.int .i64 P.rate) (.int .i64 P.room) (.int .i64 P.m0) (.int .i64 P.m1) (.int .i64 P.m2) z wx (h.rp.keep hx) h.ok.asc (by have := h.n; omega))
  have HD := Lib.hid (fun wx (ho : Only (fun _ => False) w wx) => distances_ok pa la pc lc P tgt wx (h.rp.keep ho) (h.rl.keep ho) h.ok h.n h.m hto)
  have HNb := Lib.hid (fun (wx : World) (hx : Only (fun _ => False) w wx) => neighbors_ok pa la pc lc P src wx (h.rl.keep hx) h.m (fun l hl => by have := (h.ok.lines l hl).1; omega))
  have Hp := Lib.hid h.rp
  have Hok := Lib.hid h.ok
  have hn12 := h.n
  have hm12 := h.m
  have hn1 : 1 ≤ P.ps.length := List.length_pos_iff.2 h.ok.ne
  obtain ⟨ts, hsi⟩ := has_at h.ok.asc hsrc
  have hsl := (List.getElem?_eq_some_iff.1 hsi).1
  have HFs := Lib.hid (HF.out src hsrc)
  obtain ⟨i, hiI⟩ : ∃ i, idxOf P.ps src = i := ⟨_, rfl⟩
  rw [hiI] at hsl HFs ⊢
  have hne' : (src == tgt) = false := by simpa using hne
  obtain ⟨i0, hi, hz0i, hz1i, hz2i⟩ := info_parts infoChoice
  have hO0 := (Only.refl (fun _ => False) w).alloc (planB pa la pc lc P)
  have Hbox := Lib.hid (World.cell?_alloc_new w #[.slice pa P.ps.length pc, .slice la P.ls.length lc, .int .i64 P.rate, .int .i64 P.room, .int .i64 P.m0, .int .i64 P.m1, .int .i64 P.m2] 31)
  clear h hsrc hto hsi hiI hne
  unfold planV at HK HD HNb ⊢
  unfold planB at hO0
  go_enter Try.func14, Try.ntmps14
  go_upto_region 1 with fail
  generalize hW : w.alloc (.cells #[.slice pa P.ps.length pc, .slice la P.ls.length lc, .int .i64 P.rate, .int .i64 P.room, .int .i64 P.m0, .int .i64 P.m1, .int .i64 P.m2] 31) = w0 at hO0 Hbox ⊢
  clear hW
  obtain ⟨B, hB⟩ : ∃ B, w.heap.size = B := ⟨_, rfl⟩
  rw [hB] at Hbox
  simp only [hB]
  have HB := Lib.hid hB
  clear hB
  obtain ⟨y0, y1, y2, y3, y4, y5, y6⟩ := relay Hbox (Only.refl _ w0)
  have hO1 := hO0.alloc (.cells #[.int .u16 src, .int .u16 tgt] 34)
  have hN1 := (Only.refl (fun _ => False) w0).alloc (.cells #[.int .u16 src, .int .u16 tgt] 34)
  have HK1 := Lib.hid (HK.out _ hO1 w0.heap.size (World.cell?_alloc_new w0 #[.int .u16 src, .int .u16 tgt] 34 0) (World.cell?_alloc_new w0 #[.int .u16 src, .int .u16 tgt] 34 1))
  go_wp2_with fail
  refine HK1.out.mono ?_
  rintro e w1 ⟨rfl, ho1⟩
  have hO2 := hO1.trans ho1
  have hN2 := hN1.trans ho1
  clear y0 y1 y2 y3 y4 y5 y6 HK1 HK hO1 hN1 ho1
  obtain ⟨y0, y1, y2, y3, y4, y5, y6⟩ := relay Hbox hN2
  have HD1 := Lib.hid (HD.out _ hO2)
  go_wp2_with fail
  refine HD1.out.mono ?_
  rintro e w3 ⟨ho3, g, d, rfl, hg, hrow, hd⟩
  have hO4 := hO2.trans ho3
  have hN4 := hN2.trans ho3
  have HH := Lib.hid (heights_ok g d P.ps.length P.ps.length P.ps.length hd.len hn1 hn12 w3 hrow (ways_ne hd))
  have HDi := Lib.hid hd
  have HDr := Lib.hid hrow
  clear y0 y1 y2 y3 y4 y5 y6 hg hrow hd HD1 HD hO2 hN2 ho3
  go_wp2_with fail
  refine HH.out.mono ?_
  rintro e w4 ⟨ho4, g4, ht, rfl, hg4, hrow4, hts⟩
  have hO5 := hO4.trans ho4
  have hN5 := hN4.trans ho4
  have HDr4 := Lib.hid (HDr.out.only ho4 (by simp))
  have HHr4 := Lib.hid hrow4
  have HHt := Lib.hid hts
  obtain ⟨y0, y1, y2, y3, y4, y5, y6⟩ := relay Hbox hN5
  have HFs1 := Lib.hid (HFs.out _ hO5)
  clear hts hrow4 hg4 HH hO4 hN4 ho4 HDr HFs
  go_wp2_with fail
  refine HFs1.out.mono ?_
  rintro e w5 ⟨rfl, ho5⟩
  have hO6 := hO5.trans ho5
  have hN6 := hN5.trans ho5
  have HDr5 := Lib.hid (HDr4.out.only ho5 (by simp))
  have HHr5 := Lib.hid (HHr4.out.only ho5 (by simp))
  clear y0 y1 y2 y3 y4 y5 y6 HFs1 hO5 hN5 ho5 HDr4 HHr4
  obtain ⟨y0, y1, y2, y3, y4, y5, y6⟩ := relay Hbox hN6
  have HNb1 := Lib.hid (HNb.out _ hO6)
  go_wp2_with fail
  refine HNb1.out.mono ?_
  rintro e w6 ⟨ho6, vn, nb, rfl, ⟨gn, rfl, hgn⟩, hasc, hnm, hnl⟩
  have hO7 := hO6.trans ho6
  have hN7 := hN6.trans ho6
  have HDr6 := Lib.hid (HDr5.out.only ho6 (by simp))
  have HHr6 := Lib.hid (HHr5.out.only ho6 (by simp))
  have HNbr := Lib.hid hgn
  have HAsc := Lib.hid (And.intro hasc hnm)
  have hnb12 : nb.length ≤ 12 := Nat.le_trans hnl hm12
  clear y0 y1 y2 y3 y4 y5 y6 HNb1 HNb hO6 hN6 ho6 HDr5 HHr5 hgn hasc hnm hnl
  go_wp2_with fail
  go_loopw [13, 44] (fun v13 v44 wr => ∃ j m : Nat, j ≤ nb.length ∧ v44 = .int .i64 j ∧ m ≤ j ∧ Hid (wr.ownsRow w6.heap.size 49 2 v13 m (chs (chOf P d i tgt (nb.take j)))) ∧ Only (fun _ => False) w6 wr)
    (fun _ v44 _ => nb.length - (intOf v44).toNat)
  case atStart => exact ⟨0, 0, Nat.zero_le _, rfl, Nat.le_refl _, Lib.hid (World.ownsRow_nil _ _ _ _), Only.refl _ _⟩
  case round =>
    obtain ⟨j, m, hj, rfl, hmj, HOwn, ho⟩ := hrel
    obtain ⟨wo, hwo⟩ : ∃ wo : World, wo = wr := ⟨_, rfl⟩
    rw [← hwo] at ho HOwn ⊢
    clear hwo wr
    by_cases hlt : j < nb.length
    · have hlt' : (j : Int) < (nb.length : Int) := by omega
      obtain ⟨gg, cp, hgn, hggs, hnrow⟩ := HNbr.out.resolve_left (fun he => by rw [he.2] at hlt; cases hlt)
      subst hgn
      obtain ⟨z, hz⟩ : ∃ z, nb[j]? = some z := ⟨_, List.getElem?_eq_getElem hlt⟩
      have c0 := (hnrow.only ho (by simp)).cell (pts_at hz)
      have hzo := (HAsc.out.2 z).1 (List.mem_of_getElem? hz)
      have hzh := others_has Hok.out hzo
      obtain ⟨tz, hiz⟩ := has_at Hok.out.asc hzh
      have hcall := HF.out z hzh wo (hO7.trans ho)
      have hst := chOf_step (P := P) (d := d) (here := i) (tgt := tgt) hz
      have HMay : Hid (mayGo P d i tgt z ↔ (0 ≤ hOf d (idxOf P.ps z) ∧ hOf d (idxOf P.ps z) < hOf d i ∧ (z = tgt ∨ tz = true))) := Lib.hid (by
        unfold mayGo
        rw [hiz]
        simp)
      obtain ⟨iz, hizI⟩ : ∃ iz, idxOf P.ps z = iz := ⟨_, rfl⟩
      rw [hizI] at hiz hcall hst HMay
      have hil := (List.getElem?_eq_some_iff.1 hiz).1
      have hil' : (iz : Int) < (P.ps.length : Int) := by omega
      have Hcall := Lib.hid hcall
      have HSt := Lib.hid hst
      have HIz := Lib.hid hiz
      obtain ⟨y0, y1, y2, y3, y4, y5, y6⟩ := relay Hbox (hN7.trans ho)
      clear hzo hzh hcall hst hizI hiz hz hnrow
      go_wp2_with fail
      refine Hcall.out.mono ?_
      rintro e w7 ⟨rfl, ho7⟩
      have hoA := ho.trans ho7
      have hown7 : Hid (w7.ownsRow w6.heap.size 49 2 u13 m (chs (chOf P d i tgt (nb.take j)))) := Lib.hid (HOwn.out.kept (row := none) ⟨ho7.os, ho7.tape, ho7.output, ho7.size, fun i hi _ => ho7.block i hi (by simp)⟩ (by cases u13.ownBlock <;> simp))
      have hdl := HDi.out.len
      have hhl := HHt.out.len
      have ch1 := (HHr6.out.only hoA (by simp)).cell (its_at (o_get (out := ht) (i := iz) (by omega)))
      have ch2 := (HHr6.out.only hoA (by simp)).cell (its_at (o_get (out := ht) (i := i) (by omega)))
      have cd := (HDr6.out.only hoA (by simp)).cell (its_at (o_get (out := d) (i := iz) (by omega)))
      rw [HHt.out.eq (by omega)] at ch1 ch2
      obtain ⟨b, off, hpa, hcell⟩ := Hp.out.resolve_left (fun he => by rw [he] at hil; cases hil)
      obtain ⟨_, pt⟩ := hcell iz _ HIz.out
      have pt := (hO7.trans hoA).cell pt (by simp)
      have y0 : w7.cell? ⟨B, 0, none⟩ = some (.slice (some ⟨b, off, none⟩) P.ps.length pc) := hpa ▸ (relay Hbox (hN7.trans hoA)).1
      have hii : (i : Int) < (P.ps.length : Int) := by omega
      obtain ⟨h1, hh1⟩ : ∃ h1, hOf d iz = h1 := ⟨_, rfl⟩
      obtain ⟨h2, hh2⟩ : ∃ h2, hOf d i = h2 := ⟨_, rfl⟩
      obtain ⟨dv, hdv⟩ : ∃ dv, o d iz = dv := ⟨_, rfl⟩
      rw [hh1] at ch1 HMay
      rw [hh2] at ch2 HMay
      rw [hdv] at cd HSt
      simp only at pt
      clear y1 y2 y3 y4 y5 y6 c0 ho7 ho HOwn hdl hhl hcell hh1 hh2 hdv hpa Hcall
      go_upto_region 14 with fail
      go_cut [82] (fun v wx => (∃ q, wx = w7.drewN q) ∧ ∃ r, v = .bool r ∧ Hid (IsT r (mayGo P d i tgt z)))
      case first =>
        by_cases g1 : 0 ≤ h1
        · have e1 : decide (0 ≤ h1) = true := by simpa using g1
          by_cases g2 : h1 < h2
          · have e2 : decide (h1 < h2) = true := by simpa using g2
            by_cases g3 : z = tgt
            · have e3 : (z == tgt) = true := by simpa using g3
              have HE := Lib.hid (p := IsT true (mayGo P d i tgt z)) (by unfold IsT; rw [HMay.out]; exact ⟨fun _ => ⟨g1, g2, Or.inl g3⟩, fun _ => rfl⟩)
              clear g1 g2 g3 HMay
              go_wp2_with fail
              go_quiet (fail)
              go_wp2_with fail
              go_meet
              exact ⟨⟨_, rfl⟩, true, rfl, HE⟩
            · have e3 : (z == tgt) = false := by simpa using g3
              have HE := Lib.hid (p := IsT tz (mayGo P d i tgt z)) (by unfold IsT; rw [HMay.out]; exact ⟨fun h => ⟨g1, g2, Or.inr h⟩, fun h => h.2.2.resolve_left g3⟩)
              clear g1 g2 g3 HMay
              go_wp2_with fail
              go_quiet (fail)
              go_wp2_with fail
              go_meet
              exact ⟨⟨_, rfl⟩, tz, rfl, HE⟩
          · have e2 : decide (h1 < h2) = false := by simpa using g2
            have HE := Lib.hid (p := IsT false (mayGo P d i tgt z)) (by unfold IsT; rw [HMay.out]; exact ⟨fun h => (by cases h), fun h => absurd h.2.1 g2⟩)
            clear g1 g2 HMay
            go_wp2_with fail
            go_quiet (fail)
            go_wp2_with fail
            go_meet
            exact ⟨⟨_, rfl⟩, false, rfl, HE⟩
        · have e1 : decide (0 ≤ h1) = false := by simpa using g1
          have HE := Lib.hid (p := IsT false (mayGo P d i tgt z)) (by unfold IsT; rw [HMay.out]; exact ⟨fun h => (by cases h), fun h => absurd h.1 g1⟩)
          clear g1 HMay
          go_wp2_with fail
          go_quiet (fail)
          go_wp2_with fail
          go_meet
          exact ⟨⟨_, rfl⟩, false, rfl, HE⟩
      case rest =>
        obtain ⟨⟨q, rfl⟩, r, rfl, HE⟩ := hcut
        have hoB : Only (fun _ => False) w6 (w7.drewN q) := ⟨hoA.os, hoA.tape, hoA.output, hoA.size, hoA.block⟩
        have cd : (w7.drewN q).cell? ⟨g, iz, none⟩ = some (.int .i64 dv) := cd
        have hown : (w7.drewN q).ownsRow w6.heap.size 49 2 u13 m (chs (chOf P d i tgt (nb.take j))) := hown7.out
        clear y0 ch1 ch2 pt hoA hown7
        generalize w7.drewN q = w8 at *
        have hsz := hoB.size
        cases r with
        | true =>
          have HS2 := Lib.hid (HSt.out.1 (HE.out.1 rfl))
          go_wp2_with (first
            | (at_builtin; refine wpList_append_own _ rfl _ _ 44 rfl w6.heap.size 49 i0 (.agg #[.int .u16 0, .int .i64 0]) 2 16 Try.underlying44 hi hz0i hz1i hz2i rfl (by decide) _ _ _ rfl (hown.alloc _) ⟨w8.heap.size, 0, none⟩ 1 1 [.int .u16 z, .int .i64 dv] rfl rfl (cell_two_new _ _ _ _) (by simp [Value.oneCell']) (by unfold maxLen; omega) (by omega) (by simp; omega) ?_; intro v' w9 hown' hgrow _)
            | fail)
          go_roundw
          case rel =>
            refine ⟨j + 1, m + 1, hlt, by go_num, by omega, Lib.hid (by rw [HS2.out, chs_append]; exact hown'), (hoB.alloc _).andThen (Only.of_grownBy hgrow) ?_⟩
            intro i hi h
            have := (hown.lt i h.symm).1
            omega
          case measure => simp [intOf]; omega
        | false =>
          have HS2 := Lib.hid (HSt.out.2 (fun hm => by have := HE.out.2 hm; cases this))
          go_wp2_with fail
          go_roundw
          case rel => exact ⟨j + 1, m, hlt, by go_num, by omega, Lib.hid (by rw [HS2.out]; exact hown), hoB⟩
          case measure => simp [intOf]; omega
    · have hjn : j = nb.length := by omega
      subst hjn
      rw [List.take_length] at HOwn
      have hown := HOwn.out
      have hml : m = (chOf P d i tgt nb).length := by have := hown.1; rw [chs_len] at this; omega
      subst hml
      have hsort := sort_choices_own w6.heap.size u13 (fun p q => p.1 < q.1) (chOf P d i tgt nb) wo hown (by omega) (chOf_asc HAsc.out.1)
      have HSort := Lib.hid hsort
      have HLt := Lib.hid hown.lt
      clear hsort hown HOwn
      go_wp2_with fail
      refine HSort.out.mono ?_
      rintro e w9 ⟨rfl, ho9, ys, hys, hown9⟩
      rw [← hys.length] at hown9
      have hclip := clip_choices w6.heap.size _ u13 (chs ys) w9 hown9
      have HClip := Lib.hid hclip
      have HYs := Lib.hid hys
      have HO9 := Lib.hid ho9
      clear hclip hys hown9 ho9 HSort
      go_wp2_with fail
      refine HClip.out.mono ?_
      rintro e w10 ⟨a, rfl, rfl, hA⟩
      have HA := Lib.hid hA
      clear hA HClip
      go_wp2_with fail
      go_ret2
      have hs7 := hO7.size
      have hoF : Only (fun _ => False) w6 w10 := ho.andThen HO9.out (fun i hi h => by have := (HLt.out i h.symm).1; omega)
      refine ⟨hO7.trans hoF, a, ys, d, rfl, ?_, HDi.out, ?_, fun p => ?_⟩
      · rcases HA.out with ⟨h1, h2⟩ | ⟨g, h1, h2, cap, h3⟩
        · refine Or.inl ⟨h1, ?_⟩
          have := chs_len ys
          rw [h2] at this
          exact List.eq_nil_of_length_eq_zero (by simp at this; omega)
        · exact Or.inr ⟨g, cap, h1, by omega, h3⟩
      · exact HYs.out.2
      · rw [HYs.out.1.mem_iff, chOf_mem]
        exact ⟨fun ⟨z, hz, h⟩ => ⟨z, (HAsc.out.2 z).1 hz, h⟩, fun ⟨z, hz, h⟩ => ⟨z, (HAsc.out.2 z).2 hz, h⟩⟩

end Go.Proofs.Ytpfcoeenblmifaa
