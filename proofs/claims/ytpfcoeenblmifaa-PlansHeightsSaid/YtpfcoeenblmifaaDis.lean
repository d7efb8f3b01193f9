/-
  PlansDistances: its walk.
-/
import Derived.Test.YtpfcoeenblmifaaQL
import Derived.Test.YtpfcoeenblmifaaDls
import Derived.Deep.LoopGhost
import Derived.StillTailTactics
namespace Go.Proofs.Ytpfcoeenblmifaa
open Go.RowKit Go.PC

theorem mix_at {d : List Int} {k : Nat} {v : Int} (h : d[k]? = some v) : (d.take k ++ (d.map up).drop k)[k]? = some (up v) := by
  have hk := (List.getElem?_eq_some_iff.1 h).1
  rw [List.getElem?_append_right (by rw [List.length_take]; omega), List.length_take, Nat.min_eq_left (by omega), Nat.sub_self, List.getElem?_drop, Nat.add_zero, List.getElem?_map, h]
  rfl
theorem mix_at2 {d : List Int} {k : Nat} {v : Int} (h : d[k]? = some v) : (d.take (k + 1) ++ (d.map up).drop (k + 1))[k]? = some v := by
  have hk := (List.getElem?_eq_some_iff.1 h).1
  rw [List.getElem?_append_left (by rw [List.length_take]; omega), List.getElem?_take, if_pos (by omega), h]
theorem mix_step {d : List Int} {k : Nat} {v : Int} (h : d[k]? = some v) : (d.take k ++ (d.map up).drop k).set k v = d.take (k + 1) ++ (d.map up).drop (k + 1) := by
  have hk := (List.getElem?_eq_some_iff.1 h).1
  have hl : (d.take k).length = k := by rw [List.length_take]; omega
  rw [List.set_append_right _ _ (by omega), hl, Nat.sub_self, List.drop_eq_getElem_cons (by simpa using hk), List.set_cons_zero, List.take_add_one, h, Option.toList_some, List.append_assoc]
  rfl

set_option maxHeartbeats 4000000 in
set_option maxRecDepth 100000 in
theorem dist_any (x : Nx) (ea : Option Addr) (ec : Nat) (hx : NxOK x) (z : Int) (hz : U8 z) (w : World) (hre : RdE w ea x.ex) :
    Calls Try.prog 3 #[.agg (nxCells x (.slice ea x.ex.length ec)).toArray, .int .u8 z] w fun e w' => Only (fun _ => False) w w' ∧ e = .returned (.bool true) := by
  obtain ⟨many, c0, c1, c2, c3, c4, c5, ends, t0, t1, t2, t3, t4, t5, ex, rate, room, k0, k1, rfl⟩ := nx_lit x hx
  simp only at hre ⊢
  have HOf := Lib.hid (fun wx (ho : Only (fun _ => False) w wx) => of_lit hx ea ec wx (hre.keep ho))
  have e19 : (nxCells ⟨many, [c0, c1, c2, c3, c4, c5], ends, [t0, t1, t2, t3, t4, t5], ex, rate, room, k0, k1⟩ (.slice ea ex.length ec)).toArray = #[.int .u8 many, .int .u8 c0, .int .u8 c1, .int .u8 c2, .int .u8 c3, .int .u8 c4, .int .u8 c5, .int .u8 ends, .int .u8 t0, .int .u8 t1, .int .u8 t2, .int .u8 t3, .int .u8 t4, .int .u8 t5, .slice ea ex.length ec, .int .u8 rate, .int .u8 room, .int .u8 k0, .int .u8 k1] := rfl
  rw [e19]
  clear e19 hre hx
  go_enter Try.func3, Try.ntmps3
  go_upto_region 1 with fail
  have hOA := (Only.refl (fun _ => False) w).alloc (.cells #[.int .u8 many, .int .u8 c0, .int .u8 c1, .int .u8 c2, .int .u8 c3, .int .u8 c4, .int .u8 c5, .int .u8 ends, .int .u8 t0, .int .u8 t1, .int .u8 t2, .int .u8 t3, .int .u8 t4, .int .u8 t5, .slice ea ex.length ec, .int .u8 rate, .int .u8 room, .int .u8 k0, .int .u8 k1] 26)
  have hX1 : (w.alloc (.cells #[.int .u8 many, .int .u8 c0, .int .u8 c1, .int .u8 c2, .int .u8 c3, .int .u8 c4, .int .u8 c5, .int .u8 ends, .int .u8 t0, .int .u8 t1, .int .u8 t2, .int .u8 t3, .int .u8 t4, .int .u8 t5, .slice ea ex.length ec, .int .u8 rate, .int .u8 room, .int .u8 k0, .int .u8 k1] 26)).heap[w.heap.size]? = some (.cells #[.int .u8 many, .int .u8 c0, .int .u8 c1, .int .u8 c2, .int .u8 c3, .int .u8 c4, .int .u8 c5, .int .u8 ends, .int .u8 t0, .int .u8 t1, .int .u8 t2, .int .u8 t3, .int .u8 t4, .int .u8 t5, .slice ea ex.length ec, .int .u8 rate, .int .u8 room, .int .u8 k0, .int .u8 k1] 26) := (MapKept.heap_alloc w _).1
  have HOf1 := Lib.hid (HOf.out _ hOA)
  generalize hwA : w.alloc (.cells #[.int .u8 many, .int .u8 c0, .int .u8 c1, .int .u8 c2, .int .u8 c3, .int .u8 c4, .int .u8 c5, .int .u8 ends, .int .u8 t0, .int .u8 t1, .int .u8 t2, .int .u8 t3, .int .u8 t4, .int .u8 t5, .slice ea ex.length ec, .int .u8 rate, .int .u8 room, .int .u8 k0, .int .u8 k1] 26) = wA at *
  obtain ⟨B, hB⟩ : ∃ B, w.heap.size = B := ⟨_, rfl⟩
  rw [hB] at hX1
  simp only [hB]
  clear hB hwA HOf
  go_wp2_with (first | (refine wpList_load_row rfl _ _ rfl B rfl _ _ _ _ hX1 Try.underlying26 rfl (by kernel_rfl) ?_; clear hX1) | fail)
  refine HOf1.out.mono ?_
  rintro e w1 ⟨ho1, pa, la, pc, lc, P, rfl, hS, hn2, hn6, hG⟩
  have HO1 := Lib.hid (hOA.trans ho1)
  clear HOf1 ho1 hOA
  have hO0 := (Only.refl (fun _ => False) w1).alloc (planB pa la pc lc P)
  have Hbox := Lib.hid (World.cell?_alloc_new w1 #[.slice pa P.ps.length pc, .slice la P.ls.length lc, .int .i64 P.rate, .int .i64 P.room, .int .i64 P.m0, .int .i64 P.m1, .int .i64 P.m2] 31)
  have hS2 := hS.keep hO0
  unfold planV planB at *
  go_upto_region 2 with fail
  have HO2 := Lib.hid (HO1.out.trans hO0)
  generalize hW : w1.alloc (.cells #[.slice pa P.ps.length pc, .slice la P.ls.length lc, .int .i64 P.rate, .int .i64 P.room, .int .i64 P.m0, .int .i64 P.m1, .int .i64 P.m2] 31) = w2 at *
  clear hW hO0 hS HO1
  obtain ⟨C, hC⟩ : ∃ C, w1.heap.size = C := ⟨_, rfl⟩
  rw [hC] at Hbox
  simp only [hC]
  clear hC
  obtain ⟨e3, e4⟩ := tree_wrap z P.ps.length (by omega) hz
  have e3' : (IntKind.i64.wrap z).tmod P.ps.length = (((z % P.ps.length).toNat : Nat) : Int) := by rw [IntWalk.i64_left]; exact e3
  generalize (z % P.ps.length).toNat = b at e3 e3' e4
  obtain ⟨⟨pB, tB⟩, hpB⟩ : ∃ p, P.ps[b]? = some p := ⟨_, List.getElem?_eq_getElem (by omega)⟩
  obtain ⟨gp, go, hga, hcell⟩ := hS2.rp.resolve_left (fun he => by rw [he] at hn2; simp at hn2)
  have hcB := (hcell b _ hpB).1
  simp only at hcB
  have HPc := Lib.hid hcell
  have HPp := Lib.hid hpB
  obtain ⟨y0, y1, y2, y3, y4, y5, y6⟩ := relay Hbox (Only.refl _ w2)
  subst hga
  have hnne : P.ps.length ≠ 0 := by omega
  have hnne' : ((P.ps.length : Int) == 0) = false := by simp [hnne]
  have hn1' : (1 : Int) ≤ P.ps.length := by omega
  have hb' : (b : Int) < P.ps.length := by omega
  have hb0 : (0 : Int) ≤ b := by omega
  have HSm := Lib.hid hS2
  clear hcell hpB hS2
  go_upto_region 2 with fail
  go_still_tail 11, (by kernel_rfl)
  change wpList _ _ _ _ _ w2.drew
  have ho3 := (Only.refl (fun _ => False) w2).drew
  clear y0 y1 y2 y3 y4 y5 y6 hcB
  generalize w2.drew = w3 at *
  generalize IntKind.i64.wrap z = zw at *
  obtain ⟨y0, y1, y2, y3, y4, y5, y6⟩ := relay Hbox ho3
  -- Distances
  have HC := Lib.hid (Distances_ok (some ⟨gp, go, none⟩) la pc lc P pB w3 (HSm.out.keep ho3) (has_of HPp.out))
  unfold planV at HC
  go_wp2_with fail
  refine HC.out.mono ?_
  rintro e w4 ⟨ho4, gd, d, rfl, hgd, hrd, hd⟩
  have hO4 := ho3.trans ho4
  have HD := Lib.hid (And.intro hrd hd)
  clear y0 y1 y2 y3 y4 y5 y6 HC ho3 ho4 hgd hrd hd
  obtain ⟨y0, y1, y2, y3, y4, y5, y6⟩ := relay Hbox hO4
  -- the law's
  have HC := Lib.hid (lawdist_ok (some ⟨gp, go, none⟩) la pc lc P pB w4 (HSm.out.keep hO4) (has_of HPp.out) d HD.out.2)
  unfold planV at HC
  go_wp2_with fail
  refine HC.out.mono ?_
  rintro e w5 ⟨ho5, gw, rfl, hgw, hrw⟩
  have hO5 := hO4.trans ho5
  have hgdl := HD.out.1.lt
  have hdl := HD.out.2.len
  have hlow := HD.out.2.low
  have hhigh := HD.out.2.high
  have HRd := Lib.hid (HD.out.1.only ho5 (by simp))
  have HRw : Hid (Row w5 gw 3 P.ps.length (its (d.take 0 ++ (d.map up).drop 0))) := Lib.hid (by rw [List.take_zero, List.drop_zero, List.nil_append]; exact hrw)
  have HG := Lib.hid (And.intro hgw hO4.size)
  clear y0 y1 y2 y3 y4 y5 y6 HC ho5 hO4 hrw HD
  go_wp2_with fail
  go_loopg [10] P.ps.length (fun fu i wr => ∃ k : Nat, k ≤ P.ps.length ∧ i = .int .i64 k ∧ P.ps.length - k ≤ fu ∧ Only (fun i => i = gw) w5 wr ∧ Hid (Row wr gw 3 P.ps.length (its (d.take k ++ (d.map up).drop k))))
  case atStart => exact ⟨0, Nat.zero_le _, rfl, by omega, Only.refl _ _, HRw⟩
  case round =>
    clear HRw
    obtain ⟨k, hk, rfl, hfk, ho, HRw⟩ := hrel
    by_cases hlt : k < P.ps.length
    · have hlt' : (k : Int) < P.ps.length := by omega
      have hk0 : (0 : Int) ≤ k := by omega
      have hdk := o_get (out := d) (i := k) (by omega)
      have hlo := hlow k
      have hhi := hhigh k
      generalize o d k = v at hdk hlo hhi
      have hgg : gd ≠ gw := by omega
      have cd := (HRd.out.only ho hgg).cell (its_at hdk)
      have cw := HRw.out.cell (its_at (mix_at hdk))
      have fw := HRw.out.frozen k
      have HM := Lib.hid (mix_step hdk)
      by_cases hv : v < 0
      · have hv1 : v = -1 := by omega
        have hup : up v = 99 := by unfold up; rw [if_pos hv]
        rw [hup] at cw
        subst hv1
        have HR2 := Lib.hid (HRw.out.set k (.int .i64 (-1)))
        have hi2 : (its (d.take k ++ (d.map up).drop k)).set k (.int .i64 (-1)) = its (d.take (k + 1) ++ (d.map up).drop (k + 1)) := by rw [← HM.out]; simp [its, List.map_set]
        rw [hi2] at HR2
        have ho2 := ho.setCell (p := ⟨gw, k, none⟩) (.int .i64 (-1)) (fun _ => rfl)
        have hgl := HRw.out.lt
        have HK := Lib.hid hdk
        clear hdk hi2
        go_wp2_with fail
        generalize wr.setCell ⟨gw, k, none⟩ (.int .i64 (-1)) = wq at *
        clear cd cw fw ho
        have cd := (HRd.out.only ho2 hgg).cell (its_at HK.out)
        have cw := HR2.out.cell (its_at (mix_at2 HK.out))
        go_still_tail 8, (by kernel_rfl)
        change wpList _ _ _ _ _ wq.drew
        have ho3 := ho2.drew
        have HR3 : Hid (Row wq.drew gw 3 P.ps.length (its (d.take (k + 1) ++ (d.map up).drop (k + 1)))) := HR2
        clear cd cw ho2
        generalize wq.drew = w7 at *
        go_wp2_with fail
        go_roundg (P.ps.length - (k + 1))
        case measure => omega
        case rel => exact ⟨k + 1, by omega, by go_num, Nat.le_refl _, ho3, HR3⟩
      · have hup : up v = v := by unfold up; rw [if_neg hv]
        have hv99 : v ≠ 99 := by omega
        rw [hup] at cw
        have hi2 : Hid (Row wr gw 3 P.ps.length (its (d.take (k + 1) ++ (d.map up).drop (k + 1)))) := Lib.hid (by
          rw [← HM.out]
          have h := HRw.out
          have e : (d.take k ++ (d.map up).drop k).set k v = d.take k ++ (d.map up).drop k := by
            have := mix_at hdk
            rw [hup] at this
            obtain ⟨h1, h2⟩ := List.getElem?_eq_some_iff.1 this
            rw [← h2, List.set_getElem_self]
          rw [e]
          exact h)
        have HK := Lib.hid hdk
        clear hdk
        go_wp2_with fail
        go_still_tail 8, (by kernel_rfl)
        change wpList _ _ _ _ _ wr.drew
        have ho3 := ho.drew
        have HR3 : Hid (Row wr.drew gw 3 P.ps.length (its (d.take (k + 1) ++ (d.map up).drop (k + 1)))) := hi2
        clear cd cw fw ho
        generalize wr.drew = w7 at *
        go_wp2_with fail
        go_roundg (P.ps.length - (k + 1))
        case measure => omega
        case rel => exact ⟨k + 1, by omega, by go_num, Nat.le_refl _, ho3, HR3⟩
    · have hk' : k = P.ps.length := by omega
      subst hk'
      have HL := Lib.hid (lives_ok wr)
      have hw := HO2.out.size
      have hg := HG.out
      have hOA := (HO2.out.trans hO5).andThen ho (fun i hi h => by omega)
      go_wp2_with fail
      refine HL.out.mono ?_
      rintro e w8 ⟨ho8, rfl⟩
      go_wp2_with fail
      go_ret
      exact ⟨hOA.trans ho8, rfl⟩

end Go.Proofs.Ytpfcoeenblmifaa
