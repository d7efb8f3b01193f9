/-
  PlansFall: its walk.
-/
import Derived.Test.YtpfcoeenblmifaaQL
import Derived.Test.YtpfcoeenblmifaaQG
import Derived.Test.YtpfcoeenblmifaaFallP
import Derived.Deep.RegionHeld3
import Derived.Deep.DeepCutAuto
import Derived.Deep.LoopGhost
namespace Go.Proofs.Ytpfcoeenblmifaa
open Go.RowKit Go.PC

/-- A row of bytes, where it lies. -/
def RdW (w : World) (a : Option Addr) (ws : List Int) : Prop := ws = [] ∨ ∃ b off, a = some ⟨b, off, none⟩ ∧ ∀ i z, ws[i]? = some z → w.cell? ⟨b, off + i, none⟩ = some (.int .u8 z)

set_option maxHeartbeats 4000000 in
set_option maxRecDepth 100000 in
theorem fall_any (x : Nx) (ea : Option Addr) (ec : Nat) (hx : NxOK x) (z : Int) (hz : U8 z) (wa : Option Addr) (ws : List Int) (wc : Nat) (hws : ∀ z ∈ ws, U8 z) (w : World) (hre : RdE w ea x.ex) (hrw : RdW w wa ws) :
    Calls Try.prog 6 #[.agg (nxCells x (.slice ea x.ex.length ec)).toArray, .int .u8 z, .slice wa ws.length wc] w fun e w' => Only (fun _ => False) w w' ∧ e = .returned (.bool true) := by
  have HW := Lib.hid (And.intro hws hrw)
  clear hws hrw
  obtain ⟨many, c0, c1, c2, c3, c4, c5, ends, t0, t1, t2, t3, t4, t5, ex, rate, room, k0, k1, rfl⟩ := nx_lit x hx
  simp only at hre ⊢
  have HOf := Lib.hid (fun wx (ho : Only (fun _ => False) w wx) => of_lit hx ea ec wx (hre.keep ho))
  have e19 : (nxCells ⟨many, [c0, c1, c2, c3, c4, c5], ends, [t0, t1, t2, t3, t4, t5], ex, rate, room, k0, k1⟩ (.slice ea ex.length ec)).toArray = #[.int .u8 many, .int .u8 c0, .int .u8 c1, .int .u8 c2, .int .u8 c3, .int .u8 c4, .int .u8 c5, .int .u8 ends, .int .u8 t0, .int .u8 t1, .int .u8 t2, .int .u8 t3, .int .u8 t4, .int .u8 t5, .slice ea ex.length ec, .int .u8 rate, .int .u8 room, .int .u8 k0, .int .u8 k1] := rfl
  rw [e19]
  clear e19 hre hx
  go_enter Try.func6, Try.ntmps6
  go_upto_region 1 with fail
  have hOA := (Only.refl (fun _ => False) w).alloc (.cells #[.int .u8 many, .int .u8 c0, .int .u8 c1, .int .u8 c2, .int .u8 c3, .int .u8 c4, .int .u8 c5, .int .u8 ends, .int .u8 t0, .int .u8 t1, .int .u8 t2, .int .u8 t3, .int .u8 t4, .int .u8 t5, .slice ea ex.length ec, .int .u8 rate, .int .u8 room, .int .u8 k0, .int .u8 k1] 26)
  have hX1 : (w.alloc (.cells #[.int .u8 many, .int .u8 c0, .int .u8 c1, .int .u8 c2, .int .u8 c3, .int .u8 c4, .int .u8 c5, .int .u8 ends, .int .u8 t0, .int .u8 t1, .int .u8 t2, .int .u8 t3, .int .u8 t4, .int .u8 t5, .slice ea ex.length ec, .int .u8 rate, .int .u8 room, .int .u8 k0, .int .u8 k1] 26)).heap[w.heap.size]? = some (.cells #[.int .u8 many, .int .u8 c0, .int .u8 c1, .int .u8 c2, .int .u8 c3, .int .u8 c4, .int .u8 c5, .int .u8 ends, .int .u8 t0, .int .u8 t1, .int .u8 t2, .int .u8 t3, .int .u8 t4, .int .u8 t5, .slice ea ex.length ec, .int .u8 rate, .int .u8 room, .int .u8 k0, .int .u8 k1] 26) := (MapKept.heap_alloc w _).1
  have HOf1 := Lib.hid (HOf.out _ hOA)
  generalize hwA : w.alloc (.cells #[.int .u8 many, .int .u8 c0, .int .u8 c1, .int .u8 c2, .int .u8 c3, .int .u8 c4, .int .u8 c5, .int .u8 ends, .int .u8 t0, .int .u8 t1, .int .u8 t2, .int .u8 t3, .int .u8 t4, .int .u8 t5, .slice ea ex.length ec, .int .u8 rate, .int .u8 room, .int .u8 k0, .int .u8 k1] 26) = wA at *
  obtain ⟨B, hB⟩ : ∃ B, w.heap.size = B := ⟨_, rfl⟩
  rw [hB] at hX1
  simp only [hB]
  clear hB hwA HOf
  go_wp2_with (first | (refine wpList_load_row rfl _ _ rfl B rfl _ _ _ _ hX1 Try.underlying26 rfl (by kernel_rfl) ?_; clear hX1) | fail)
  refine HOf1.out.mono ?_
  rintro e w1 ⟨ho1, pa, la, pc, lc, P, rfl, hS, hn2, hn6, hG⟩
  have HO1 := Lib.hid (hOA.trans ho1)
  clear HOf1 ho1 hOA
  have hO0 := (Only.refl (fun _ => False) w1).alloc (planB pa la pc lc P)
  have Hbox := Lib.hid (World.cell?_alloc_new w1 #[.slice pa P.ps.length pc, .slice la P.ls.length lc, .int .i64 P.rate, .int .i64 P.room, .int .i64 P.m0, .int .i64 P.m1, .int .i64 P.m2] 31)
  have hS2 := hS.keep hO0
  unfold planV planB at *
  go_upto_region 2 with fail
  have HO2 := Lib.hid (HO1.out.trans hO0)
  generalize hW : w1.alloc (.cells #[.slice pa P.ps.length pc, .slice la P.ls.length lc, .int .i64 P.rate, .int .i64 P.room, .int .i64 P.m0, .int .i64 P.m1, .int .i64 P.m2] 31) = w2 at *
  clear hW hO0 hS HO1
  obtain ⟨C, hC⟩ : ∃ C, w1.heap.size = C := ⟨_, rfl⟩
  rw [hC] at Hbox
  simp only [hC]
  clear hC
  obtain ⟨e3, e4⟩ := tree_wrap z P.ps.length (by omega) hz
  have e3' : (IntKind.i64.wrap z).tmod P.ps.length = (((z % P.ps.length).toNat : Nat) : Int) := by rw [IntWalk.i64_left]; exact e3
  generalize (z % P.ps.length).toNat = b at e3 e3' e4
  obtain ⟨⟨pB, tB⟩, hpB⟩ : ∃ p, P.ps[b]? = some p := ⟨_, List.getElem?_eq_getElem (by omega)⟩
  obtain ⟨gp, go, hga, hcell⟩ := hS2.rp.resolve_left (fun he => by rw [he] at hn2; simp at hn2)
  have hcB := (hcell b _ hpB).1
  simp only at hcB
  have HPc := Lib.hid hcell
  have HPp := Lib.hid hpB
  obtain ⟨y0, y1, y2, y3, y4, y5, y6⟩ := relay Hbox (Only.refl _ w2)
  subst hga
  have hnne : P.ps.length ≠ 0 := by omega
  have hnne' : ((P.ps.length : Int) == 0) = false := by simp [hnne]
  have hn1' : (1 : Int) ≤ P.ps.length := by omega
  have hb' : (b : Int) < P.ps.length := by omega
  have hb0 : (0 : Int) ≤ b := by omega
  have HSm := Lib.hid hS2
  clear hcell hpB hS2
  go_upto_region 2 with fail
  go_still_tail 11, (by kernel_rfl)
  change wpList _ _ _ _ _ w2.drew
  have ho3 := (Only.refl (fun _ => False) w2).drew
  clear y0 y1 y2 y3 y4 y5 y6 hcB
  generalize w2.drew = w3 at *
  generalize IntKind.i64.wrap z = zw at *
  obtain ⟨y0, y1, y2, y3, y4, y5, y6⟩ := relay Hbox ho3
  -- Heights
  have HC := Lib.hid (Heights_ok (some ⟨gp, go, none⟩) la pc lc P pB w3 (HSm.out.keep ho3) (has_of HPp.out))
  unfold planV at HC
  go_wp2_with fail
  refine HC.out.mono ?_
  rintro e w4 ⟨ho4, gh, d, ht, rfl, hgh, hrh, hd, hh⟩
  have hO4 := ho3.trans ho4
  have HH := Lib.hid (And.intro hrh (And.intro hd hh))
  clear y0 y1 y2 y3 y4 y5 y6 HC ho3 ho4 hgh hrh hd hh
  obtain ⟨y0, y1, y2, y3, y4, y5, y6⟩ := relay Hbox hO4
  -- Distances
  have HC := Lib.hid (Distances_ok (some ⟨gp, go, none⟩) la pc lc P pB w4 (HSm.out.keep hO4) (has_of HPp.out))
  unfold planV at HC
  go_wp2_with fail
  refine HC.out.mono ?_
  rintro e w5 ⟨ho5, gd, d', rfl, hgd, hrd, hd'⟩
  have hdd : d' = d := hd'.unique HH.out.2.1
  subst hdd
  have hO5 := hO4.trans ho5
  have HRh := Lib.hid (HH.out.1.only ho5 (by simp))
  have HRd := Lib.hid hrd
  have HD := Lib.hid HH.out.2
  clear y0 y1 y2 y3 y4 y5 y6 HC ho5 hO4 hgd hrd hd' HH
  obtain ⟨y0, y1, y2, y3, y4, y5, y6⟩ := relay Hbox hO5
  have hdl : d'.length = P.ps.length := HD.out.1.len
  have hhl : ht.length = P.ps.length := HD.out.2.len.trans hdl
  go_wp2_with fail
  clear y0 y1 y2 y3 y4 y5 y6
  go_loopg [13] P.ps.length (fun fu i wr => ∃ k : Nat, k ≤ P.ps.length ∧ i = .int .i64 k ∧ P.ps.length - k ≤ fu ∧ Only (fun _ => False) w5 wr)
  case atStart => exact ⟨0, Nat.zero_le _, rfl, by omega, Only.refl _ _⟩
  case round =>
    obtain ⟨k, hk, rfl, hfk, ho⟩ := hrel
    obtain ⟨y0, y1, y2, y3, y4, y5, y6⟩ := relay Hbox (hO5.trans ho)
    by_cases hlt : k < P.ps.length
    · have hlt' : (k : Int) < P.ps.length := by omega
      obtain ⟨wk, hwk⟩ : ∃ wk : World, wk = wr := ⟨_, rfl⟩
      rw [← hwk] at ho y0 y1 y2 y3 y4 y5 y6 ⊢
      clear hwk wr
      go_upto_region 12 with fail
      have hn6' : (P.ps.length : Int) ≤ 6 := by omega
      clear y0 y1 y2 y3 y4 y5 y6
      go_loopg [14, 15] (P.ps.length + 1) (fun fu at' st wr => ∃ (a s : Nat), at' = .int .i64 a ∧ st = .int .i64 s ∧ a < P.ps.length ∧ (s : Int) ≤ P.ps.length ∧ (s : Int) + hOf d' a ≤ P.ps.length ∧ P.ps.length + 1 - s ≤ fu ∧ Only (fun _ => False) wk wr)
      case atStart => exact ⟨k, 0, rfl, rfl, hlt, by omega, by have := hOf_le d' k; rw [hdl] at this; omega, by omega, Only.refl _ _⟩
      case round =>
        obtain ⟨a, s, rfl, rfl, hal, hs1, hs2, hfs, hoi⟩ := hrel
        obtain ⟨⟨ca, ta⟩, hpa⟩ : ∃ p, P.ps[a]? = some p := ⟨_, List.getElem?_eq_getElem hal⟩
        have hcA := (HPc.out a _ hpa).1
        have hO6 := hO5.trans (ho.trans hoi)
        have hcA := hO6.cell hcA (by simp)
        simp only at hcA
        obtain ⟨y0, y1, y2, y3, y4, y5, y6⟩ := relay Hbox hO6
        have ha' : (a : Int) < P.ps.length := by omega
        have ha0 : (0 : Int) ≤ a := by omega
        by_cases hab : a = b
        · subst hab
          have hcb : ca = pB := by have h := HPp.out; rw [hpa] at h; cases h; rfl
          subst hcb
          clear hpa
          go_wp2_with fail
          go_roundg (P.ps.length - (k + 1))
          case measure => omega
          case rel => exact ⟨k + 1, by omega, by go_num, Nat.le_refl _, ho.trans hoi⟩
        · have hcb : ca ≠ pB := fun he => by
            subst he
            have h1 := idx_at HSm.out.ok.asc hpa
            have h2 := idx_at HSm.out.ok.asc HPp.out
            simp only at h1 h2
            omega
          have hia : idxOf P.ps ca = a := idx_at HSm.out.ok.asc hpa
          have HChs := Lib.hid (fun wb (hwb : Only (fun _ => False) wr wb) => Choices_ok (some ⟨gp, go, none⟩) la pc lc P ca pB wb (HSm.out.keep (hO6.trans hwb)) (has_of hpa) (has_of HPp.out) hcb)
          unfold planV at HChs
          have HPa := Lib.hid (And.intro hpa (And.intro hcb hia))
          have HCh : Hid (∀ wb, Only (fun _ => False) wr wb → wb.cell? ⟨C, 0, none⟩ = some (.slice (some ⟨gp, go, none⟩) P.ps.length pc) ∧ wb.cell? ⟨C, 1, none⟩ = some (.slice la P.ls.length lc) ∧ wb.cell? ⟨C, 2, none⟩ = some (.int .i64 P.rate) ∧ wb.cell? ⟨C, 3, none⟩ = some (.int .i64 P.room) ∧ wb.cell? ⟨C, 4, none⟩ = some (.int .i64 P.m0) ∧ wb.cell? ⟨C, 5, none⟩ = some (.int .i64 P.m1) ∧ wb.cell? ⟨C, 6, none⟩ = some (.int .i64 P.m2) ∧ wb.cell? ⟨gp, go + a * 2, none⟩ = some (.int .u16 ca)) := Lib.hid fun wb hwb => ⟨hwb.cell y0 (by simp), hwb.cell y1 (by simp), hwb.cell y2 (by simp), hwb.cell y3 (by simp), hwb.cell y4 (by simp), hwb.cell y5 (by simp), hwb.cell y6 (by simp), hwb.cell hcA (by simp)⟩
          have hOR := Only.refl (fun _ => False) wr
          have HNum := Lib.hid (And.intro hal (And.intro hs1 (And.intro hs2 hfs)))
          have HO6 := Lib.hid (And.intro hO6 (ho.trans hoi))
          have HOI := Lib.hid hoi
          clear hpa hia
          go_upto_region 14 with fail
          go_region_held3 (fun wb => Only (fun _ => False) wr wb ∧ wb.cell? ⟨C, 0, none⟩ = some (.slice (some ⟨gp, go, none⟩) P.ps.length pc) ∧ wb.cell? ⟨C, 1, none⟩ = some (.slice la P.ls.length lc) ∧ wb.cell? ⟨C, 2, none⟩ = some (.int .i64 P.rate) ∧ wb.cell? ⟨C, 3, none⟩ = some (.int .i64 P.room) ∧ wb.cell? ⟨C, 4, none⟩ = some (.int .i64 P.m0) ∧ wb.cell? ⟨C, 5, none⟩ = some (.int .i64 P.m1) ∧ wb.cell? ⟨C, 6, none⟩ = some (.int .i64 P.m2) ∧ wb.cell? ⟨gp, go + a * 2, none⟩ = some (.int .u16 ca)) (first | exact ⟨Only.drew (by assumption), HCh.out _ (Only.drew (by assumption))⟩ | (go_split_ands; exact ⟨by assumption, HCh.out _ (by assumption)⟩) | (go_split_ands; exact ⟨Only.trans (by assumption) hoq, HCh.out _ (Only.trans (by assumption) hoq)⟩)) ((go_at_call 14; go_split_ands; refine (HChs.out _ (by assumption)).mono ?_; rintro e w6 ⟨hoq, aa, ys, dq, rfl, hrq, hdq, hlx, hmm⟩; have HQ := Lib.hid (And.intro hrq (And.intro hdq (And.intro hlx hmm))); clear hrq hdq hlx hmm))
          have hoq6 : Only (fun _ => False) wr w6 := by go_split_ands; assumption
          clear y0 y1 y2 y3 y4 y5 y6 hcA HCh HChs hOR hoq
          obtain ⟨hrq, hdq, hlx, hmm⟩ := HQ.out
          have hdd : dq = d' := hdq.unique HD.out.1
          subst hdd
          have hia := HPa.out.2.2
          rw [hia] at hmm
          have HCs : Hid (Chs P dq a ca pB ys) := Lib.hid ⟨hlx, hmm⟩
          have hO7 := HO6.out.1.trans hoq6
          have HRh7 := Lib.hid (HRh.out.only (HO6.out.2.trans hoq6) (by simp))
          have HRd7 := Lib.hid (HRd.out.only (HO6.out.2.trans hoq6) (by simp))
          have hhv : o ht a = hOf dq a := HD.out.2.eq (by rw [hdl]; exact hal)
          have cha := HRh7.out.cell (its_at (o_get (out := ht) (i := a) (by omega)))
          rw [hhv] at cha
          have hs1 := HNum.out.2.1
          have hal := HNum.out.1
          have hhb := hOf_le dq a
          rw [hdl] at hhb
          clear hdq hlx hmm hia hhv HQ
          have HO7 := Lib.hid hO7
          obtain ⟨y0, y1, y2, y3, y4, y5, y6⟩ := relay Hbox hO7
          clear hO7
          cases ys with
          | nil =>
            have hv0 : ¬ (0 < hOf dq a) := fun hp => by
              obtain ⟨y, hy, _⟩ := HCs.out.has1 HSm.out.ok (has_of HPp.out) HPa.out.1 HPa.out.2.1 HD.out.1 hp
              cases hy
            have hv1 : hOf dq a ≤ 0 := by omega
            generalize hOf dq a = hv at cha hv0 hv1 hhb
            go_wp2_with fail
            go_roundg (P.ps.length - (k + 1))
            case measure => omega
            case rel => exact ⟨k + 1, by omega, by go_num, Nat.le_refl _, HO6.out.2.trans hoq6⟩
          | cons y ys =>
            obtain ⟨hp, hy2⟩ := HCs.out.first HSm.out.ok (has_of HPp.out) HPa.out.1 HPa.out.2.1 HD.out.1
            obtain ⟨gc, rfl, capc, hrc⟩ : ∃ gc, aa = some ⟨gc, 0, none⟩ ∧ ∃ cap, Row w6 gc 49 cap (chs (y :: ys)) := by
              rcases hrq with ⟨_, h⟩ | ⟨g, cap, h1, _, h3⟩
              · cases h
              · exact ⟨g, h1, cap, h3⟩
            have HRc := Lib.hid hrc
            have hyl0 : (0 : Int) < ((y :: ys).length : Int) := by simp only [List.length_cons]; omega
            obtain ⟨L, hL⟩ : ∃ L, (y :: ys).length = L := ⟨_, rfl⟩
            have hL1 : 1 ≤ L := by rw [← hL]; simp
            rw [hL] at hyl0 ⊢
            have HL := Lib.hid hL
            clear hrc hrq hL
            have hsn : ¬ (P.ps.length : Int) < s := by omega
            have HV := Lib.hid (And.intro hp hy2)
            obtain ⟨hv, hhv⟩ : ∃ hv, hOf dq a = hv := ⟨_, rfl⟩
            have HHv := Lib.hid hhv
            rw [hhv] at cha hp hhb
            clear hhv hy2
            by_cases hsw : s < ws.length
            · have hsw' : (s : Int) < ws.length := by omega
              obtain ⟨wz, hwz⟩ : ∃ wz, ws[s]? = some wz := ⟨_, List.getElem?_eq_getElem hsw⟩
              obtain ⟨bw, ow, rfl, hwc⟩ := HW.out.2.resolve_left (fun he => by rw [he] at hsw; cases hsw)
              have cw := (HO2.out.trans HO7.out).cell (hwc s wz hwz) (by simp)
              obtain ⟨f1, f2⟩ := tree_wrap wz L hL1 (HW.out.1 wz (List.mem_of_getElem? hwz))
              have f1' : (IntKind.i64.wrap wz).tmod L = (((wz % L).toNat : Nat) : Int) := by rw [IntWalk.i64_left]; exact f1
              generalize (wz % L).toNat = kk at f1 f1' f2
              have hLne : L ≠ 0 := by omega
              have hLne' : ((L : Int) == 0) = false := by simp [hLne]
              have hL1' : (1 : Int) ≤ L := by omega
              have hkk' : (kk : Int) < L := by omega
              have hkk0 : (0 : Int) ≤ kk := by omega
              obtain ⟨⟨nx, rk⟩, hyk⟩ : ∃ q, (y :: ys)[kk]? = some q := ⟨_, List.getElem?_eq_getElem (by rw [HL.out]; exact f2)⟩
              clear hwz hwc
              obtain ⟨hcn, hn0, hn1⟩ := HCs.out.down HSm.out.ok (List.mem_of_getElem? hyk)
              obtain ⟨tn, hnat⟩ := has_at HSm.out.ok.asc hcn
              have hnl := (List.getElem?_eq_some_iff.1 hnat).1
              simp only at hcn hn0 hn1 hnat hnl
              have ck := HRc.out.cell (chs_at hyk).1
              have c1 := HRc.out.cell (chs_at (xs := y :: ys) (i := 0) (p := y) rfl).2
              simp only [Nat.zero_mul, Nat.zero_add] at ck c1
              have HIx := Lib.hid (fun wb (hwb : Only (fun _ => False) w6 wb) => index_ok (some ⟨gp, go, none⟩) la pc lc P nx wb (HSm.out.keep (HO7.out.trans hwb)) hcn)
              unfold planV at HIx
              rw [HHv.out] at hn1
              generalize hN : idxOf P.ps nx = N at *
              have HNx := Lib.hid (And.intro hn0 (And.intro hn1 hnl))
              have HCh : Hid (∀ wb, Only (fun _ => False) w6 wb → wb.cell? ⟨C, 0, none⟩ = some (.slice (some ⟨gp, go, none⟩) P.ps.length pc) ∧ wb.cell? ⟨C, 1, none⟩ = some (.slice la P.ls.length lc) ∧ wb.cell? ⟨C, 2, none⟩ = some (.int .i64 P.rate) ∧ wb.cell? ⟨C, 3, none⟩ = some (.int .i64 P.room) ∧ wb.cell? ⟨C, 4, none⟩ = some (.int .i64 P.m0) ∧ wb.cell? ⟨C, 5, none⟩ = some (.int .i64 P.m1) ∧ wb.cell? ⟨C, 6, none⟩ = some (.int .i64 P.m2) ∧ wb.cell? ⟨gc, kk * 2, none⟩ = some (.int .u16 nx)) := Lib.hid fun wb hwb => ⟨hwb.cell y0 (by simp), hwb.cell y1 (by simp), hwb.cell y2 (by simp), hwb.cell y3 (by simp), hwb.cell y4 (by simp), hwb.cell y5 (by simp), hwb.cell y6 (by simp), hwb.cell ck (by simp)⟩
              have hOR := Only.refl (fun _ => False) w6
              have HC1 := Lib.hid (And.intro cha c1)
              have HPH := Lib.hid (And.intro hp hhb)
              clear hyk hcn hn0 hn1 hnat hN
              go_wp2_with fail
              go_region_held3 (fun wb => Only (fun _ => False) w6 wb ∧ wb.cell? ⟨C, 0, none⟩ = some (.slice (some ⟨gp, go, none⟩) P.ps.length pc) ∧ wb.cell? ⟨C, 1, none⟩ = some (.slice la P.ls.length lc) ∧ wb.cell? ⟨C, 2, none⟩ = some (.int .i64 P.rate) ∧ wb.cell? ⟨C, 3, none⟩ = some (.int .i64 P.room) ∧ wb.cell? ⟨C, 4, none⟩ = some (.int .i64 P.m0) ∧ wb.cell? ⟨C, 5, none⟩ = some (.int .i64 P.m1) ∧ wb.cell? ⟨C, 6, none⟩ = some (.int .i64 P.m2) ∧ wb.cell? ⟨gc, kk * 2, none⟩ = some (.int .u16 nx)) (first | exact ⟨Only.drew (by assumption), HCh.out _ (Only.drew (by assumption))⟩ | (go_split_ands; exact ⟨by assumption, HCh.out _ (by assumption)⟩) | (go_split_ands; exact ⟨Only.trans (by assumption) hoq, HCh.out _ (Only.trans (by assumption) hoq)⟩)) ((go_at_call 16; go_split_ands; refine (HIx.out _ (by assumption)).mono ?_; rintro e w7 ⟨hoq, rfl⟩))
              have hoq7 : Only (fun _ => False) w6 w7 := by go_split_ands; assumption
              clear y0 y1 y2 y3 y4 y5 y6 ck c1 HCh HIx hOR hoq
              have hnl := HNx.out.2.2
              have hN' : (N : Int) < P.ps.length := by omega
              have hN0 : (0 : Int) ≤ N := by omega
              have hNn : ¬ (N : Int) < 0 := by omega
              have g1 := hoq7.cell HC1.out.1 (by simp)
              have g2 := hoq7.cell HC1.out.2 (by simp)
              have g3 := (HRh7.out.only hoq7 (by simp)).cell (its_at (o_get (out := ht) (i := N) (by omega)))
              have g4 := (HRd7.out.only hoq7 (by simp)).cell (its_at (o_get (out := dq) (i := a) (by have := HNum.out.1; omega)))
              have hhN : o ht N = hOf dq N := HD.out.2.eq (by rw [hdl]; exact hnl)
              rw [hhN] at g3
              have hy2 := HV.out.2
              have hn0 := HNx.out.1
              have hn1 := HNx.out.2.1
              obtain ⟨hvn, hhvn⟩ : ∃ hvn, hOf dq N = hvn := ⟨_, rfl⟩
              have HHn := Lib.hid hhvn
              rw [hhvn] at g3 hn0 hn1
              obtain ⟨da, hda⟩ : ∃ da, o dq a = da := ⟨_, rfl⟩
              have hdb : 0 ≤ da ∧ da ≤ 12 := by
                have h1 := hOf_nonneg.1 (Int.le_of_lt HV.out.1)
                have h2 := HD.out.1.high a
                rw [hda] at h1 h2
                omega
              rw [hda] at g4 hy2
              have hw1 : wrap64 (da - 1) = da - 1 := IntWalk.wrap64_in _ (by omega)
              have hw2 : IntKind.i64.wrap (da - 1) = da - 1 := IntWalk.i64_in _ (by omega)
              have hnn : ¬ hvn < 0 := by omega
              have hnn2 : ¬ hv ≤ hvn := by omega
              rw [hy2] at g2
              have ha0 := HPH.out.1
              clear hhN hhvn hda hy2 hdb
              go_upto_region 22 with fail
              go_still_tail 31, (by kernel_rfl)
              change wpList _ _ _ _ _ w7.drew
              have hoq8 := hoq7.drew
              clear g1 g2 g3 g4 hoq7
              generalize w7.drew = w8 at *
              have hst := HNum.out.2.2.1
              rw [HHv.out] at hst
              have hgk := HNum.out.2.2.2
              have hsl := HNum.out.2.1
              have hvl := HNx.out.2.1
              have hvl0 := HPH.out.1
              rw [HHn.out] at hvl
              have HOm := Lib.hid (And.intro hst (And.intro hgk (And.intro hsl (And.intro hvl hvl0))))
              clear hst hgk hsl hvl hvl0
              go_wp2_with fail
              have hst := HOm.out
              go_roundg (P.ps.length + 1 - (s + 1))
              case measure => omega
              case rel => exact ⟨N, s + 1, rfl, by go_num, HNx.out.2.2, by omega, by rw [HHn.out]; omega, Nat.le_refl _, HOI.out.trans (hoq6.trans hoq8)⟩
            · have hsw' : ¬ (s : Int) < ws.length := by omega
              obtain ⟨nx, rk⟩ := y
              have hyk : ((nx, rk) :: ys)[0]? = some (nx, rk) := rfl
              obtain ⟨hcn, hn0, hn1⟩ := HCs.out.down HSm.out.ok (List.mem_of_getElem? hyk)
              obtain ⟨tn, hnat⟩ := has_at HSm.out.ok.asc hcn
              have hnl := (List.getElem?_eq_some_iff.1 hnat).1
              simp only at hcn hn0 hn1 hnat hnl
              have ck := HRc.out.cell (chs_at hyk).1
              have c1 := HRc.out.cell (chs_at (xs := (nx, rk) :: ys) (i := 0) (p := (nx, rk)) rfl).2
              simp only [Nat.zero_mul, Nat.zero_add] at ck c1
              have HIx := Lib.hid (fun wb (hwb : Only (fun _ => False) w6 wb) => index_ok (some ⟨gp, go, none⟩) la pc lc P nx wb (HSm.out.keep (HO7.out.trans hwb)) hcn)
              unfold planV at HIx
              rw [HHv.out] at hn1
              generalize hN : idxOf P.ps nx = N at *
              have HNx := Lib.hid (And.intro hn0 (And.intro hn1 hnl))
              have HCh : Hid (∀ wb, Only (fun _ => False) w6 wb → wb.cell? ⟨C, 0, none⟩ = some (.slice (some ⟨gp, go, none⟩) P.ps.length pc) ∧ wb.cell? ⟨C, 1, none⟩ = some (.slice la P.ls.length lc) ∧ wb.cell? ⟨C, 2, none⟩ = some (.int .i64 P.rate) ∧ wb.cell? ⟨C, 3, none⟩ = some (.int .i64 P.room) ∧ wb.cell? ⟨C, 4, none⟩ = some (.int .i64 P.m0) ∧ wb.cell? ⟨C, 5, none⟩ = some (.int .i64 P.m1) ∧ wb.cell? ⟨C, 6, none⟩ = some (.int .i64 P.m2) ∧ wb.cell? ⟨gc, 0, none⟩ = some (.int .u16 nx)) := Lib.hid fun wb hwb => ⟨hwb.cell y0 (by simp), hwb.cell y1 (by simp), hwb.cell y2 (by simp), hwb.cell y3 (by simp), hwb.cell y4 (by simp), hwb.cell y5 (by simp), hwb.cell y6 (by simp), hwb.cell ck (by simp)⟩
              have hOR := Only.refl (fun _ => False) w6
              have HC1 := Lib.hid (And.intro cha c1)
              have HPH := Lib.hid (And.intro hp hhb)
              clear hyk hcn hn0 hn1 hnat hN
              go_wp2_with fail
              go_region_held3 (fun wb => Only (fun _ => False) w6 wb ∧ wb.cell? ⟨C, 0, none⟩ = some (.slice (some ⟨gp, go, none⟩) P.ps.length pc) ∧ wb.cell? ⟨C, 1, none⟩ = some (.slice la P.ls.length lc) ∧ wb.cell? ⟨C, 2, none⟩ = some (.int .i64 P.rate) ∧ wb.cell? ⟨C, 3, none⟩ = some (.int .i64 P.room) ∧ wb.cell? ⟨C, 4, none⟩ = some (.int .i64 P.m0) ∧ wb.cell? ⟨C, 5, none⟩ = some (.int .i64 P.m1) ∧ wb.cell? ⟨C, 6, none⟩ = some (.int .i64 P.m2) ∧ wb.cell? ⟨gc, 0, none⟩ = some (.int .u16 nx)) (first | exact ⟨Only.drew (by assumption), HCh.out _ (Only.drew (by assumption))⟩ | (go_split_ands; exact ⟨by assumption, HCh.out _ (by assumption)⟩) | (go_split_ands; exact ⟨Only.trans (by assumption) hoq, HCh.out _ (Only.trans (by assumption) hoq)⟩)) ((go_at_call 16; go_split_ands; refine (HIx.out _ (by assumption)).mono ?_; rintro e w7 ⟨hoq, rfl⟩))
              have hoq7 : Only (fun _ => False) w6 w7 := by go_split_ands; assumption
              clear y0 y1 y2 y3 y4 y5 y6 ck c1 HCh HIx hOR hoq
              have hnl := HNx.out.2.2
              have hN' : (N : Int) < P.ps.length := by omega
              have hN0 : (0 : Int) ≤ N := by omega
              have hNn : ¬ (N : Int) < 0 := by omega
              have g1 := hoq7.cell HC1.out.1 (by simp)
              have g2 := hoq7.cell HC1.out.2 (by simp)
              have g3 := (HRh7.out.only hoq7 (by simp)).cell (its_at (o_get (out := ht) (i := N) (by omega)))
              have g4 := (HRd7.out.only hoq7 (by simp)).cell (its_at (o_get (out := dq) (i := a) (by have := HNum.out.1; omega)))
              have hhN : o ht N = hOf dq N := HD.out.2.eq (by rw [hdl]; exact hnl)
              rw [hhN] at g3
              have hy2 := HV.out.2
              have hn0 := HNx.out.1
              have hn1 := HNx.out.2.1
              obtain ⟨hvn, hhvn⟩ : ∃ hvn, hOf dq N = hvn := ⟨_, rfl⟩
              have HHn := Lib.hid hhvn
              rw [hhvn] at g3 hn0 hn1
              obtain ⟨da, hda⟩ : ∃ da, o dq a = da := ⟨_, rfl⟩
              have hdb : 0 ≤ da ∧ da ≤ 12 := by
                have h1 := hOf_nonneg.1 (Int.le_of_lt HV.out.1)
                have h2 := HD.out.1.high a
                rw [hda] at h1 h2
                omega
              rw [hda] at g4 hy2
              have hw1 : wrap64 (da - 1) = da - 1 := IntWalk.wrap64_in _ (by omega)
              have hw2 : IntKind.i64.wrap (da - 1) = da - 1 := IntWalk.i64_in _ (by omega)
              have hnn : ¬ hvn < 0 := by omega
              have hnn2 : ¬ hv ≤ hvn := by omega
              rw [hy2] at g2
              have ha0 := HPH.out.1
              clear hhN hhvn hda hy2 hdb
              go_upto_region 22 with fail
              go_still_tail 31, (by kernel_rfl)
              change wpList _ _ _ _ _ w7.drew
              have hoq8 := hoq7.drew
              clear g1 g2 g3 g4 hoq7
              generalize w7.drew = w8 at *
              have hst := HNum.out.2.2.1
              rw [HHv.out] at hst
              have hgk := HNum.out.2.2.2
              have hsl := HNum.out.2.1
              have hvl := HNx.out.2.1
              have hvl0 := HPH.out.1
              rw [HHn.out] at hvl
              have HOm := Lib.hid (And.intro hst (And.intro hgk (And.intro hsl (And.intro hvl hvl0))))
              clear hst hgk hsl hvl hvl0
              go_wp2_with fail
              have hst := HOm.out
              go_roundg (P.ps.length + 1 - (s + 1))
              case measure => omega
              case rel => exact ⟨N, s + 1, rfl, by go_num, HNx.out.2.2, by omega, by rw [HHn.out]; omega, Nat.le_refl _, HOI.out.trans (hoq6.trans hoq8)⟩
    · have hk' : k = P.ps.length := by omega
      subst hk'
      have HL := Lib.hid (lives_ok wr)
      have hOA := HO2.out.trans (hO5.trans ho)
      go_wp2_with fail
      refine HL.out.mono ?_
      rintro e w8 ⟨ho8, rfl⟩
      go_wp2_with fail
      go_ret
      exact ⟨hOA.trans ho8, rfl⟩

end Go.Proofs.Ytpfcoeenblmifaa
