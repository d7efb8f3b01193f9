/-
  PlansNear: its walk.
-/
import Derived.Test.YtpfcoeenblmifaaQL
import Derived.Test.YtpfcoeenblmifaaNearP
import Derived.Deep.LoopGhost
namespace Go.Proofs.Ytpfcoeenblmifaa
open Go.RowKit Go.PC

/-- How many of nb lie among the first q places. -/
def seen (P : Pn) (nb : List Int) (q : Nat) : Nat := nb.countP fun z => decide (idxOf P.ps z < q)

theorem seen_zero (P : Pn) (nb : List Int) : seen P nb 0 = 0 := by unfold seen; rw [List.countP_eq_zero]; simp

theorem seen_all {P : Pn} (hok : PlanOK P) {nb : List Int} (h : ∀ z ∈ nb, hasCode P.ps z = true) : seen P nb P.ps.length = nb.length := by
  unfold seen
  rw [List.countP_eq_length]
  intro z hz
  obtain ⟨t, ht⟩ := has_at hok.asc (h z hz)
  simpa using (List.getElem?_eq_some_iff.1 ht).1

theorem seen_at {P : Pn} (hok : PlanOK P) {nb : List Int} (h : ∀ z ∈ nb, hasCode P.ps z = true) (hp : nb.Pairwise fun a b => a < b) {q : Nat} {c : Int} {t : Bool} (hq : P.ps[q]? = some (c, t)) :
    (c ∈ nb → nb[seen P nb q]? = some c) ∧ seen P nb (q + 1) = seen P nb q + (if c ∈ nb then 1 else 0) := by
  have e1 : seen P nb q = nb.countP fun z => decide (z < c) := by
    unfold seen
    apply List.countP_congr
    intro z hz
    obtain ⟨t', ht'⟩ := has_at hok.asc (h z hz)
    simp only [decide_eq_true_eq]
    constructor
    · intro hlt
      exact hok.asc.lt ht' hq hlt
    · intro hlt
      rcases Nat.lt_or_ge (idxOf P.ps z) q with h1 | h1
      · exact h1
      · rcases Nat.eq_or_lt_of_le h1 with h2 | h2
        · rw [← h2, hq] at ht'; cases ht'; omega
        · have := hok.asc.lt hq ht' h2; simp only at this; omega
  have e2 : seen P nb (q + 1) = nb.countP fun z => decide (z ≤ c) := by
    unfold seen
    apply List.countP_congr
    intro z hz
    obtain ⟨t', ht'⟩ := has_at hok.asc (h z hz)
    simp only [decide_eq_true_eq]
    constructor
    · intro hlt
      rcases Nat.lt_or_ge (idxOf P.ps z) q with h1 | h1
      · have := hok.asc.lt ht' hq h1; simp only at this; omega
      · have h2 : q = idxOf P.ps z := by omega
        rw [← h2, hq] at ht'; cases ht'; omega
    · intro hle
      rcases Nat.lt_or_ge q (idxOf P.ps z) with h1 | h1
      · have := hok.asc.lt hq ht' h1; simp only at this; omega
      · omega
  refine ⟨fun hm => by rw [e1]; exact nth_asc hp hm, by rw [e1, e2]; exact cnt_step hp⟩

theorem links_pos {P : Pn} (hok : PlanOK P) {x y : Int} (hne : x ≠ y) : 0 < (linksOf P.ls (if x < y then x else y) (if x < y then y else x)).length ↔ y ∈ othersOf P.ls x := by
  rw [linksOf_cnt, ← betw_cnt (fun l hl => (hok.lines l hl).1), List.countP_pos_iff, others_mem]
  constructor
  · rintro ⟨l, hl, h⟩
    refine ⟨l, hl, ?_⟩
    rcases betw_iff.1 h with h | h
    · exact Or.inl h
    · exact Or.inr ⟨by omega, h.2, h.1⟩
  · rintro ⟨l, hl, h⟩
    refine ⟨l, hl, betw_iff.2 ?_⟩
    rcases h with h | h
    · exact Or.inl h
    · exact Or.inr ⟨h.2.2, h.2.1⟩

set_option maxHeartbeats 4000000 in
set_option maxRecDepth 100000 in
theorem near_any (x : Nx) (ea : Option Addr) (ec : Nat) (hx : NxOK x) (w : World) (hre : RdE w ea x.ex) :
    Calls Try.prog 8 #[.agg (nxCells x (.slice ea x.ex.length ec)).toArray] w fun e w' => Only (fun _ => False) w w' ∧ e = .returned (.bool true) := by
  obtain ⟨many, c0, c1, c2, c3, c4, c5, ends, t0, t1, t2, t3, t4, t5, ex, rate, room, k0, k1, rfl⟩ := nx_lit x hx
  simp only at hre ⊢
  have HOf := Lib.hid (fun wx (ho : Only (fun _ => False) w wx) => of_lit hx ea ec wx (hre.keep ho))
  have e19 : (nxCells ⟨many, [c0, c1, c2, c3, c4, c5], ends, [t0, t1, t2, t3, t4, t5], ex, rate, room, k0, k1⟩ (.slice ea ex.length ec)).toArray = #[.int .u8 many, .int .u8 c0, .int .u8 c1, .int .u8 c2, .int .u8 c3, .int .u8 c4, .int .u8 c5, .int .u8 ends, .int .u8 t0, .int .u8 t1, .int .u8 t2, .int .u8 t3, .int .u8 t4, .int .u8 t5, .slice ea ex.length ec, .int .u8 rate, .int .u8 room, .int .u8 k0, .int .u8 k1] := rfl
  rw [e19]
  clear e19 hre hx
  go_enter Try.func8, Try.ntmps8
  go_upto_region 1 with fail
  have hOA := (Only.refl (fun _ => False) w).alloc (.cells #[.int .u8 many, .int .u8 c0, .int .u8 c1, .int .u8 c2, .int .u8 c3, .int .u8 c4, .int .u8 c5, .int .u8 ends, .int .u8 t0, .int .u8 t1, .int .u8 t2, .int .u8 t3, .int .u8 t4, .int .u8 t5, .slice ea ex.length ec, .int .u8 rate, .int .u8 room, .int .u8 k0, .int .u8 k1] 26)
  have hX1 : (w.alloc (.cells #[.int .u8 many, .int .u8 c0, .int .u8 c1, .int .u8 c2, .int .u8 c3, .int .u8 c4, .int .u8 c5, .int .u8 ends, .int .u8 t0, .int .u8 t1, .int .u8 t2, .int .u8 t3, .int .u8 t4, .int .u8 t5, .slice ea ex.length ec, .int .u8 rate, .int .u8 room, .int .u8 k0, .int .u8 k1] 26)).heap[w.heap.size]? = some (.cells #[.int .u8 many, .int .u8 c0, .int .u8 c1, .int .u8 c2, .int .u8 c3, .int .u8 c4, .int .u8 c5, .int .u8 ends, .int .u8 t0, .int .u8 t1, .int .u8 t2, .int .u8 t3, .int .u8 t4, .int .u8 t5, .slice ea ex.length ec, .int .u8 rate, .int .u8 room, .int .u8 k0, .int .u8 k1] 26) := (MapKept.heap_alloc w _).1
  have HOf1 := Lib.hid (HOf.out _ hOA)
  generalize hwA : w.alloc (.cells #[.int .u8 many, .int .u8 c0, .int .u8 c1, .int .u8 c2, .int .u8 c3, .int .u8 c4, .int .u8 c5, .int .u8 ends, .int .u8 t0, .int .u8 t1, .int .u8 t2, .int .u8 t3, .int .u8 t4, .int .u8 t5, .slice ea ex.length ec, .int .u8 rate, .int .u8 room, .int .u8 k0, .int .u8 k1] 26) = wA at *
  obtain ⟨B, hB⟩ : ∃ B, w.heap.size = B := ⟨_, rfl⟩
  rw [hB] at hX1
  simp only [hB]
  clear hB hwA HOf
  go_wp2_with (first | (refine wpList_load_row rfl _ _ rfl B rfl _ _ _ _ hX1 Try.underlying26 rfl (by kernel_rfl) ?_; clear hX1) | fail)
  refine HOf1.out.mono ?_
  rintro e w1 ⟨ho1, pa, la, pc, lc, P, rfl, hS, hn2, hn6, hG⟩
  have HO1 := Lib.hid (hOA.trans ho1)
  clear HOf1 ho1 hOA
  have hO0 := (Only.refl (fun _ => False) w1).alloc (planB pa la pc lc P)
  have Hbox := Lib.hid (World.cell?_alloc_new w1 #[.slice pa P.ps.length pc, .slice la P.ls.length lc, .int .i64 P.rate, .int .i64 P.room, .int .i64 P.m0, .int .i64 P.m1, .int .i64 P.m2] 31)
  have hS2 := hS.keep hO0
  unfold planV planB at *
  go_upto_region 2 with fail
  have HO2 := Lib.hid (HO1.out.trans hO0)
  generalize hW : w1.alloc (.cells #[.slice pa P.ps.length pc, .slice la P.ls.length lc, .int .i64 P.rate, .int .i64 P.room, .int .i64 P.m0, .int .i64 P.m1, .int .i64 P.m2] 31) = w2 at *
  clear hW hO0 hS HO1
  obtain ⟨C, hC⟩ : ∃ C, w1.heap.size = C := ⟨_, rfl⟩
  rw [hC] at Hbox
  simp only [hC]
  clear hC
  obtain ⟨gp, go, hga, hcell⟩ := hS2.rp.resolve_left (fun he => by rw [he] at hn2; simp at hn2)
  subst hga
  have HPc := Lib.hid hcell
  have HSm := Lib.hid hS2
  have hn6' : (P.ps.length : Int) ≤ 6 := by omega
  clear hcell hS2
  have hm12 := HSm.out.m
  go_wp2_with fail
  go_loopg [4] P.ps.length (fun fu i wr => ∃ k : Nat, k ≤ P.ps.length ∧ i = .int .i64 k ∧ P.ps.length - k ≤ fu ∧ Only (fun _ => False) w2 wr)
  case atStart => exact ⟨0, Nat.zero_le _, rfl, by omega, Only.refl _ _⟩
  case round =>
    obtain ⟨k, hk, rfl, hfk, ho⟩ := hrel
    obtain ⟨wk, hwk⟩ : ∃ wk : World, wk = wr := ⟨_, rfl⟩
    rw [← hwk] at ho ⊢
    clear hwk wr
    obtain ⟨y0, y1, y2, y3, y4, y5, y6⟩ := relay Hbox ho
    by_cases hlt : k < P.ps.length
    · have hlt' : (k : Int) < P.ps.length := by omega
      have hk0 : (0 : Int) ≤ k := by omega
      obtain ⟨⟨ca, ta⟩, hpa⟩ : ∃ p, P.ps[k]? = some p := ⟨_, List.getElem?_eq_getElem hlt⟩
      have hcA := ho.cell (HPc.out k _ hpa).1 (by simp)
      simp only at hcA
      have HPa := Lib.hid hpa
      have HC := Lib.hid (Neighbors_ok (some ⟨gp, go, none⟩) la pc lc P ca wk (HSm.out.keep ho) (has_of hpa))
      unfold planV at HC
      clear hpa
      go_wp2_with fail
      refine HC.out.mono ?_
      rintro e w4 ⟨ho4, v, nb, rfl, ⟨gn, rfl, hgn⟩, hasc, hmem, hnl⟩
      have hO4 := ho.trans ho4
      have hhas : ∀ z ∈ nb, hasCode P.ps z = true := fun z hz => others_has HSm.out.ok ((hmem z).1 hz)
      have HNb := Lib.hid (And.intro hgn (And.intro hasc (And.intro hmem hhas)))
      clear y0 y1 y2 y3 y4 y5 y6 hcA HC hgn hasc hmem hhas ho4
      have hn12 : nb.length ≤ 12 := by omega
      go_wp2_with fail
      go_loopg [8, 9] P.ps.length (fun fu r i wr => ∃ q : Nat, q ≤ P.ps.length ∧ r = .int .i64 ((seen P nb q : Nat) : Int) ∧ i = .int .i64 q ∧ P.ps.length - q ≤ fu ∧ Only (fun _ => False) w4 wr)
      case atStart => exact ⟨0, Nat.zero_le _, by rw [seen_zero]; rfl, rfl, by omega, Only.refl _ _⟩
      case round =>
        obtain ⟨q, hq, rfl, rfl, hfq, hoq⟩ := hrel
        obtain ⟨wq, hwq⟩ : ∃ wq : World, wq = wr := ⟨_, rfl⟩
        rw [← hwq] at hoq ⊢
        clear hwq wr
        have hO5 := hO4.trans hoq
        obtain ⟨y0, y1, y2, y3, y4, y5, y6⟩ := relay Hbox hO5
        by_cases hlq : q < P.ps.length
        · have hlq' : (q : Int) < P.ps.length := by omega
          have hq0 : (0 : Int) ≤ q := by omega
          obtain ⟨⟨cq, tq⟩, hpq⟩ : ∃ p, P.ps[q]? = some p := ⟨_, List.getElem?_eq_getElem hlq⟩
          have hcQ := hO5.cell (HPc.out q _ hpq).1 (by simp)
          simp only at hcQ
          obtain ⟨hs1, hs2⟩ := seen_at HSm.out.ok HNb.out.2.2.2 HNb.out.2.1 hpq
          have hsl : seen P nb q ≤ nb.length := List.countP_le_length
          generalize hse : seen P nb q = S at hs1 hs2 hsl ⊢
          by_cases hqk : q = k
          · have hcc : cq = ca := by have h := HPa.out; rw [← hqk, hpq] at h; cases h; rfl
            have hnm : ca ∉ nb := fun hm => by
              obtain ⟨l, hl, h⟩ := others_mem.1 ((HNb.out.2.2.1 ca).1 hm)
              have := (HSm.out.ok.lines l hl).1
              omega
            subst hcc
            rw [if_neg hnm] at hs2
            have HS2 := Lib.hid hs2
            have HC := Lib.hid (Links_eq (some ⟨gp, go, none⟩) la pc lc P cq wq (HSm.out.keep hO5) (has_of hpq))
            unfold planV at HC
            clear hpq hs1 hs2 hqk
            go_wp2_with fail
            refine HC.out.mono ?_
            rintro e w5 ⟨ho5, rfl⟩
            have hO6 := hoq.trans ho5
            clear y0 y1 y2 y3 y4 y5 y6 hcQ HC
            go_wp2_with fail
            go_roundg (P.ps.length - (q + 1))
            case measure => omega
            case rel => exact ⟨q + 1, by omega, by rw [HS2.out]; rfl, by go_num, Nat.le_refl _, hO6⟩
          · have hcc : ca ≠ cq := fun he => by
              have h1 := idx_at HSm.out.ok.asc hpq
              have h2 := idx_at HSm.out.ok.asc HPa.out
              simp only at h1 h2
              rw [he] at h2
              omega
            have hpos := links_pos HSm.out.ok hcc
            have hcnt := betw_cnt (ls := P.ls) (fun l hl => (HSm.out.ok.lines l hl).1) (x := ca) (y := cq)
            rw [← linksOf_cnt] at hcnt
            have hlat : ∀ m l, (linksOf P.ls (if ca < cq then ca else cq) (if ca < cq then cq else ca))[m]? = some l → _ := fun m l h => linksOf_at hG h
            have hl12 := linksOf_length P.ls (if ca < cq then ca else cq) (if ca < cq then cq else ca)
            have HC := Lib.hid (Links_ok (some ⟨gp, go, none⟩) la pc lc P ca cq wq (HSm.out.keep hO5) (has_of HPa.out) (has_of hpq) hcc)
            obtain ⟨lo, hlo⟩ : ∃ lo, (if ca < cq then ca else cq) = lo := ⟨_, rfl⟩
            obtain ⟨hi, hhi⟩ : ∃ hi, (if ca < cq then cq else ca) = hi := ⟨_, rfl⟩
            rw [hlo, hhi] at hpos hcnt hlat hl12 HC
            unfold planV at HC
            obtain ⟨xs, hxs⟩ : ∃ xs, linksOf P.ls lo hi = xs := ⟨_, rfl⟩
            rw [hxs] at hpos hcnt hlat hl12 HC
            have HLo := Lib.hid (And.intro hlo hhi)
            have HFc := Lib.hid (And.intro hs1 (And.intro hs2 (And.intro hpos (And.intro hcnt hlat))))
            clear hpq hs1 hs2 hpos hcnt hlat hlo hhi hxs
            go_wp2_with fail
            refine HC.out.mono ?_
            rintro e w5 ⟨ho5, v, rfl, ⟨gl, rfl, hgl⟩⟩
            have hO6 := hO5.trans ho5
            have hoq6 := hoq.trans ho5
            have HGl := Lib.hid hgl
            clear y0 y1 y2 y3 y4 y5 y6 hcQ HC hgl ho5
            obtain ⟨y0, y1, y2, y3, y4, y5, y6⟩ := relay Hbox hO6
            have HLn := Lib.hid (lines_cnt (some ⟨gp, go, none⟩) la pc lc P ca cq w5 ((HSm.out.keep hO6).rl) hm12)
            rw [HFc.out.2.2.2.1] at HLn
            unfold planV at HLn
            go_wp2_with fail
            refine HLn.out.mono ?_
            rintro e w6 ⟨ho6, rfl⟩
            have hO7 := hoq6.trans ho6
            have Ho6 := Lib.hid ho6
            clear y0 y1 y2 y3 y4 y5 y6 HLn
            go_wp2_with fail
            have hgG : ∀ (m : Nat) (l : Ln), xs[m]? = some l → l.a = lo ∧ l.b = hi ∧ l.c = (m : Int) := fun m l h => HFc.out.2.2.2.2 m l h
            have HgG := Lib.hid hgG
            have HGl7 : Hid (∀ (m : Nat) (l : Ln), xs[m]? = some l → ∃ b, gl = some ⟨b, 0, none⟩ ∧ ∀ wx, Only (fun _ => False) w5 wx → wx.cell? ⟨b, m * 3, none⟩ = some (.int .u16 l.a) ∧ wx.cell? ⟨b, m * 3 + 1, none⟩ = some (.int .u16 l.b) ∧ wx.cell? ⟨b, m * 3 + 2, none⟩ = some (.int .u8 l.c)) := Lib.hid fun m l h => by
              rcases HGl.out with ⟨_, h0⟩ | ⟨g, cap, h1, _, h3⟩
              · rw [h0] at h; cases h
              · obtain ⟨a1, a2, a3⟩ := lks_at h
                exact ⟨g, h1, fun wx hwx => ⟨(h3.only hwx (by simp)).cell a1, (h3.only hwx (by simp)).cell a2, (h3.only hwx (by simp)).cell a3⟩⟩
            clear hgG
            have hl12' : xs.length ≤ 12 := by omega
            go_loopg [13] xs.length (fun fu i wr => ∃ m : Nat, m ≤ xs.length ∧ i = .int .i64 m ∧ xs.length - m ≤ fu ∧ Only (fun _ => False) w6 wr)
            case atStart => exact ⟨0, Nat.zero_le _, rfl, by omega, Only.refl _ _⟩
            case round =>
              obtain ⟨m, hm, rfl, hfm, hom⟩ := hrel
              by_cases hlm : m < xs.length
              · have hlm' : (m : Int) < xs.length := by omega
                have hm0 : (0 : Int) ≤ m := by omega
                obtain ⟨⟨xa, xb, xc, xd⟩, hxm⟩ : ∃ l, xs[m]? = some l := ⟨_, List.getElem?_eq_getElem hlm⟩
                obtain ⟨ga, hgl, hcl⟩ := HGl7.out m _ hxm
                subst hgl
                obtain ⟨g1, g2, g3⟩ := hcl _ (ho6.trans hom)
                obtain ⟨e1, e2, e3⟩ := HgG.out m _ hxm
                simp only at g1 g2 g3 e1 e2 e3
                subst e1 e2 e3
                have hmw : IntKind.u8.wrap (m : Int) = m := IntWalk.u8_in _ (by omega)
                have hlo := HLo.out.1
                have hhi := HLo.out.2
                clear hcl hxm
                rcases Int.lt_or_gt_of_ne hcc with hxy | hxy
                · rw [if_pos hxy] at hlo hhi
                  subst hlo hhi
                  go_wp2_with fail
                  go_roundg (xs.length - (m + 1))
                  case measure => omega
                  case rel => exact ⟨m + 1, by omega, by go_num, Nat.le_refl _, hom⟩
                · have hxy' : ¬ ca < cq := by omega
                  rw [if_neg hxy'] at hlo hhi
                  subst hlo hhi
                  go_wp2_with fail
                  go_roundg (xs.length - (m + 1))
                  case measure => omega
                  case rel => exact ⟨m + 1, by omega, by go_num, Nat.le_refl _, hom⟩
              · have hmx : m = xs.length := by omega
                subst hmx
                have hO8 := hO7.trans hom
                by_cases hx0 : 0 < xs.length
                · have hin : cq ∈ nb := (HNb.out.2.2.1 cq).2 (HFc.out.2.2.1.1 hx0)
                  have hat := HFc.out.1 hin
                  have hs2 := HFc.out.2.1
                  rw [if_pos hin] at hs2
                  have HS2 := Lib.hid hs2
                  have hSl := (List.getElem?_eq_some_iff.1 hat).1
                  obtain ⟨gg, cp, hgn, hnr⟩ : ∃ gg cp, gn = some ⟨gg, 0, none⟩ ∧ Row w4 gg 34 cp (pts nb) := by
                    rcases HNb.out.1 with ⟨_, h0⟩ | ⟨gg, cp, h1, _, h3⟩
                    · rw [h0] at hSl; cases hSl
                    · exact ⟨gg, cp, h1, h3⟩
                  subst hgn
                  have cN := (hnr.only hO8 (by simp)).cell (pts_at hat)
                  have hSl' : (S : Int) < nb.length := by omega
                  have hS0 : (0 : Int) ≤ S := by omega
                  have hx0' : (0 : Int) < xs.length := by omega
                  clear hs2 hat hnr hin
                  go_wp2_with fail
                  go_roundg (P.ps.length - (q + 1))
                  case measure => omega
                  case rel => exact ⟨q + 1, by omega, by rw [HS2.out]; go_num, by go_num, Nat.le_refl _, hO8⟩
                · have hin : cq ∉ nb := fun h => hx0 (HFc.out.2.2.1.2 ((HNb.out.2.2.1 cq).1 h))
                  have hs2 := HFc.out.2.1
                  rw [if_neg hin] at hs2
                  have HS2 := Lib.hid hs2
                  have hx0' : ¬ (0 : Int) < xs.length := by omega
                  clear hs2 hin
                  go_wp2_with fail
                  go_roundg (P.ps.length - (q + 1))
                  case measure => omega
                  case rel => exact ⟨q + 1, by omega, by rw [HS2.out]; rfl, by go_num, Nat.le_refl _, hO8⟩
        · have hqn : q = P.ps.length := by omega
          have hsa := seen_all HSm.out.ok HNb.out.2.2.2
          rw [hqn, hsa]
          go_wp2_with fail
          go_roundg (P.ps.length - (k + 1))
          case measure => omega
          case rel => exact ⟨k + 1, by omega, by go_num, Nat.le_refl _, hO5⟩
    · have hk' : k = P.ps.length := by omega
      subst hk'
      have HL := Lib.hid (lives_ok wk)
      have hOA := HO2.out.trans ho
      go_wp2_with fail
      refine HL.out.mono ?_
      rintro e w8 ⟨ho8, rfl⟩
      go_wp2_with fail
      go_ret
      exact ⟨hOA.trans ho8, rfl⟩

end Go.Proofs.Ytpfcoeenblmifaa
