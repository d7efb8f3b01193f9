/-
  Plans: the law's distances: its walk.
-/
import Derived.Test.YtpfcoeenblmifaaUp
import Derived.Test.YtpfcoeenblmifaaPZ
import Derived.Test.YtpfcoeenblmifaaRel
import Derived.Deep.LoopGhost
import Derived.Deep.DeepCutAuto
import Derived.Deep.RegionHeld3
import Derived.StillTailTactics
namespace Go.Proofs.Ytpfcoeenblmifaa
open Go.RowKit Go.PC

theorem its_push (out : List Int) (v : Int) : its (out ++ [v]) = its out ++ [.int .i64 v] := by simp [its]
theorem its_set (out : List Int) (i : Nat) (v : Int) : (its out).set i (.int .i64 v) = its (out.set i v) := by simp [its, List.map_set]

section
variable {P : Program} {md : Region.Mode} {ops : Array Oper} {Q : Exit → Act → World → Prop} {S : World → Prop}
theorem take1 {i d : Nat} {oi : Oper} {v : Value} {fuel : Nat} {listed : Array Bool} {a : Act} {w : World} (hi : ops[i]? = some oi) (hd : oi.dst = some d)
    (hs : Region.noSelect ops = true) (hf : Region.free md ops listed i = true) (hr : (Region.ready md ops listed).contains i = true)
    (hQ : ∀ c a w, Q (.panic c) (a.put (some d) v) w → Q (.panic c) a w) (hy : YieldsIf P ops S oi v a) (hS : S w)
    (h : wpAnyH P md ops Q S fuel (listed.setIfInBounds i true) (a.put (some d) v) w) : wpAnyH P md ops Q S (fuel + 1) listed a w :=
  wpAnyH_take hi hs hf hr (by rw [hd]; exact hQ) hy hS (by rw [hd]; exact h)
end

abbrev ini (src k : Nat) : List Int := (List.range k).map fun i => if i = src then (0 : Int) else 99
theorem ini_len (src k : Nat) : (ini src k).length = k := by simp [ini]
theorem ini_succ (src k : Nat) : ini src (k + 1) = ini src k ++ [if k = src then 0 else 99] := by simp [ini, List.range_succ]

set_option maxHeartbeats 20000000 in
set_option maxRecDepth 100000 in
theorem lawdist_ok (pa la : Option Addr) (pc lc : Nat) (P : Pn) (tgt : Int) (w : World) (h : Small pa la P w) (hto : hasCode P.ps tgt = true) (d : List Int)
    (hd : Dist P.ps.length (idxOf P.ps tgt) (passP P (idxOf P.ps tgt)) (adjP P) d) :
    Calls Try.prog 11 #[planV pa la pc lc P, .int .u16 tgt] w fun e w' =>
      Only (fun _ => False) w w' ∧ ∃ g, e = .returned (.slice (some ⟨g, 0, none⟩) P.ps.length P.ps.length) ∧ w.heap.size ≤ g ∧ Row w' g 3 P.ps.length (its (d.map fun v => if v < 0 then 99 else v)) := by
  have HD := Lib.hid hd
  have HSm := Lib.hid h
  have hn12 := h.n
  have hm12 := h.m
  have hn1 : 1 ≤ P.ps.length := List.length_pos_iff.2 h.ok.ne
  obtain ⟨tt, hat⟩ := has_at h.ok.asc hto
  have hsrc := (List.getElem?_eq_some_iff.1 hat).1
  have HAt := Lib.hid hat
  obtain ⟨i0, hi0, hz0i, hz1i, hz2i⟩ := info_parts infoInt
  obtain ⟨pb, po, hpa, hcell⟩ := h.rp.resolve_left (fun he => by rw [he] at hn1; simp at hn1)
  subst hpa
  have HPc := Lib.hid hcell
  have hO0 := (Only.refl (fun _ => False) w).alloc (planB (some ⟨pb, po, none⟩) la pc lc P)
  have Hbox := Lib.hid (World.cell?_alloc_new w #[.slice (some ⟨pb, po, none⟩) P.ps.length pc, .slice la P.ls.length lc, .int .i64 P.rate, .int .i64 P.room, .int .i64 P.m0, .int .i64 P.m1, .int .i64 P.m2] 31)
  clear h hd hto hat hcell
  unfold planV
  unfold planB at hO0
  obtain ⟨src, hsr⟩ : ∃ src, idxOf P.ps tgt = src := ⟨_, rfl⟩
  rw [hsr] at hsrc HD HAt
  clear hsr
  go_enter Try.func11, Try.ntmps11
  go_upto_region 1 with fail
  generalize hW : w.alloc (.cells #[.slice (some ⟨pb, po, none⟩) P.ps.length pc, .slice la P.ls.length lc, .int .i64 P.rate, .int .i64 P.room, .int .i64 P.m0, .int .i64 P.m1, .int .i64 P.m2] 31) = w0 at hO0 Hbox ⊢
  have hws : w0.heap.size = w.heap.size + 1 := by rw [← hW]; simp
  clear hW
  obtain ⟨B, hB⟩ : ∃ B, w.heap.size = B := ⟨_, rfl⟩
  rw [hB] at Hbox hws
  simp only [hB]
  have HB := Lib.hid (And.intro hB hws)
  clear hB hws
  obtain ⟨y0, y1, y2, y3, y4, y5, y6⟩ := relay Hbox (Only.refl _ w0)
  obtain ⟨n, hn⟩ : ∃ n, P.ps.length = n := ⟨_, rfl⟩
  have hmk : (Instr.makeSlice 37 (.int .i64 (n : Int)) (.int .i64 (n : Int))).run Try.prog w0 = .ok (.slice (some ⟨w0.heap.size, 0, none⟩) n n) (w0.alloc (.cells (madeCells #[.int .i64 0] n) 3)) := by
    have := run_make (P := Try.prog) w0 37 3 i0 (.int .i64 0) Try.underlying37 hi0 hz0i .i64 .i64 (n : Int) (n : Int) (by omega) (by omega) (by rw [hz2i]; omega) (by omega)
    simpa [hz1i, Value.cells] using this
  have hrow : Row (w0.alloc (.cells (madeCells #[.int .i64 0] n) 3)) w0.heap.size 3 n [] := ⟨_, heap_alloc_new w0 _, by simp [madeCells], rfl⟩
  have hN1 := (Only.refl (fun _ => False) w0).alloc (.cells (madeCells #[.int .i64 0] n) 3)
  obtain ⟨G, hG⟩ : ∃ G, w0.heap.size = G := ⟨_, rfl⟩
  rw [hG] at hmk hrow
  have HG := Lib.hid hG
  clear hG
  rw [hn] at y0
  have HRow0 := Lib.hid hrow
  have HN1 := Lib.hid hN1
  clear hrow hN1
  go_upto_region 2 with fail
  generalize w0.alloc (.cells (madeCells #[.int .i64 0] n) 3) = w1 at *
  have HNl := Lib.hid hn
  have hn12' : n ≤ 12 := by omega
  have hm12' : P.ls.length ≤ 12 := hm12
  have hsn : src < n := by omega
  have hn1' : 1 ≤ n := by omega
  clear hmk y0 y1 y2 y3 y4 y5 y6 hn12 hn1 hsrc hn
  go_wp2_with fail
  go_loopw [6] (fun i wr => ∃ k : Nat, k ≤ n ∧ i = .int .i64 k ∧ Only (fun _ => False) w0 wr ∧ Hid (Row wr G 3 n (its (ini src k)))) (fun i _ => n - (intOf i).toNat)
  case atStart => exact ⟨0, Nat.zero_le _, rfl, HN1.out, HRow0⟩
  case round =>
    obtain ⟨k, hk, rfl, ho, HRow⟩ := hrel
    by_cases hlt : k < n
    · have hlt' : (k : Int) < n := by omega
      have hk0 : (0 : Int) ≤ k := by omega
      obtain ⟨⟨ck, tk⟩, hq⟩ : ∃ p, P.ps[k]? = some p := ⟨_, List.getElem?_eq_getElem (by rw [HNl.out]; exact hlt)⟩
      have hck := (HPc.out k _ hq).1
      simp only at hck
      have hpG : pb ≠ G := by have h1 := lt_of_cell hck; have h2 := HB.out; have h3 := HG.out; simp only at h1; omega
      have d0 := ho.cell (hO0.cell hck (by simp)) (by simp)
      have y0 : wr.cell? ⟨B, 0, none⟩ = some (.slice (some ⟨pb, po, none⟩) n pc) := by rw [← HNl.out]; exact ho.cell (Hbox.out 0) (by simp)
      obtain ⟨v0, c0⟩ := HRow.out.ex hlt
      have f0 := HRow.out.frozen k
      have hBG : B ≠ G := by have h2 := HB.out; have h3 := HG.out; omega
      have hGs : G < wr.heap.size := HRow.out.lt
      have hGw := HG.out
      have HR1 := Lib.hid (HRow.out.push (by simp [its]; exact hlt) (.int .i64 99))
      have hle : (its (ini src k)).length = k := by simp [its]
      rw [hle] at HR1
      have ho1 := ho.setCell (p := ⟨G, k, none⟩) (.int .i64 99) (fun h => by simp only at h; omega)
      by_cases hks : k = src
      · have hc : ck = tgt := by have h := HAt.out; rw [← hks, hq] at h; cases h; rfl
        have HR2 := Lib.hid (HR1.out.set k (.int .i64 0))
        have ho2 := ho1.setCell (p := ⟨G, k, none⟩) (.int .i64 0) (fun h => by simp only at h; omega)
        have HE : Hid ((its (ini src k) ++ [Value.int .i64 99]).set k (.int .i64 0) = its (ini src (k + 1))) := Lib.hid (by
          rw [ini_succ, if_pos hks, its_push, List.set_append_right _ _ (by rw [hle]; exact Nat.le_refl _), hle, Nat.sub_self]
          rfl)
        subst hc
        clear hq hck hle HR1 hks
        go_wp2_with fail
        refine ⟨⟨k + 1, by omega, by go_num, ho2, Lib.hid ?_⟩, by simp [intOf]; omega⟩
        rw [← HE.out]
        exact HR2.out
      · have hc : ck ≠ tgt := fun he => by
          subst he
          have h1 := idx_at HSm.out.ok.asc hq
          have h2 := idx_at HSm.out.ok.asc HAt.out
          simp only at h1 h2
          omega
        have HE : Hid (its (ini src k) ++ [Value.int .i64 99] = its (ini src (k + 1))) := Lib.hid (by rw [ini_succ, if_neg hks, its_push])
        clear hq hck hle
        go_wp2_with fail
        refine ⟨⟨k + 1, by omega, by go_num, ho1, Lib.hid ?_⟩, by simp [intOf]; omega⟩
        rw [← HE.out]
        exact HR1.out
    · have hk' : k = n := by omega
      subst hk'
      have HRl := Lib.hid (Rel.start hsn (HNl.out ▸ HD.out))
      have hini : (ini src k).length = k := ini_len src k
      have HD' : Hid (Dist k src (passP P src) (adjP P) d) := Lib.hid (HNl.out ▸ HD.out)
      clear HN1 HRow0 hlt hk
      go_wp2_with fail
      go_loopg [7] (2 * tot (ini src k) + 1) (fun fu c wr => ∃ (cb : Bool) (out : List Int), c = .bool cb ∧ 2 * tot out + (if cb then 1 else 0) ≤ fu ∧ Only (fun _ => False) w0 wr ∧ Hid (Row wr G 3 k (its out)) ∧ Hid (Rel k src d out) ∧ Hid (cb = false → Chk k (passP P src) (adjP P) out k 0))
      case atStart => exact ⟨true, ini src k, rfl, by simp, ho, HRow, HRl, Lib.hid (fun h => by cases h)⟩
      case round =>
        clear ho HRow HRl
        obtain ⟨cb, out, rfl, hfu, ho, HRow, HRl, HCk⟩ := hrel
        have HFu := Lib.hid hfu
        clear hfu
        cases cb with
        | false =>
          go_wp2_with fail
          go_ret
          have hB := HB.out
          have hG := HG.out
          have hfin := HRl.out.fin HD'.out hn12' (HCk.out (by simp)) (fun a b hab => by rw [← HNl.out]; exact adj_lt hab)
          refine ⟨hO0.trans ho, G, ?_, by omega, ?_⟩
          · rw [HNl.out]; rfl
          · have hrow := HRow.out
            rw [hfin] at hrow
            rw [HNl.out]
            simpa [its] using hrow
        | true =>
          go_upto_region 12 with fail
          go_loopg [7, 8] k (fun fu c i wr => ∃ (cb : Bool) (out' : List Int) (q : Nat), c = .bool cb ∧ i = .int .i64 q ∧ q ≤ k ∧ k - q ≤ fu ∧ Only (fun _ => False) w0 wr ∧ Hid (Row wr G 3 k (its out')) ∧ Hid (Rel k src d out') ∧ Hid (Pst k (passP P src) (adjP P) out cb out' q 0))
          case atStart => exact ⟨false, out, 0, rfl, rfl, Nat.zero_le _, Nat.le_refl _, ho, HRow, HRl, Lib.hid Pst.start⟩
          case round =>
            clear ho HRow HRl HCk
            obtain ⟨cb, out', q, rfl, rfl, hq, hfq, ho, HRow, HRl, HPs⟩ := hrel
            by_cases hlq : q < k
            · have hlq' : (q : Int) < k := by omega
              go_upto_region 15 with fail
              go_loopg [7, 9] k (fun fu c i wr => ∃ (cb : Bool) (out' : List Int) (m : Nat), c = .bool cb ∧ i = .int .i64 m ∧ m ≤ k ∧ k - m ≤ fu ∧ Only (fun _ => False) w0 wr ∧ Hid (Row wr G 3 k (its out')) ∧ Hid (Rel k src d out') ∧ Hid (Pst k (passP P src) (adjP P) out cb out' q m))
              case atStart => exact ⟨cb, out', 0, rfl, rfl, Nat.zero_le _, Nat.le_refl _, ho, HRow, HRl, HPs⟩
              case round =>
                clear ho HRow HRl HPs cb out'
                obtain ⟨cb, out', m, rfl, rfl, hm, hfm, ho, HRow, HRl, HPs⟩ := hrel
                by_cases hlm : m < k
                · have hlm' : (m : Int) < k := by omega
                  obtain ⟨y0, y1, y2, y3, y4, y5, y6⟩ := relay Hbox ho
                  have hqP : (q : Int) < P.ps.length := by rw [HNl.out]; exact hlq'
                  have hmP : (m : Int) < P.ps.length := by rw [HNl.out]; exact hlm'
                  have hq0 : (0 : Int) ≤ q := by omega
                  have hm0 : (0 : Int) ≤ m := by omega
                  obtain ⟨⟨cq, tq⟩, hpq⟩ : ∃ p, P.ps[q]? = some p := ⟨_, List.getElem?_eq_getElem (by rw [HNl.out]; exact hlq)⟩
                  obtain ⟨⟨cm, tm⟩, hpm⟩ : ∃ p, P.ps[m]? = some p := ⟨_, List.getElem?_eq_getElem (by rw [HNl.out]; exact hlm)⟩
                  have dq := ho.cell (hO0.cell (HPc.out q _ hpq).1 (by simp)) (by simp)
                  have dm := ho.cell (hO0.cell (HPc.out m _ hpm).1 (by simp)) (by simp)
                  have dt := ho.cell (hO0.cell (HPc.out m _ hpm).2 (by simp)) (by simp)
                  simp only at dq dm dt
                  have hcnt := cnt_adj HSm.out.ok hpq hpm
                  simp only at hcnt
                  have hpass : passP P src m ↔ (tm = true ∨ cm = tgt) := by
                    unfold passP
                    constructor
                    · rintro (rfl | ⟨c, h⟩)
                      · have h := HAt.out
                        rw [hpm] at h
                        cases h
                        exact Or.inr rfl
                      · rw [hpm] at h
                        cases h
                        exact Or.inl rfl
                    · rintro (rfl | rfl)
                      · exact Or.inr ⟨cm, hpm⟩
                      · left
                        have h1 := idx_at HSm.out.ok.asc hpm
                        have h2 := idx_at HSm.out.ok.asc HAt.out
                        simp only at h1 h2
                        omega
                  have HLn := Lib.hid (fun wb (hwb : Only (fun _ => False) wr wb) => lines_cnt (some ⟨pb, po, none⟩) la pc lc P cq cm wb ((HSm.out.keep (hO0.trans (ho.trans hwb))).rl) hm12)
                  unfold planV at HLn
                  obtain ⟨N, hN⟩ : ∃ N, P.ls.countP (betw cq cm) = N := ⟨_, rfl⟩
                  rw [hN] at hcnt HLn
                  obtain ⟨nb, hnb⟩ : ∃ nb : Bool, nb = true ↔ (0 < N ∧ (tm = true ∨ cm = tgt)) := ⟨decide (0 < N) && (tm || decide (cm = tgt)), by simp⟩
                  have HNear := Lib.hid (And.intro hcnt (And.intro hpass hnb))
                  have HPq := Lib.hid (And.intro hpq hpm)
                  have hN12 : N ≤ 12 := by have h1 := List.countP_le_length (p := betw cq cm) (l := P.ls); omega
                  clear hcnt hpass hnb hpq hpm hN
                  go_upto_region 17 with fail
                  go_cut [10] (fun v wx => v = .bool nb ∧ Only (fun _ => False) wr wx)
                  case first =>
                    have HCh : Hid (∀ wb, Only (fun _ => False) wr wb → wb.cell? ⟨B, 0, none⟩ = some (.slice (some ⟨pb, po, none⟩) P.ps.length pc) ∧ wb.cell? ⟨B, 1, none⟩ = some (.slice la P.ls.length lc) ∧ wb.cell? ⟨B, 2, none⟩ = some (.int .i64 P.rate) ∧ wb.cell? ⟨B, 3, none⟩ = some (.int .i64 P.room) ∧ wb.cell? ⟨B, 4, none⟩ = some (.int .i64 P.m0) ∧ wb.cell? ⟨B, 5, none⟩ = some (.int .i64 P.m1) ∧ wb.cell? ⟨B, 6, none⟩ = some (.int .i64 P.m2) ∧ wb.cell? ⟨pb, po + q * 2, none⟩ = some (.int .u16 cq) ∧ wb.cell? ⟨pb, po + m * 2, none⟩ = some (.int .u16 cm) ∧ wb.cell? ⟨pb, po + m * 2 + 1, none⟩ = some (.bool tm)) := Lib.hid fun wb hwb =>
                      ⟨hwb.cell y0 (by simp), hwb.cell y1 (by simp), hwb.cell y2 (by simp), hwb.cell y3 (by simp), hwb.cell y4 (by simp), hwb.cell y5 (by simp), hwb.cell y6 (by simp), hwb.cell dq (by simp), hwb.cell dm (by simp), hwb.cell dt (by simp)⟩
                    have hOR := Only.refl (fun _ => False) wr
                    clear ho HRow HRl HPs
                    have hcase : (N = 0 ∧ nb = false) ∨ (0 < N ∧ tm = true ∧ nb = true) ∨ (0 < N ∧ tm = false ∧ cm = tgt ∧ nb = true) ∨ (0 < N ∧ tm = false ∧ cm ≠ tgt ∧ nb = false) := by
                      have hnb := HNear.out.2.2
                      cases hb : nb <;> cases ht : tm <;> rw [hb, ht] at hnb <;> simp only [Bool.false_eq_true, false_or, true_or, and_true, true_iff, false_iff, reduceCtorEq] at hnb ⊢ <;> simp <;> omega
                    clear HNear
                    have hNI : (N : Int) ≤ 12 := by omega
                    rcases hcase with ⟨rfl, rfl⟩ | ⟨h1, rfl, rfl⟩ | ⟨h1, rfl, h3, rfl⟩ | ⟨h1, rfl, h3, rfl⟩
                    all_goals
                      go_wp2_with fail
                    · refine wp_region_noPanic ?_
                      refine wp_region_held_drew (S := (fun w' => Only (fun _ => False) wr w' ∧ w'.cell? ⟨B, 0, none⟩ = some (.slice (some ⟨pb, po, none⟩) P.ps.length pc) ∧ w'.cell? ⟨B, 1, none⟩ = some (.slice la P.ls.length lc) ∧ w'.cell? ⟨B, 2, none⟩ = some (.int .i64 P.rate) ∧ w'.cell? ⟨B, 3, none⟩ = some (.int .i64 P.room) ∧ w'.cell? ⟨B, 4, none⟩ = some (.int .i64 P.m0) ∧ w'.cell? ⟨B, 5, none⟩ = some (.int .i64 P.m1) ∧ w'.cell? ⟨B, 6, none⟩ = some (.int .i64 P.m2) ∧ w'.cell? ⟨pb, po + q * 2, none⟩ = some (.int .u16 cq) ∧ w'.cell? ⟨pb, po + m * 2, none⟩ = some (.int .u16 cm) ∧ w'.cell? ⟨pb, po + m * 2 + 1, none⟩ = some (.bool tm))) (by kernel_rfl) ⟨hOR.drew, HCh.out _ hOR.drew⟩ (fun hHeld => ?_)
                      refine take1 (i := 0) (d := 48) (v := ?_) rfl rfl (by kernel_rfl) (by kernel_rfl) (by kernel_rfl) (fun _ _ _ h => h) (Or.inl ⟨by rfl, ?_⟩) (by assumption) ?_
                      rotate_left
                      · intro w hSw
                        try dsimp only at hSw
                        go_simp
                        try with_reducible rfl
                      try simp only [Act.put, List.setIfInBounds_toArray, List.set_cons_zero, List.set_cons_succ]
                      refine take1 (i := 1) (d := 49) (v := ?_) rfl rfl (by kernel_rfl) (by kernel_rfl) (by kernel_rfl) (fun _ _ _ h => h) (Or.inl ⟨by rfl, ?_⟩) (by assumption) ?_
                      rotate_left
                      · intro w hSw
                        try dsimp only at hSw
                        go_simp
                        try with_reducible rfl
                      try simp only [Act.put, List.setIfInBounds_toArray, List.set_cons_zero, List.set_cons_succ]
                      refine take1 (i := 2) (d := 50) (v := ?_) rfl rfl (by kernel_rfl) (by kernel_rfl) (by kernel_rfl) (fun _ _ _ h => h) (Or.inl ⟨by rfl, ?_⟩) (by assumption) ?_
                      rotate_left
                      · intro w hSw
                        try dsimp only at hSw
                        go_simp
                        try with_reducible rfl
                      try simp only [Act.put, List.setIfInBounds_toArray, List.set_cons_zero, List.set_cons_succ]
                      refine take1 (i := 3) (d := 51) (v := ?_) rfl rfl (by kernel_rfl) (by kernel_rfl) (by kernel_rfl) (fun _ _ _ h => h) (Or.inl ⟨by rfl, ?_⟩) (by assumption) ?_
                      rotate_left
                      · intro w hSw
                        try dsimp only at hSw
                        go_simp
                        try with_reducible rfl
                      try simp only [Act.put, List.setIfInBounds_toArray, List.set_cons_zero, List.set_cons_succ]
                      refine take1 (i := 4) (d := 52) (v := ?_) rfl rfl (by kernel_rfl) (by kernel_rfl) (by kernel_rfl) (fun _ _ _ h => h) (Or.inl ⟨by rfl, ?_⟩) (by assumption) ?_
                      rotate_left
                      · intro w hSw
                        try dsimp only at hSw
                        go_simp
                        try with_reducible rfl
                      try simp only [Act.put, List.setIfInBounds_toArray, List.set_cons_zero, List.set_cons_succ]
                      refine take1 (i := 5) (d := 53) (v := ?_) rfl rfl (by kernel_rfl) (by kernel_rfl) (by kernel_rfl) (fun _ _ _ h => h) (Or.inl ⟨by rfl, ?_⟩) (by assumption) ?_
                      rotate_left
                      · intro w hSw
                        try dsimp only at hSw
                        go_simp
                        try with_reducible rfl
                      try simp only [Act.put, List.setIfInBounds_toArray, List.set_cons_zero, List.set_cons_succ]
                      refine take1 (i := 6) (d := 54) (v := ?_) rfl rfl (by kernel_rfl) (by kernel_rfl) (by kernel_rfl) (fun _ _ _ h => h) (Or.inl ⟨by rfl, ?_⟩) (by assumption) ?_
                      rotate_left
                      · intro w hSw
                        try dsimp only at hSw
                        go_simp
                        try with_reducible rfl
                      try simp only [Act.put, List.setIfInBounds_toArray, List.set_cons_zero, List.set_cons_succ]
                      refine take1 (i := 7) (d := 55) (v := ?_) rfl rfl (by kernel_rfl) (by kernel_rfl) (by kernel_rfl) (fun _ _ _ h => h) (Or.inl ⟨by rfl, ?_⟩) (by assumption) ?_
                      rotate_left
                      · intro w hSw
                        try dsimp only at hSw
                        go_simp
                        try with_reducible rfl
                      try simp only [Act.put, List.setIfInBounds_toArray, List.set_cons_zero, List.set_cons_succ]
                      refine take1 (i := 8) (d := 56) (v := ?_) rfl rfl (by kernel_rfl) (by kernel_rfl) (by kernel_rfl) (fun _ _ _ h => h) (Or.inl ⟨by rfl, ?_⟩) (by assumption) ?_
                      rotate_left
                      · intro w hSw
                        try dsimp only at hSw
                        go_simp
                        try with_reducible rfl
                      try simp only [Act.put, List.setIfInBounds_toArray, List.set_cons_zero, List.set_cons_succ]
                      refine take1 (i := 9) (d := 57) (v := ?_) rfl rfl (by kernel_rfl) (by kernel_rfl) (by kernel_rfl) (fun _ _ _ h => h) (Or.inl ⟨by rfl, ?_⟩) (by assumption) ?_
                      rotate_left
                      · intro w hSw
                        try dsimp only at hSw
                        go_simp
                        try with_reducible rfl
                      try simp only [Act.put, List.setIfInBounds_toArray, List.set_cons_zero, List.set_cons_succ]
                      refine take1 (i := 10) (d := 58) (v := ?_) rfl rfl (by kernel_rfl) (by kernel_rfl) (by kernel_rfl) (fun _ _ _ h => h) (Or.inl ⟨by rfl, ?_⟩) (by assumption) ?_
                      rotate_left
                      · intro w hSw
                        try dsimp only at hSw
                        go_simp
                        try with_reducible rfl
                      try simp only [Act.put, List.setIfInBounds_toArray, List.set_cons_zero, List.set_cons_succ]
                      refine take1 (i := 11) (d := 59) (v := ?_) rfl rfl (by kernel_rfl) (by kernel_rfl) (by kernel_rfl) (fun _ _ _ h => h) (Or.inl ⟨by rfl, ?_⟩) (by assumption) ?_
                      rotate_left
                      · intro w hSw
                        try dsimp only at hSw
                        go_simp
                        try with_reducible rfl
                      try simp only [Act.put, List.setIfInBounds_toArray, List.set_cons_zero, List.set_cons_succ]
                      refine take1 (i := 12) (d := 60) (v := ?_) rfl rfl (by kernel_rfl) (by kernel_rfl) (by kernel_rfl) (fun _ _ _ h => h) (Or.inl ⟨by rfl, ?_⟩) (by assumption) ?_
                      rotate_left
                      · intro w hSw
                        try dsimp only at hSw
                        go_simp
                        try with_reducible rfl
                      try simp only [Act.put, List.setIfInBounds_toArray, List.set_cons_zero, List.set_cons_succ]
                      refine wpAnyH_ready (rs := [13]) (by kernel_rfl) (by simp) ?_
                      refine AllReadyH.cons rfl (fun K hK => ?_) AllReadyH.nil
                      go_simp
                      refine (HLn.out _ hOR.drew).mono ?_
                      rintro e w5 ⟨ho5, rfl⟩
                      go_wp2_with fail
                      have hO5 := hOR.drew.trans ho5
                      refine hK.out _ _ ⟨hO5, HCh.out _ hO5⟩ (fun hHeld2 => ?_)
                      clear hK K hHeld
                      try simp only [Act.put, List.setIfInBounds_toArray, List.set_cons_zero, List.set_cons_succ]
                      refine take1 (i := 14) (d := 62) (v := ?_) rfl rfl (by kernel_rfl) (by kernel_rfl) (by kernel_rfl) (fun _ _ _ h => h) (Or.inl ⟨by rfl, ?_⟩) (by assumption) ?_
                      rotate_left
                      · intro w hSw
                        try dsimp only at hSw
                        go_simp
                        try with_reducible rfl
                      try simp only [Act.put, List.setIfInBounds_toArray, List.set_cons_zero, List.set_cons_succ]
                      refine take1 (i := 15) (d := 63) (v := ?_) rfl rfl (by kernel_rfl) (by kernel_rfl) (by kernel_rfl) (fun _ _ _ h => h) (Or.inl ⟨by rfl, ?_⟩) (by assumption) ?_
                      rotate_left
                      · intro w hSw
                        try dsimp only at hSw
                        go_simp
                        try with_reducible rfl
                      try simp only [Act.put, List.setIfInBounds_toArray, List.set_cons_zero, List.set_cons_succ]
                      refine take1 (i := 16) (d := 64) (v := undef) rfl rfl (by kernel_rfl) (by kernel_rfl) (by kernel_rfl) (fun _ _ _ h => h) (Or.inr ⟨by rfl, rfl⟩) (by assumption) ?_
                      try simp only [Act.put, List.setIfInBounds_toArray, List.set_cons_zero, List.set_cons_succ]
                      refine take1 (i := 17) (d := 65) (v := undef) rfl rfl (by kernel_rfl) (by kernel_rfl) (by kernel_rfl) (fun _ _ _ h => h) (Or.inr ⟨by rfl, rfl⟩) (by assumption) ?_
                      try simp only [Act.put, List.setIfInBounds_toArray, List.set_cons_zero, List.set_cons_succ]
                      refine take1 (i := 18) (d := 66) (v := undef) rfl rfl (by kernel_rfl) (by kernel_rfl) (by kernel_rfl) (fun _ _ _ h => h) (Or.inr ⟨by rfl, rfl⟩) (by assumption) ?_
                      try simp only [Act.put, List.setIfInBounds_toArray, List.set_cons_zero, List.set_cons_succ]
                      refine take1 (i := 19) (d := 67) (v := undef) rfl rfl (by kernel_rfl) (by kernel_rfl) (by kernel_rfl) (fun _ _ _ h => h) (Or.inr ⟨by rfl, rfl⟩) (by assumption) ?_
                      try simp only [Act.put, List.setIfInBounds_toArray, List.set_cons_zero, List.set_cons_succ]
                      refine take1 (i := 20) (d := 68) (v := undef) rfl rfl (by kernel_rfl) (by kernel_rfl) (by kernel_rfl) (fun _ _ _ h => h) (Or.inr ⟨by rfl, rfl⟩) (by assumption) ?_
                      try simp only [Act.put, List.setIfInBounds_toArray, List.set_cons_zero, List.set_cons_succ]
                      refine take1 (i := 21) (d := 69) (v := undef) rfl rfl (by kernel_rfl) (by kernel_rfl) (by kernel_rfl) (fun _ _ _ h => h) (Or.inr ⟨by rfl, rfl⟩) (by assumption) ?_
                      try simp only [Act.put, List.setIfInBounds_toArray, List.set_cons_zero, List.set_cons_succ]
                      refine take1 (i := 22) (d := 70) (v := undef) rfl rfl (by kernel_rfl) (by kernel_rfl) (by kernel_rfl) (fun _ _ _ h => h) (Or.inr ⟨by rfl, rfl⟩) (by assumption) ?_
                      try simp only [Act.put, List.setIfInBounds_toArray, List.set_cons_zero, List.set_cons_succ]
                      refine take1 (i := 23) (d := 71) (v := undef) rfl rfl (by kernel_rfl) (by kernel_rfl) (by kernel_rfl) (fun _ _ _ h => h) (Or.inr ⟨by rfl, rfl⟩) (by assumption) ?_
                      try simp only [Act.put, List.setIfInBounds_toArray, List.set_cons_zero, List.set_cons_succ]
                      refine take1 (i := 24) (d := 72) (v := undef) rfl rfl (by kernel_rfl) (by kernel_rfl) (by kernel_rfl) (fun _ _ _ h => h) (Or.inr ⟨by rfl, rfl⟩) (by assumption) ?_
                      try simp only [Act.put, List.setIfInBounds_toArray, List.set_cons_zero, List.set_cons_succ]
                      refine take1 (i := 25) (d := 73) (v := undef) rfl rfl (by kernel_rfl) (by kernel_rfl) (by kernel_rfl) (fun _ _ _ h => h) (Or.inr ⟨by rfl, rfl⟩) (by assumption) ?_
                      try simp only [Act.put, List.setIfInBounds_toArray, List.set_cons_zero, List.set_cons_succ]
                      refine take1 (i := 26) (d := 74) (v := undef) rfl rfl (by kernel_rfl) (by kernel_rfl) (by kernel_rfl) (fun _ _ _ h => h) (Or.inr ⟨by rfl, rfl⟩) (by assumption) ?_
                      try simp only [Act.put, List.setIfInBounds_toArray, List.set_cons_zero, List.set_cons_succ]
                      refine take1 (i := 27) (d := 75) (v := undef) rfl rfl (by kernel_rfl) (by kernel_rfl) (by kernel_rfl) (fun _ _ _ h => h) (Or.inr ⟨by rfl, rfl⟩) (by assumption) ?_
                      try simp only [Act.put, List.setIfInBounds_toArray, List.set_cons_zero, List.set_cons_succ]
                      refine take1 (i := 28) (d := 76) (v := undef) rfl rfl (by kernel_rfl) (by kernel_rfl) (by kernel_rfl) (fun _ _ _ h => h) (Or.inr ⟨by rfl, rfl⟩) (by assumption) ?_
                      try simp only [Act.put, List.setIfInBounds_toArray, List.set_cons_zero, List.set_cons_succ]
                      refine take1 (i := 29) (d := 77) (v := undef) rfl rfl (by kernel_rfl) (by kernel_rfl) (by kernel_rfl) (fun _ _ _ h => h) (Or.inr ⟨by rfl, rfl⟩) (by assumption) ?_
                      try simp only [Act.put, List.setIfInBounds_toArray, List.set_cons_zero, List.set_cons_succ]
                      refine take1 (i := 30) (d := 78) (v := undef) rfl rfl (by kernel_rfl) (by kernel_rfl) (by kernel_rfl) (fun _ _ _ h => h) (Or.inr ⟨by rfl, rfl⟩) (by assumption) ?_
                      try simp only [Act.put, List.setIfInBounds_toArray, List.set_cons_zero, List.set_cons_succ]
                      refine take1 (i := 31) (d := 79) (v := undef) rfl rfl (by kernel_rfl) (by kernel_rfl) (by kernel_rfl) (fun _ _ _ h => h) (Or.inr ⟨by rfl, rfl⟩) (by assumption) ?_
                      try simp only [Act.put, List.setIfInBounds_toArray, List.set_cons_zero, List.set_cons_succ]
                      refine take1 (i := 32) (d := 80) (v := ?_) rfl rfl (by kernel_rfl) (by kernel_rfl) (by kernel_rfl) (fun _ _ _ h => h) (Or.inl ⟨by rfl, ?_⟩) (by assumption) ?_
                      rotate_left
                      · intro w hSw
                        try dsimp only at hSw
                        go_simp
                        try with_reducible rfl
                      try simp only [Act.put, List.setIfInBounds_toArray, List.set_cons_zero, List.set_cons_succ]
                      refine take1 (i := 33) (d := 10) (v := ?_) rfl rfl (by kernel_rfl) (by kernel_rfl) (by kernel_rfl) (fun _ _ _ h => h) (Or.inl ⟨by rfl, ?_⟩) (by assumption) ?_
                      rotate_left
                      · intro w hSw
                        try dsimp only at hSw
                        go_simp
                        try with_reducible rfl
                      try simp only [Act.put, List.setIfInBounds_toArray, List.set_cons_zero, List.set_cons_succ]
                      refine wpAnyH_done (by kernel_rfl) ?_ _
                      refine NoPanic.normal ?_
                      go_wp2_with fail
                      go_meet
                      exact ⟨rfl, hO5⟩
                    · have h1' : (0 : Int) < N := by omega
                      refine wp_region_noPanic ?_
                      refine wp_region_held_drew (S := (fun w' => Only (fun _ => False) wr w' ∧ w'.cell? ⟨B, 0, none⟩ = some (.slice (some ⟨pb, po, none⟩) P.ps.length pc) ∧ w'.cell? ⟨B, 1, none⟩ = some (.slice la P.ls.length lc) ∧ w'.cell? ⟨B, 2, none⟩ = some (.int .i64 P.rate) ∧ w'.cell? ⟨B, 3, none⟩ = some (.int .i64 P.room) ∧ w'.cell? ⟨B, 4, none⟩ = some (.int .i64 P.m0) ∧ w'.cell? ⟨B, 5, none⟩ = some (.int .i64 P.m1) ∧ w'.cell? ⟨B, 6, none⟩ = some (.int .i64 P.m2) ∧ w'.cell? ⟨pb, po + q * 2, none⟩ = some (.int .u16 cq) ∧ w'.cell? ⟨pb, po + m * 2, none⟩ = some (.int .u16 cm) ∧ w'.cell? ⟨pb, po + m * 2 + 1, none⟩ = some (.bool true))) (by kernel_rfl) ⟨hOR.drew, HCh.out _ hOR.drew⟩ (fun hHeld => ?_)
                      refine take1 (i := 0) (d := 48) (v := ?_) rfl rfl (by kernel_rfl) (by kernel_rfl) (by kernel_rfl) (fun _ _ _ h => h) (Or.inl ⟨by rfl, ?_⟩) (by assumption) ?_
                      rotate_left
                      · intro w hSw
                        try dsimp only at hSw
                        go_simp
                        try with_reducible rfl
                      try simp only [Act.put, List.setIfInBounds_toArray, List.set_cons_zero, List.set_cons_succ]
                      refine take1 (i := 1) (d := 49) (v := ?_) rfl rfl (by kernel_rfl) (by kernel_rfl) (by kernel_rfl) (fun _ _ _ h => h) (Or.inl ⟨by rfl, ?_⟩) (by assumption) ?_
                      rotate_left
                      · intro w hSw
                        try dsimp only at hSw
                        go_simp
                        try with_reducible rfl
                      try simp only [Act.put, List.setIfInBounds_toArray, List.set_cons_zero, List.set_cons_succ]
                      refine take1 (i := 2) (d := 50) (v := ?_) rfl rfl (by kernel_rfl) (by kernel_rfl) (by kernel_rfl) (fun _ _ _ h => h) (Or.inl ⟨by rfl, ?_⟩) (by assumption) ?_
                      rotate_left
                      · intro w hSw
                        try dsimp only at hSw
                        go_simp
                        try with_reducible rfl
                      try simp only [Act.put, List.setIfInBounds_toArray, List.set_cons_zero, List.set_cons_succ]
                      refine take1 (i := 3) (d := 51) (v := ?_) rfl rfl (by kernel_rfl) (by kernel_rfl) (by kernel_rfl) (fun _ _ _ h => h) (Or.inl ⟨by rfl, ?_⟩) (by assumption) ?_
                      rotate_left
                      · intro w hSw
                        try dsimp only at hSw
                        go_simp
                        try with_reducible rfl
                      try simp only [Act.put, List.setIfInBounds_toArray, List.set_cons_zero, List.set_cons_succ]
                      refine take1 (i := 4) (d := 52) (v := ?_) rfl rfl (by kernel_rfl) (by kernel_rfl) (by kernel_rfl) (fun _ _ _ h => h) (Or.inl ⟨by rfl, ?_⟩) (by assumption) ?_
                      rotate_left
                      · intro w hSw
                        try dsimp only at hSw
                        go_simp
                        try with_reducible rfl
                      try simp only [Act.put, List.setIfInBounds_toArray, List.set_cons_zero, List.set_cons_succ]
                      refine take1 (i := 5) (d := 53) (v := ?_) rfl rfl (by kernel_rfl) (by kernel_rfl) (by kernel_rfl) (fun _ _ _ h => h) (Or.inl ⟨by rfl, ?_⟩) (by assumption) ?_
                      rotate_left
                      · intro w hSw
                        try dsimp only at hSw
                        go_simp
                        try with_reducible rfl
                      try simp only [Act.put, List.setIfInBounds_toArray, List.set_cons_zero, List.set_cons_succ]
                      refine take1 (i := 6) (d := 54) (v := ?_) rfl rfl (by kernel_rfl) (by kernel_rfl) (by kernel_rfl) (fun _ _ _ h => h) (Or.inl ⟨by rfl, ?_⟩) (by assumption) ?_
                      rotate_left
                      · intro w hSw
                        try dsimp only at hSw
                        go_simp
                        try with_reducible rfl
                      try simp only [Act.put, List.setIfInBounds_toArray, List.set_cons_zero, List.set_cons_succ]
                      refine take1 (i := 7) (d := 55) (v := ?_) rfl rfl (by kernel_rfl) (by kernel_rfl) (by kernel_rfl) (fun _ _ _ h => h) (Or.inl ⟨by rfl, ?_⟩) (by assumption) ?_
                      rotate_left
                      · intro w hSw
                        try dsimp only at hSw
                        go_simp
                        try with_reducible rfl
                      try simp only [Act.put, List.setIfInBounds_toArray, List.set_cons_zero, List.set_cons_succ]
                      refine take1 (i := 8) (d := 56) (v := ?_) rfl rfl (by kernel_rfl) (by kernel_rfl) (by kernel_rfl) (fun _ _ _ h => h) (Or.inl ⟨by rfl, ?_⟩) (by assumption) ?_
                      rotate_left
                      · intro w hSw
                        try dsimp only at hSw
                        go_simp
                        try with_reducible rfl
                      try simp only [Act.put, List.setIfInBounds_toArray, List.set_cons_zero, List.set_cons_succ]
                      refine take1 (i := 9) (d := 57) (v := ?_) rfl rfl (by kernel_rfl) (by kernel_rfl) (by kernel_rfl) (fun _ _ _ h => h) (Or.inl ⟨by rfl, ?_⟩) (by assumption) ?_
                      rotate_left
                      · intro w hSw
                        try dsimp only at hSw
                        go_simp
                        try with_reducible rfl
                      try simp only [Act.put, List.setIfInBounds_toArray, List.set_cons_zero, List.set_cons_succ]
                      refine take1 (i := 10) (d := 58) (v := ?_) rfl rfl (by kernel_rfl) (by kernel_rfl) (by kernel_rfl) (fun _ _ _ h => h) (Or.inl ⟨by rfl, ?_⟩) (by assumption) ?_
                      rotate_left
                      · intro w hSw
                        try dsimp only at hSw
                        go_simp
                        try with_reducible rfl
                      try simp only [Act.put, List.setIfInBounds_toArray, List.set_cons_zero, List.set_cons_succ]
                      refine take1 (i := 11) (d := 59) (v := ?_) rfl rfl (by kernel_rfl) (by kernel_rfl) (by kernel_rfl) (fun _ _ _ h => h) (Or.inl ⟨by rfl, ?_⟩) (by assumption) ?_
                      rotate_left
                      · intro w hSw
                        try dsimp only at hSw
                        go_simp
                        try with_reducible rfl
                      try simp only [Act.put, List.setIfInBounds_toArray, List.set_cons_zero, List.set_cons_succ]
                      refine take1 (i := 12) (d := 60) (v := ?_) rfl rfl (by kernel_rfl) (by kernel_rfl) (by kernel_rfl) (fun _ _ _ h => h) (Or.inl ⟨by rfl, ?_⟩) (by assumption) ?_
                      rotate_left
                      · intro w hSw
                        try dsimp only at hSw
                        go_simp
                        try with_reducible rfl
                      try simp only [Act.put, List.setIfInBounds_toArray, List.set_cons_zero, List.set_cons_succ]
                      refine wpAnyH_ready (rs := [13]) (by kernel_rfl) (by simp) ?_
                      refine AllReadyH.cons rfl (fun K hK => ?_) AllReadyH.nil
                      go_simp
                      refine (HLn.out _ hOR.drew).mono ?_
                      rintro e w5 ⟨ho5, rfl⟩
                      go_wp2_with fail
                      have hO5 := hOR.drew.trans ho5
                      refine hK.out _ _ ⟨hO5, HCh.out _ hO5⟩ (fun hHeld2 => ?_)
                      clear hK K hHeld
                      try simp only [Act.put, List.setIfInBounds_toArray, List.set_cons_zero, List.set_cons_succ]
                      refine take1 (i := 14) (d := 62) (v := ?_) rfl rfl (by kernel_rfl) (by kernel_rfl) (by kernel_rfl) (fun _ _ _ h => h) (Or.inl ⟨by rfl, ?_⟩) (by assumption) ?_
                      rotate_left
                      · intro w hSw
                        try dsimp only at hSw
                        go_simp
                        try with_reducible rfl
                      try simp only [Act.put, List.setIfInBounds_toArray, List.set_cons_zero, List.set_cons_succ]
                      refine take1 (i := 15) (d := 63) (v := ?_) rfl rfl (by kernel_rfl) (by kernel_rfl) (by kernel_rfl) (fun _ _ _ h => h) (Or.inl ⟨by rfl, ?_⟩) (by assumption) ?_
                      rotate_left
                      · intro w hSw
                        try dsimp only at hSw
                        go_simp
                        try with_reducible rfl
                      try simp only [Act.put, List.setIfInBounds_toArray, List.set_cons_zero, List.set_cons_succ]
                      refine take1 (i := 16) (d := 64) (v := ?_) rfl rfl (by kernel_rfl) (by kernel_rfl) (by kernel_rfl) (fun _ _ _ h => h) (Or.inl ⟨by rfl, ?_⟩) (by assumption) ?_
                      rotate_left
                      · intro w hSw
                        try dsimp only at hSw
                        go_simp
                        try with_reducible rfl
                      try simp only [Act.put, List.setIfInBounds_toArray, List.set_cons_zero, List.set_cons_succ]
                      refine take1 (i := 17) (d := 65) (v := ?_) rfl rfl (by kernel_rfl) (by kernel_rfl) (by kernel_rfl) (fun _ _ _ h => h) (Or.inl ⟨by rfl, ?_⟩) (by assumption) ?_
                      rotate_left
                      · intro w hSw
                        try dsimp only at hSw
                        go_simp
                        try with_reducible rfl
                      try simp only [Act.put, List.setIfInBounds_toArray, List.set_cons_zero, List.set_cons_succ]
                      refine take1 (i := 18) (d := 66) (v := ?_) rfl rfl (by kernel_rfl) (by kernel_rfl) (by kernel_rfl) (fun _ _ _ h => h) (Or.inl ⟨by rfl, ?_⟩) (by assumption) ?_
                      rotate_left
                      · intro w hSw
                        try dsimp only at hSw
                        go_simp
                        try with_reducible rfl
                      try simp only [Act.put, List.setIfInBounds_toArray, List.set_cons_zero, List.set_cons_succ]
                      refine take1 (i := 19) (d := 67) (v := ?_) rfl rfl (by kernel_rfl) (by kernel_rfl) (by kernel_rfl) (fun _ _ _ h => h) (Or.inl ⟨by rfl, ?_⟩) (by assumption) ?_
                      rotate_left
                      · intro w hSw
                        try dsimp only at hSw
                        go_simp
                        try with_reducible rfl
                      try simp only [Act.put, List.setIfInBounds_toArray, List.set_cons_zero, List.set_cons_succ]
                      refine take1 (i := 20) (d := 68) (v := ?_) rfl rfl (by kernel_rfl) (by kernel_rfl) (by kernel_rfl) (fun _ _ _ h => h) (Or.inl ⟨by rfl, ?_⟩) (by assumption) ?_
                      rotate_left
                      · intro w hSw
                        try dsimp only at hSw
                        go_simp
                        try with_reducible rfl
                      try simp only [Act.put, List.setIfInBounds_toArray, List.set_cons_zero, List.set_cons_succ]
                      refine take1 (i := 21) (d := 69) (v := ?_) rfl rfl (by kernel_rfl) (by kernel_rfl) (by kernel_rfl) (fun _ _ _ h => h) (Or.inl ⟨by rfl, ?_⟩) (by assumption) ?_
                      rotate_left
                      · intro w hSw
                        try dsimp only at hSw
                        go_simp
                        try with_reducible rfl
                      try simp only [Act.put, List.setIfInBounds_toArray, List.set_cons_zero, List.set_cons_succ]
                      refine take1 (i := 22) (d := 70) (v := ?_) rfl rfl (by kernel_rfl) (by kernel_rfl) (by kernel_rfl) (fun _ _ _ h => h) (Or.inl ⟨by rfl, ?_⟩) (by assumption) ?_
                      rotate_left
                      · intro w hSw
                        try dsimp only at hSw
                        go_simp
                        try with_reducible rfl
                      try simp only [Act.put, List.setIfInBounds_toArray, List.set_cons_zero, List.set_cons_succ]
                      refine take1 (i := 23) (d := 71) (v := undef) rfl rfl (by kernel_rfl) (by kernel_rfl) (by kernel_rfl) (fun _ _ _ h => h) (Or.inr ⟨by rfl, rfl⟩) (by assumption) ?_
                      try simp only [Act.put, List.setIfInBounds_toArray, List.set_cons_zero, List.set_cons_succ]
                      refine take1 (i := 24) (d := 72) (v := undef) rfl rfl (by kernel_rfl) (by kernel_rfl) (by kernel_rfl) (fun _ _ _ h => h) (Or.inr ⟨by rfl, rfl⟩) (by assumption) ?_
                      try simp only [Act.put, List.setIfInBounds_toArray, List.set_cons_zero, List.set_cons_succ]
                      refine take1 (i := 25) (d := 73) (v := undef) rfl rfl (by kernel_rfl) (by kernel_rfl) (by kernel_rfl) (fun _ _ _ h => h) (Or.inr ⟨by rfl, rfl⟩) (by assumption) ?_
                      try simp only [Act.put, List.setIfInBounds_toArray, List.set_cons_zero, List.set_cons_succ]
                      refine take1 (i := 26) (d := 74) (v := undef) rfl rfl (by kernel_rfl) (by kernel_rfl) (by kernel_rfl) (fun _ _ _ h => h) (Or.inr ⟨by rfl, rfl⟩) (by assumption) ?_
                      try simp only [Act.put, List.setIfInBounds_toArray, List.set_cons_zero, List.set_cons_succ]
                      refine take1 (i := 27) (d := 75) (v := undef) rfl rfl (by kernel_rfl) (by kernel_rfl) (by kernel_rfl) (fun _ _ _ h => h) (Or.inr ⟨by rfl, rfl⟩) (by assumption) ?_
                      try simp only [Act.put, List.setIfInBounds_toArray, List.set_cons_zero, List.set_cons_succ]
                      refine take1 (i := 28) (d := 76) (v := undef) rfl rfl (by kernel_rfl) (by kernel_rfl) (by kernel_rfl) (fun _ _ _ h => h) (Or.inr ⟨by rfl, rfl⟩) (by assumption) ?_
                      try simp only [Act.put, List.setIfInBounds_toArray, List.set_cons_zero, List.set_cons_succ]
                      refine take1 (i := 29) (d := 77) (v := undef) rfl rfl (by kernel_rfl) (by kernel_rfl) (by kernel_rfl) (fun _ _ _ h => h) (Or.inr ⟨by rfl, rfl⟩) (by assumption) ?_
                      try simp only [Act.put, List.setIfInBounds_toArray, List.set_cons_zero, List.set_cons_succ]
                      refine take1 (i := 30) (d := 78) (v := undef) rfl rfl (by kernel_rfl) (by kernel_rfl) (by kernel_rfl) (fun _ _ _ h => h) (Or.inr ⟨by rfl, rfl⟩) (by assumption) ?_
                      try simp only [Act.put, List.setIfInBounds_toArray, List.set_cons_zero, List.set_cons_succ]
                      refine take1 (i := 31) (d := 79) (v := ?_) rfl rfl (by kernel_rfl) (by kernel_rfl) (by kernel_rfl) (fun _ _ _ h => h) (Or.inl ⟨by rfl, ?_⟩) (by assumption) ?_
                      rotate_left
                      · intro w hSw
                        try dsimp only at hSw
                        go_simp
                        try with_reducible rfl
                      try simp only [Act.put, List.setIfInBounds_toArray, List.set_cons_zero, List.set_cons_succ]
                      refine take1 (i := 32) (d := 80) (v := ?_) rfl rfl (by kernel_rfl) (by kernel_rfl) (by kernel_rfl) (fun _ _ _ h => h) (Or.inl ⟨by rfl, ?_⟩) (by assumption) ?_
                      rotate_left
                      · intro w hSw
                        try dsimp only at hSw
                        go_simp
                        try with_reducible rfl
                      try simp only [Act.put, List.setIfInBounds_toArray, List.set_cons_zero, List.set_cons_succ]
                      refine take1 (i := 33) (d := 10) (v := ?_) rfl rfl (by kernel_rfl) (by kernel_rfl) (by kernel_rfl) (fun _ _ _ h => h) (Or.inl ⟨by rfl, ?_⟩) (by assumption) ?_
                      rotate_left
                      · intro w hSw
                        try dsimp only at hSw
                        go_simp
                        try with_reducible rfl
                      try simp only [Act.put, List.setIfInBounds_toArray, List.set_cons_zero, List.set_cons_succ]
                      refine wpAnyH_done (by kernel_rfl) ?_ _
                      refine NoPanic.normal ?_
                      go_wp2_with fail
                      go_meet
                      exact ⟨rfl, hO5⟩
                    · have h1' : (0 : Int) < N := by omega
                      have H3 := Lib.hid h3
                      clear h3
                      refine wp_region_noPanic ?_
                      refine wp_region_held_drew (S := (fun w' => Only (fun _ => False) wr w' ∧ w'.cell? ⟨B, 0, none⟩ = some (.slice (some ⟨pb, po, none⟩) P.ps.length pc) ∧ w'.cell? ⟨B, 1, none⟩ = some (.slice la P.ls.length lc) ∧ w'.cell? ⟨B, 2, none⟩ = some (.int .i64 P.rate) ∧ w'.cell? ⟨B, 3, none⟩ = some (.int .i64 P.room) ∧ w'.cell? ⟨B, 4, none⟩ = some (.int .i64 P.m0) ∧ w'.cell? ⟨B, 5, none⟩ = some (.int .i64 P.m1) ∧ w'.cell? ⟨B, 6, none⟩ = some (.int .i64 P.m2) ∧ w'.cell? ⟨pb, po + q * 2, none⟩ = some (.int .u16 cq) ∧ w'.cell? ⟨pb, po + m * 2, none⟩ = some (.int .u16 cm) ∧ w'.cell? ⟨pb, po + m * 2 + 1, none⟩ = some (.bool false))) (by kernel_rfl) ⟨hOR.drew, HCh.out _ hOR.drew⟩ (fun hHeld => ?_)
                      refine take1 (i := 0) (d := 48) (v := ?_) rfl rfl (by kernel_rfl) (by kernel_rfl) (by kernel_rfl) (fun _ _ _ h => h) (Or.inl ⟨by rfl, ?_⟩) (by assumption) ?_
                      rotate_left
                      · intro w hSw
                        try dsimp only at hSw
                        go_simp
                        try with_reducible rfl
                      try simp only [Act.put, List.setIfInBounds_toArray, List.set_cons_zero, List.set_cons_succ]
                      refine take1 (i := 1) (d := 49) (v := ?_) rfl rfl (by kernel_rfl) (by kernel_rfl) (by kernel_rfl) (fun _ _ _ h => h) (Or.inl ⟨by rfl, ?_⟩) (by assumption) ?_
                      rotate_left
                      · intro w hSw
                        try dsimp only at hSw
                        go_simp
                        try with_reducible rfl
                      try simp only [Act.put, List.setIfInBounds_toArray, List.set_cons_zero, List.set_cons_succ]
                      refine take1 (i := 2) (d := 50) (v := ?_) rfl rfl (by kernel_rfl) (by kernel_rfl) (by kernel_rfl) (fun _ _ _ h => h) (Or.inl ⟨by rfl, ?_⟩) (by assumption) ?_
                      rotate_left
                      · intro w hSw
                        try dsimp only at hSw
                        go_simp
                        try with_reducible rfl
                      try simp only [Act.put, List.setIfInBounds_toArray, List.set_cons_zero, List.set_cons_succ]
                      refine take1 (i := 3) (d := 51) (v := ?_) rfl rfl (by kernel_rfl) (by kernel_rfl) (by kernel_rfl) (fun _ _ _ h => h) (Or.inl ⟨by rfl, ?_⟩) (by assumption) ?_
                      rotate_left
                      · intro w hSw
                        try dsimp only at hSw
                        go_simp
                        try with_reducible rfl
                      try simp only [Act.put, List.setIfInBounds_toArray, List.set_cons_zero, List.set_cons_succ]
                      refine take1 (i := 4) (d := 52) (v := ?_) rfl rfl (by kernel_rfl) (by kernel_rfl) (by kernel_rfl) (fun _ _ _ h => h) (Or.inl ⟨by rfl, ?_⟩) (by assumption) ?_
                      rotate_left
                      · intro w hSw
                        try dsimp only at hSw
                        go_simp
                        try with_reducible rfl
                      try simp only [Act.put, List.setIfInBounds_toArray, List.set_cons_zero, List.set_cons_succ]
                      refine take1 (i := 5) (d := 53) (v := ?_) rfl rfl (by kernel_rfl) (by kernel_rfl) (by kernel_rfl) (fun _ _ _ h => h) (Or.inl ⟨by rfl, ?_⟩) (by assumption) ?_
                      rotate_left
                      · intro w hSw
                        try dsimp only at hSw
                        go_simp
                        try with_reducible rfl
                      try simp only [Act.put, List.setIfInBounds_toArray, List.set_cons_zero, List.set_cons_succ]
                      refine take1 (i := 6) (d := 54) (v := ?_) rfl rfl (by kernel_rfl) (by kernel_rfl) (by kernel_rfl) (fun _ _ _ h => h) (Or.inl ⟨by rfl, ?_⟩) (by assumption) ?_
                      rotate_left
                      · intro w hSw
                        try dsimp only at hSw
                        go_simp
                        try with_reducible rfl
                      try simp only [Act.put, List.setIfInBounds_toArray, List.set_cons_zero, List.set_cons_succ]
                      refine take1 (i := 7) (d := 55) (v := ?_) rfl rfl (by kernel_rfl) (by kernel_rfl) (by kernel_rfl) (fun _ _ _ h => h) (Or.inl ⟨by rfl, ?_⟩) (by assumption) ?_
                      rotate_left
                      · intro w hSw
                        try dsimp only at hSw
                        go_simp
                        try with_reducible rfl
                      try simp only [Act.put, List.setIfInBounds_toArray, List.set_cons_zero, List.set_cons_succ]
                      refine take1 (i := 8) (d := 56) (v := ?_) rfl rfl (by kernel_rfl) (by kernel_rfl) (by kernel_rfl) (fun _ _ _ h => h) (Or.inl ⟨by rfl, ?_⟩) (by assumption) ?_
                      rotate_left
                      · intro w hSw
                        try dsimp only at hSw
                        go_simp
                        try with_reducible rfl
                      try simp only [Act.put, List.setIfInBounds_toArray, List.set_cons_zero, List.set_cons_succ]
                      refine take1 (i := 9) (d := 57) (v := ?_) rfl rfl (by kernel_rfl) (by kernel_rfl) (by kernel_rfl) (fun _ _ _ h => h) (Or.inl ⟨by rfl, ?_⟩) (by assumption) ?_
                      rotate_left
                      · intro w hSw
                        try dsimp only at hSw
                        go_simp
                        try with_reducible rfl
                      try simp only [Act.put, List.setIfInBounds_toArray, List.set_cons_zero, List.set_cons_succ]
                      refine take1 (i := 10) (d := 58) (v := ?_) rfl rfl (by kernel_rfl) (by kernel_rfl) (by kernel_rfl) (fun _ _ _ h => h) (Or.inl ⟨by rfl, ?_⟩) (by assumption) ?_
                      rotate_left
                      · intro w hSw
                        try dsimp only at hSw
                        go_simp
                        try with_reducible rfl
                      try simp only [Act.put, List.setIfInBounds_toArray, List.set_cons_zero, List.set_cons_succ]
                      refine take1 (i := 11) (d := 59) (v := ?_) rfl rfl (by kernel_rfl) (by kernel_rfl) (by kernel_rfl) (fun _ _ _ h => h) (Or.inl ⟨by rfl, ?_⟩) (by assumption) ?_
                      rotate_left
                      · intro w hSw
                        try dsimp only at hSw
                        go_simp
                        try with_reducible rfl
                      try simp only [Act.put, List.setIfInBounds_toArray, List.set_cons_zero, List.set_cons_succ]
                      refine take1 (i := 12) (d := 60) (v := ?_) rfl rfl (by kernel_rfl) (by kernel_rfl) (by kernel_rfl) (fun _ _ _ h => h) (Or.inl ⟨by rfl, ?_⟩) (by assumption) ?_
                      rotate_left
                      · intro w hSw
                        try dsimp only at hSw
                        go_simp
                        try with_reducible rfl
                      try simp only [Act.put, List.setIfInBounds_toArray, List.set_cons_zero, List.set_cons_succ]
                      refine wpAnyH_ready (rs := [13]) (by kernel_rfl) (by simp) ?_
                      refine AllReadyH.cons rfl (fun K hK => ?_) AllReadyH.nil
                      go_simp
                      refine (HLn.out _ hOR.drew).mono ?_
                      rintro e w5 ⟨ho5, rfl⟩
                      go_wp2_with fail
                      have hO5 := hOR.drew.trans ho5
                      refine hK.out _ _ ⟨hO5, HCh.out _ hO5⟩ (fun hHeld2 => ?_)
                      clear hK K hHeld
                      try simp only [Act.put, List.setIfInBounds_toArray, List.set_cons_zero, List.set_cons_succ]
                      refine take1 (i := 14) (d := 62) (v := ?_) rfl rfl (by kernel_rfl) (by kernel_rfl) (by kernel_rfl) (fun _ _ _ h => h) (Or.inl ⟨by rfl, ?_⟩) (by assumption) ?_
                      rotate_left
                      · intro w hSw
                        try dsimp only at hSw
                        go_simp
                        try with_reducible rfl
                      try simp only [Act.put, List.setIfInBounds_toArray, List.set_cons_zero, List.set_cons_succ]
                      refine take1 (i := 15) (d := 63) (v := ?_) rfl rfl (by kernel_rfl) (by kernel_rfl) (by kernel_rfl) (fun _ _ _ h => h) (Or.inl ⟨by rfl, ?_⟩) (by assumption) ?_
                      rotate_left
                      · intro w hSw
                        try dsimp only at hSw
                        go_simp
                        try with_reducible rfl
                      try simp only [Act.put, List.setIfInBounds_toArray, List.set_cons_zero, List.set_cons_succ]
                      refine take1 (i := 16) (d := 64) (v := ?_) rfl rfl (by kernel_rfl) (by kernel_rfl) (by kernel_rfl) (fun _ _ _ h => h) (Or.inl ⟨by rfl, ?_⟩) (by assumption) ?_
                      rotate_left
                      · intro w hSw
                        try dsimp only at hSw
                        go_simp
                        try with_reducible rfl
                      try simp only [Act.put, List.setIfInBounds_toArray, List.set_cons_zero, List.set_cons_succ]
                      refine take1 (i := 17) (d := 65) (v := ?_) rfl rfl (by kernel_rfl) (by kernel_rfl) (by kernel_rfl) (fun _ _ _ h => h) (Or.inl ⟨by rfl, ?_⟩) (by assumption) ?_
                      rotate_left
                      · intro w hSw
                        try dsimp only at hSw
                        go_simp
                        try with_reducible rfl
                      try simp only [Act.put, List.setIfInBounds_toArray, List.set_cons_zero, List.set_cons_succ]
                      refine take1 (i := 18) (d := 66) (v := ?_) rfl rfl (by kernel_rfl) (by kernel_rfl) (by kernel_rfl) (fun _ _ _ h => h) (Or.inl ⟨by rfl, ?_⟩) (by assumption) ?_
                      rotate_left
                      · intro w hSw
                        try dsimp only at hSw
                        go_simp
                        try with_reducible rfl
                      try simp only [Act.put, List.setIfInBounds_toArray, List.set_cons_zero, List.set_cons_succ]
                      refine take1 (i := 19) (d := 67) (v := ?_) rfl rfl (by kernel_rfl) (by kernel_rfl) (by kernel_rfl) (fun _ _ _ h => h) (Or.inl ⟨by rfl, ?_⟩) (by assumption) ?_
                      rotate_left
                      · intro w hSw
                        try dsimp only at hSw
                        go_simp
                        try with_reducible rfl
                      try simp only [Act.put, List.setIfInBounds_toArray, List.set_cons_zero, List.set_cons_succ]
                      refine take1 (i := 20) (d := 68) (v := ?_) rfl rfl (by kernel_rfl) (by kernel_rfl) (by kernel_rfl) (fun _ _ _ h => h) (Or.inl ⟨by rfl, ?_⟩) (by assumption) ?_
                      rotate_left
                      · intro w hSw
                        try dsimp only at hSw
                        go_simp
                        try with_reducible rfl
                      try simp only [Act.put, List.setIfInBounds_toArray, List.set_cons_zero, List.set_cons_succ]
                      refine take1 (i := 21) (d := 69) (v := ?_) rfl rfl (by kernel_rfl) (by kernel_rfl) (by kernel_rfl) (fun _ _ _ h => h) (Or.inl ⟨by rfl, ?_⟩) (by assumption) ?_
                      rotate_left
                      · intro w hSw
                        try dsimp only at hSw
                        go_simp
                        try with_reducible rfl
                      try simp only [Act.put, List.setIfInBounds_toArray, List.set_cons_zero, List.set_cons_succ]
                      refine take1 (i := 22) (d := 70) (v := ?_) rfl rfl (by kernel_rfl) (by kernel_rfl) (by kernel_rfl) (fun _ _ _ h => h) (Or.inl ⟨by rfl, ?_⟩) (by assumption) ?_
                      rotate_left
                      · intro w hSw
                        try dsimp only at hSw
                        go_simp
                        try with_reducible rfl
                      try simp only [Act.put, List.setIfInBounds_toArray, List.set_cons_zero, List.set_cons_succ]
                      refine take1 (i := 23) (d := 71) (v := ?_) rfl rfl (by kernel_rfl) (by kernel_rfl) (by kernel_rfl) (fun _ _ _ h => h) (Or.inl ⟨by rfl, ?_⟩) (by assumption) ?_
                      rotate_left
                      · intro w hSw
                        try dsimp only at hSw
                        go_simp
                        try with_reducible rfl
                      try simp only [Act.put, List.setIfInBounds_toArray, List.set_cons_zero, List.set_cons_succ]
                      refine take1 (i := 24) (d := 72) (v := ?_) rfl rfl (by kernel_rfl) (by kernel_rfl) (by kernel_rfl) (fun _ _ _ h => h) (Or.inl ⟨by rfl, ?_⟩) (by assumption) ?_
                      rotate_left
                      · intro w hSw
                        try dsimp only at hSw
                        go_simp
                        try with_reducible rfl
                      try simp only [Act.put, List.setIfInBounds_toArray, List.set_cons_zero, List.set_cons_succ]
                      refine take1 (i := 25) (d := 73) (v := ?_) rfl rfl (by kernel_rfl) (by kernel_rfl) (by kernel_rfl) (fun _ _ _ h => h) (Or.inl ⟨by rfl, ?_⟩) (by assumption) ?_
                      rotate_left
                      · intro w hSw
                        try dsimp only at hSw
                        go_simp
                        try with_reducible rfl
                      try simp only [Act.put, List.setIfInBounds_toArray, List.set_cons_zero, List.set_cons_succ]
                      refine take1 (i := 26) (d := 74) (v := ?_) rfl rfl (by kernel_rfl) (by kernel_rfl) (by kernel_rfl) (fun _ _ _ h => h) (Or.inl ⟨by rfl, ?_⟩) (by assumption) ?_
                      rotate_left
                      · intro w hSw
                        try dsimp only at hSw
                        go_simp
                        try with_reducible rfl
                      try simp only [Act.put, List.setIfInBounds_toArray, List.set_cons_zero, List.set_cons_succ]
                      refine take1 (i := 27) (d := 75) (v := ?_) rfl rfl (by kernel_rfl) (by kernel_rfl) (by kernel_rfl) (fun _ _ _ h => h) (Or.inl ⟨by rfl, ?_⟩) (by assumption) ?_
                      rotate_left
                      · intro w hSw
                        try dsimp only at hSw
                        go_simp
                        try with_reducible rfl
                      try simp only [Act.put, List.setIfInBounds_toArray, List.set_cons_zero, List.set_cons_succ]
                      refine take1 (i := 28) (d := 76) (v := ?_) rfl rfl (by kernel_rfl) (by kernel_rfl) (by kernel_rfl) (fun _ _ _ h => h) (Or.inl ⟨by rfl, ?_⟩) (by assumption) ?_
                      rotate_left
                      · intro w hSw
                        try dsimp only at hSw
                        go_simp
                        try with_reducible rfl
                      try simp only [Act.put, List.setIfInBounds_toArray, List.set_cons_zero, List.set_cons_succ]
                      refine take1 (i := 29) (d := 77) (v := ?_) rfl rfl (by kernel_rfl) (by kernel_rfl) (by kernel_rfl) (fun _ _ _ h => h) (Or.inl ⟨by rfl, ?_⟩) (by assumption) ?_
                      rotate_left
                      · intro w hSw
                        try dsimp only at hSw
                        go_simp
                        try with_reducible rfl
                      try simp only [Act.put, List.setIfInBounds_toArray, List.set_cons_zero, List.set_cons_succ]
                      refine take1 (i := 30) (d := 78) (v := ?_) rfl rfl (by kernel_rfl) (by kernel_rfl) (by kernel_rfl) (fun _ _ _ h => h) (Or.inl ⟨by rfl, ?_⟩) (by assumption) ?_
                      rotate_left
                      · intro w hSw
                        try dsimp only at hSw
                        go_simp
                        try with_reducible rfl
                      try simp only [Act.put, List.setIfInBounds_toArray, List.set_cons_zero, List.set_cons_succ]
                      refine take1 (i := 31) (d := 79) (v := ?_) rfl rfl (by kernel_rfl) (by kernel_rfl) (by kernel_rfl) (fun _ _ _ h => h) (Or.inl ⟨by rfl, ?_⟩) (by assumption) ?_
                      rotate_left
                      · intro w hSw
                        try dsimp only at hSw
                        go_simp
                        try with_reducible rfl
                      try simp only [Act.put, List.setIfInBounds_toArray, List.set_cons_zero, List.set_cons_succ]
                      refine take1 (i := 32) (d := 80) (v := ?_) rfl rfl (by kernel_rfl) (by kernel_rfl) (by kernel_rfl) (fun _ _ _ h => h) (Or.inl ⟨by rfl, ?_⟩) (by assumption) ?_
                      rotate_left
                      · intro w hSw
                        try dsimp only at hSw
                        go_simp
                        try with_reducible rfl
                      try simp only [Act.put, List.setIfInBounds_toArray, List.set_cons_zero, List.set_cons_succ]
                      refine take1 (i := 33) (d := 10) (v := ?_) rfl rfl (by kernel_rfl) (by kernel_rfl) (by kernel_rfl) (fun _ _ _ h => h) (Or.inl ⟨by rfl, ?_⟩) (by assumption) ?_
                      rotate_left
                      · intro w hSw
                        try dsimp only at hSw
                        go_simp
                        try with_reducible rfl
                      try simp only [Act.put, List.setIfInBounds_toArray, List.set_cons_zero, List.set_cons_succ]
                      refine wpAnyH_done (by kernel_rfl) ?_ _
                      refine NoPanic.normal ?_
                      go_wp2_with fail
                      go_meet
                      exact ⟨by simp [H3.out], hO5⟩
                    · have h1' : (0 : Int) < N := by omega
                      have H3 := Lib.hid h3
                      clear h3
                      refine wp_region_noPanic ?_
                      refine wp_region_held_drew (S := (fun w' => Only (fun _ => False) wr w' ∧ w'.cell? ⟨B, 0, none⟩ = some (.slice (some ⟨pb, po, none⟩) P.ps.length pc) ∧ w'.cell? ⟨B, 1, none⟩ = some (.slice la P.ls.length lc) ∧ w'.cell? ⟨B, 2, none⟩ = some (.int .i64 P.rate) ∧ w'.cell? ⟨B, 3, none⟩ = some (.int .i64 P.room) ∧ w'.cell? ⟨B, 4, none⟩ = some (.int .i64 P.m0) ∧ w'.cell? ⟨B, 5, none⟩ = some (.int .i64 P.m1) ∧ w'.cell? ⟨B, 6, none⟩ = some (.int .i64 P.m2) ∧ w'.cell? ⟨pb, po + q * 2, none⟩ = some (.int .u16 cq) ∧ w'.cell? ⟨pb, po + m * 2, none⟩ = some (.int .u16 cm) ∧ w'.cell? ⟨pb, po + m * 2 + 1, none⟩ = some (.bool false))) (by kernel_rfl) ⟨hOR.drew, HCh.out _ hOR.drew⟩ (fun hHeld => ?_)
                      refine take1 (i := 0) (d := 48) (v := ?_) rfl rfl (by kernel_rfl) (by kernel_rfl) (by kernel_rfl) (fun _ _ _ h => h) (Or.inl ⟨by rfl, ?_⟩) (by assumption) ?_
                      rotate_left
                      · intro w hSw
                        try dsimp only at hSw
                        go_simp
                        try with_reducible rfl
                      try simp only [Act.put, List.setIfInBounds_toArray, List.set_cons_zero, List.set_cons_succ]
                      refine take1 (i := 1) (d := 49) (v := ?_) rfl rfl (by kernel_rfl) (by kernel_rfl) (by kernel_rfl) (fun _ _ _ h => h) (Or.inl ⟨by rfl, ?_⟩) (by assumption) ?_
                      rotate_left
                      · intro w hSw
                        try dsimp only at hSw
                        go_simp
                        try with_reducible rfl
                      try simp only [Act.put, List.setIfInBounds_toArray, List.set_cons_zero, List.set_cons_succ]
                      refine take1 (i := 2) (d := 50) (v := ?_) rfl rfl (by kernel_rfl) (by kernel_rfl) (by kernel_rfl) (fun _ _ _ h => h) (Or.inl ⟨by rfl, ?_⟩) (by assumption) ?_
                      rotate_left
                      · intro w hSw
                        try dsimp only at hSw
                        go_simp
                        try with_reducible rfl
                      try simp only [Act.put, List.setIfInBounds_toArray, List.set_cons_zero, List.set_cons_succ]
                      refine take1 (i := 3) (d := 51) (v := ?_) rfl rfl (by kernel_rfl) (by kernel_rfl) (by kernel_rfl) (fun _ _ _ h => h) (Or.inl ⟨by rfl, ?_⟩) (by assumption) ?_
                      rotate_left
                      · intro w hSw
                        try dsimp only at hSw
                        go_simp
                        try with_reducible rfl
                      try simp only [Act.put, List.setIfInBounds_toArray, List.set_cons_zero, List.set_cons_succ]
                      refine take1 (i := 4) (d := 52) (v := ?_) rfl rfl (by kernel_rfl) (by kernel_rfl) (by kernel_rfl) (fun _ _ _ h => h) (Or.inl ⟨by rfl, ?_⟩) (by assumption) ?_
                      rotate_left
                      · intro w hSw
                        try dsimp only at hSw
                        go_simp
                        try with_reducible rfl
                      try simp only [Act.put, List.setIfInBounds_toArray, List.set_cons_zero, List.set_cons_succ]
                      refine take1 (i := 5) (d := 53) (v := ?_) rfl rfl (by kernel_rfl) (by kernel_rfl) (by kernel_rfl) (fun _ _ _ h => h) (Or.inl ⟨by rfl, ?_⟩) (by assumption) ?_
                      rotate_left
                      · intro w hSw
                        try dsimp only at hSw
                        go_simp
                        try with_reducible rfl
                      try simp only [Act.put, List.setIfInBounds_toArray, List.set_cons_zero, List.set_cons_succ]
                      refine take1 (i := 6) (d := 54) (v := ?_) rfl rfl (by kernel_rfl) (by kernel_rfl) (by kernel_rfl) (fun _ _ _ h => h) (Or.inl ⟨by rfl, ?_⟩) (by assumption) ?_
                      rotate_left
                      · intro w hSw
                        try dsimp only at hSw
                        go_simp
                        try with_reducible rfl
                      try simp only [Act.put, List.setIfInBounds_toArray, List.set_cons_zero, List.set_cons_succ]
                      refine take1 (i := 7) (d := 55) (v := ?_) rfl rfl (by kernel_rfl) (by kernel_rfl) (by kernel_rfl) (fun _ _ _ h => h) (Or.inl ⟨by rfl, ?_⟩) (by assumption) ?_
                      rotate_left
                      · intro w hSw
                        try dsimp only at hSw
                        go_simp
                        try with_reducible rfl
                      try simp only [Act.put, List.setIfInBounds_toArray, List.set_cons_zero, List.set_cons_succ]
                      refine take1 (i := 8) (d := 56) (v := ?_) rfl rfl (by kernel_rfl) (by kernel_rfl) (by kernel_rfl) (fun _ _ _ h => h) (Or.inl ⟨by rfl, ?_⟩) (by assumption) ?_
                      rotate_left
                      · intro w hSw
                        try dsimp only at hSw
                        go_simp
                        try with_reducible rfl
                      try simp only [Act.put, List.setIfInBounds_toArray, List.set_cons_zero, List.set_cons_succ]
                      refine take1 (i := 9) (d := 57) (v := ?_) rfl rfl (by kernel_rfl) (by kernel_rfl) (by kernel_rfl) (fun _ _ _ h => h) (Or.inl ⟨by rfl, ?_⟩) (by assumption) ?_
                      rotate_left
                      · intro w hSw
                        try dsimp only at hSw
                        go_simp
                        try with_reducible rfl
                      try simp only [Act.put, List.setIfInBounds_toArray, List.set_cons_zero, List.set_cons_succ]
                      refine take1 (i := 10) (d := 58) (v := ?_) rfl rfl (by kernel_rfl) (by kernel_rfl) (by kernel_rfl) (fun _ _ _ h => h) (Or.inl ⟨by rfl, ?_⟩) (by assumption) ?_
                      rotate_left
                      · intro w hSw
                        try dsimp only at hSw
                        go_simp
                        try with_reducible rfl
                      try simp only [Act.put, List.setIfInBounds_toArray, List.set_cons_zero, List.set_cons_succ]
                      refine take1 (i := 11) (d := 59) (v := ?_) rfl rfl (by kernel_rfl) (by kernel_rfl) (by kernel_rfl) (fun _ _ _ h => h) (Or.inl ⟨by rfl, ?_⟩) (by assumption) ?_
                      rotate_left
                      · intro w hSw
                        try dsimp only at hSw
                        go_simp
                        try with_reducible rfl
                      try simp only [Act.put, List.setIfInBounds_toArray, List.set_cons_zero, List.set_cons_succ]
                      refine take1 (i := 12) (d := 60) (v := ?_) rfl rfl (by kernel_rfl) (by kernel_rfl) (by kernel_rfl) (fun _ _ _ h => h) (Or.inl ⟨by rfl, ?_⟩) (by assumption) ?_
                      rotate_left
                      · intro w hSw
                        try dsimp only at hSw
                        go_simp
                        try with_reducible rfl
                      try simp only [Act.put, List.setIfInBounds_toArray, List.set_cons_zero, List.set_cons_succ]
                      refine wpAnyH_ready (rs := [13]) (by kernel_rfl) (by simp) ?_
                      refine AllReadyH.cons rfl (fun K hK => ?_) AllReadyH.nil
                      go_simp
                      refine (HLn.out _ hOR.drew).mono ?_
                      rintro e w5 ⟨ho5, rfl⟩
                      go_wp2_with fail
                      have hO5 := hOR.drew.trans ho5
                      refine hK.out _ _ ⟨hO5, HCh.out _ hO5⟩ (fun hHeld2 => ?_)
                      clear hK K hHeld
                      try simp only [Act.put, List.setIfInBounds_toArray, List.set_cons_zero, List.set_cons_succ]
                      refine take1 (i := 14) (d := 62) (v := ?_) rfl rfl (by kernel_rfl) (by kernel_rfl) (by kernel_rfl) (fun _ _ _ h => h) (Or.inl ⟨by rfl, ?_⟩) (by assumption) ?_
                      rotate_left
                      · intro w hSw
                        try dsimp only at hSw
                        go_simp
                        try with_reducible rfl
                      try simp only [Act.put, List.setIfInBounds_toArray, List.set_cons_zero, List.set_cons_succ]
                      refine take1 (i := 15) (d := 63) (v := ?_) rfl rfl (by kernel_rfl) (by kernel_rfl) (by kernel_rfl) (fun _ _ _ h => h) (Or.inl ⟨by rfl, ?_⟩) (by assumption) ?_
                      rotate_left
                      · intro w hSw
                        try dsimp only at hSw
                        go_simp
                        try with_reducible rfl
                      try simp only [Act.put, List.setIfInBounds_toArray, List.set_cons_zero, List.set_cons_succ]
                      refine take1 (i := 16) (d := 64) (v := ?_) rfl rfl (by kernel_rfl) (by kernel_rfl) (by kernel_rfl) (fun _ _ _ h => h) (Or.inl ⟨by rfl, ?_⟩) (by assumption) ?_
                      rotate_left
                      · intro w hSw
                        try dsimp only at hSw
                        go_simp
                        try with_reducible rfl
                      try simp only [Act.put, List.setIfInBounds_toArray, List.set_cons_zero, List.set_cons_succ]
                      refine take1 (i := 17) (d := 65) (v := ?_) rfl rfl (by kernel_rfl) (by kernel_rfl) (by kernel_rfl) (fun _ _ _ h => h) (Or.inl ⟨by rfl, ?_⟩) (by assumption) ?_
                      rotate_left
                      · intro w hSw
                        try dsimp only at hSw
                        go_simp
                        try with_reducible rfl
                      try simp only [Act.put, List.setIfInBounds_toArray, List.set_cons_zero, List.set_cons_succ]
                      refine take1 (i := 18) (d := 66) (v := ?_) rfl rfl (by kernel_rfl) (by kernel_rfl) (by kernel_rfl) (fun _ _ _ h => h) (Or.inl ⟨by rfl, ?_⟩) (by assumption) ?_
                      rotate_left
                      · intro w hSw
                        try dsimp only at hSw
                        go_simp
                        try with_reducible rfl
                      try simp only [Act.put, List.setIfInBounds_toArray, List.set_cons_zero, List.set_cons_succ]
                      refine take1 (i := 19) (d := 67) (v := ?_) rfl rfl (by kernel_rfl) (by kernel_rfl) (by kernel_rfl) (fun _ _ _ h => h) (Or.inl ⟨by rfl, ?_⟩) (by assumption) ?_
                      rotate_left
                      · intro w hSw
                        try dsimp only at hSw
                        go_simp
                        try with_reducible rfl
                      try simp only [Act.put, List.setIfInBounds_toArray, List.set_cons_zero, List.set_cons_succ]
                      refine take1 (i := 20) (d := 68) (v := ?_) rfl rfl (by kernel_rfl) (by kernel_rfl) (by kernel_rfl) (fun _ _ _ h => h) (Or.inl ⟨by rfl, ?_⟩) (by assumption) ?_
                      rotate_left
                      · intro w hSw
                        try dsimp only at hSw
                        go_simp
                        try with_reducible rfl
                      try simp only [Act.put, List.setIfInBounds_toArray, List.set_cons_zero, List.set_cons_succ]
                      refine take1 (i := 21) (d := 69) (v := ?_) rfl rfl (by kernel_rfl) (by kernel_rfl) (by kernel_rfl) (fun _ _ _ h => h) (Or.inl ⟨by rfl, ?_⟩) (by assumption) ?_
                      rotate_left
                      · intro w hSw
                        try dsimp only at hSw
                        go_simp
                        try with_reducible rfl
                      try simp only [Act.put, List.setIfInBounds_toArray, List.set_cons_zero, List.set_cons_succ]
                      refine take1 (i := 22) (d := 70) (v := ?_) rfl rfl (by kernel_rfl) (by kernel_rfl) (by kernel_rfl) (fun _ _ _ h => h) (Or.inl ⟨by rfl, ?_⟩) (by assumption) ?_
                      rotate_left
                      · intro w hSw
                        try dsimp only at hSw
                        go_simp
                        try with_reducible rfl
                      try simp only [Act.put, List.setIfInBounds_toArray, List.set_cons_zero, List.set_cons_succ]
                      refine take1 (i := 23) (d := 71) (v := ?_) rfl rfl (by kernel_rfl) (by kernel_rfl) (by kernel_rfl) (fun _ _ _ h => h) (Or.inl ⟨by rfl, ?_⟩) (by assumption) ?_
                      rotate_left
                      · intro w hSw
                        try dsimp only at hSw
                        go_simp
                        try with_reducible rfl
                      try simp only [Act.put, List.setIfInBounds_toArray, List.set_cons_zero, List.set_cons_succ]
                      refine take1 (i := 24) (d := 72) (v := ?_) rfl rfl (by kernel_rfl) (by kernel_rfl) (by kernel_rfl) (fun _ _ _ h => h) (Or.inl ⟨by rfl, ?_⟩) (by assumption) ?_
                      rotate_left
                      · intro w hSw
                        try dsimp only at hSw
                        go_simp
                        try with_reducible rfl
                      try simp only [Act.put, List.setIfInBounds_toArray, List.set_cons_zero, List.set_cons_succ]
                      refine take1 (i := 25) (d := 73) (v := ?_) rfl rfl (by kernel_rfl) (by kernel_rfl) (by kernel_rfl) (fun _ _ _ h => h) (Or.inl ⟨by rfl, ?_⟩) (by assumption) ?_
                      rotate_left
                      · intro w hSw
                        try dsimp only at hSw
                        go_simp
                        try with_reducible rfl
                      try simp only [Act.put, List.setIfInBounds_toArray, List.set_cons_zero, List.set_cons_succ]
                      refine take1 (i := 26) (d := 74) (v := ?_) rfl rfl (by kernel_rfl) (by kernel_rfl) (by kernel_rfl) (fun _ _ _ h => h) (Or.inl ⟨by rfl, ?_⟩) (by assumption) ?_
                      rotate_left
                      · intro w hSw
                        try dsimp only at hSw
                        go_simp
                        try with_reducible rfl
                      try simp only [Act.put, List.setIfInBounds_toArray, List.set_cons_zero, List.set_cons_succ]
                      refine take1 (i := 27) (d := 75) (v := ?_) rfl rfl (by kernel_rfl) (by kernel_rfl) (by kernel_rfl) (fun _ _ _ h => h) (Or.inl ⟨by rfl, ?_⟩) (by assumption) ?_
                      rotate_left
                      · intro w hSw
                        try dsimp only at hSw
                        go_simp
                        try with_reducible rfl
                      try simp only [Act.put, List.setIfInBounds_toArray, List.set_cons_zero, List.set_cons_succ]
                      refine take1 (i := 28) (d := 76) (v := ?_) rfl rfl (by kernel_rfl) (by kernel_rfl) (by kernel_rfl) (fun _ _ _ h => h) (Or.inl ⟨by rfl, ?_⟩) (by assumption) ?_
                      rotate_left
                      · intro w hSw
                        try dsimp only at hSw
                        go_simp
                        try with_reducible rfl
                      try simp only [Act.put, List.setIfInBounds_toArray, List.set_cons_zero, List.set_cons_succ]
                      refine take1 (i := 29) (d := 77) (v := ?_) rfl rfl (by kernel_rfl) (by kernel_rfl) (by kernel_rfl) (fun _ _ _ h => h) (Or.inl ⟨by rfl, ?_⟩) (by assumption) ?_
                      rotate_left
                      · intro w hSw
                        try dsimp only at hSw
                        go_simp
                        try with_reducible rfl
                      try simp only [Act.put, List.setIfInBounds_toArray, List.set_cons_zero, List.set_cons_succ]
                      refine take1 (i := 30) (d := 78) (v := ?_) rfl rfl (by kernel_rfl) (by kernel_rfl) (by kernel_rfl) (fun _ _ _ h => h) (Or.inl ⟨by rfl, ?_⟩) (by assumption) ?_
                      rotate_left
                      · intro w hSw
                        try dsimp only at hSw
                        go_simp
                        try with_reducible rfl
                      try simp only [Act.put, List.setIfInBounds_toArray, List.set_cons_zero, List.set_cons_succ]
                      refine take1 (i := 31) (d := 79) (v := ?_) rfl rfl (by kernel_rfl) (by kernel_rfl) (by kernel_rfl) (fun _ _ _ h => h) (Or.inl ⟨by rfl, ?_⟩) (by assumption) ?_
                      rotate_left
                      · intro w hSw
                        try dsimp only at hSw
                        go_simp
                        try with_reducible rfl
                      try simp only [Act.put, List.setIfInBounds_toArray, List.set_cons_zero, List.set_cons_succ]
                      refine take1 (i := 32) (d := 80) (v := ?_) rfl rfl (by kernel_rfl) (by kernel_rfl) (by kernel_rfl) (fun _ _ _ h => h) (Or.inl ⟨by rfl, ?_⟩) (by assumption) ?_
                      rotate_left
                      · intro w hSw
                        try dsimp only at hSw
                        go_simp
                        try with_reducible rfl
                      try simp only [Act.put, List.setIfInBounds_toArray, List.set_cons_zero, List.set_cons_succ]
                      refine take1 (i := 33) (d := 10) (v := ?_) rfl rfl (by kernel_rfl) (by kernel_rfl) (by kernel_rfl) (fun _ _ _ h => h) (Or.inl ⟨by rfl, ?_⟩) (by assumption) ?_
                      rotate_left
                      · intro w hSw
                        try dsimp only at hSw
                        go_simp
                        try with_reducible rfl
                      try simp only [Act.put, List.setIfInBounds_toArray, List.set_cons_zero, List.set_cons_succ]
                      refine wpAnyH_done (by kernel_rfl) ?_ _
                      refine NoPanic.normal ?_
                      go_wp2_with fail
                      go_meet
                      exact ⟨by simp [H3.out], hO5⟩
                  case rest =>
                    obtain ⟨rfl, hoc⟩ := hcut
                    have ho2 := ho.trans hoc
                    have HRow2 := Lib.hid (HRow.out.only hoc (by simp))
                    have hlen := HRl.out.len
                    have cq1 := HRow2.out.cell (its_at (o_get (out := out') (i := q) (by omega)))
                    have cm1 := HRow2.out.cell (its_at (o_get (out := out') (i := m) (by omega)))
                    have fq := HRow2.out.frozen q
                    have hvq := HRl.out.low hlq
                    have hvm := HRl.out.low hlm
                    obtain ⟨vq, hvqe⟩ : ∃ vq, o out' q = vq := ⟨_, rfl⟩
                    obtain ⟨vm, hvme⟩ : ∃ vm, o out' m = vm := ⟨_, rfl⟩
                    rw [hvqe] at cq1 hvq
                    rw [hvme] at cm1 hvm
                    have HVe := Lib.hid (And.intro hvqe hvme)
                    have hGw := HG.out
                    clear y0 y1 y2 y3 y4 y5 y6 dq dm dt HRow hvqe hvme ho HLn hlen
                    have hww : wrap64 (vm + 1) = vm + 1 := IntWalk.wrap64_in _ (by omega)
                    have hwi : IntKind.i64.wrap (vm + 1) = vm + 1 := IntWalk.i64_in _ (by omega)
                    have HRow4 : Hid (Row wc.drew G 3 k (its out')) := HRow2
                    have ho4 := ho2.drew
                    by_cases hb : nb = true ∧ vm + 1 < vq
                    · obtain ⟨rfl, hlt2⟩ := hb
                      have hN2 := HNear.out.2.2.1 rfl
                      have hadj := HNear.out.1.1 hN2.1
                      have hps := HNear.out.2.1.2 hN2.2
                      have HRl2 := Lib.hid (HRl.out.step HD'.out hlq hlm hps hadj (by rw [HVe.out.1, HVe.out.2]; exact hlt2))
                      have HPs2 := Lib.hid (HPs.out.low (j := q) (v := vm + 1) (by have := HRl.out.len; omega) (by omega) (by rw [HVe.out.1]; exact hlt2))
                      rw [HVe.out.2] at HRl2
                      clear hadj hps hN2 HNear
                      go_wp2_with fail
                      go_still_tail 12, (by kernel_rfl)
                      change wpList _ _ _ _ _ wc.drew
                      clear cq1 cm1 fq HRow2 ho2 hoc
                      generalize wc.drew = w8 at *
                      have hlen := HRl.out.len
                      have cq1 := HRow4.out.cell (its_at (o_get (out := out') (i := q) (by omega)))
                      have cm1 := HRow4.out.cell (its_at (o_get (out := out') (i := m) (by omega)))
                      have fq := HRow4.out.frozen q
                      have hGl := HRow4.out.lt
                      rw [HVe.out.1] at cq1
                      rw [HVe.out.2] at cm1
                      have HRow3 := Lib.hid (HRow4.out.set q (.int .i64 (vm + 1)))
                      rw [its_set] at HRow3
                      have ho3 := ho4.setCell (p := ⟨G, q, none⟩) (.int .i64 (vm + 1)) (fun h => by simp only at h; omega)
                      clear hlen hGw
                      go_wp2_with fail
                      go_roundg (k - (m + 1))
                      case measure => omega
                      case rel => exact ⟨true, out'.set q (vm + 1), m + 1, rfl, by go_num, by omega, Nat.le_refl _, ho3, HRow3, HRl2, HPs2⟩
                    · have HPs2 := Lib.hid (HPs.out.skip (k := m) (i := q) (fun hp ha => by
                        rw [HVe.out.1, HVe.out.2]
                        have h1 := HNear.out.2.2.2 ⟨HNear.out.1.2 ha, HNear.out.2.1.1 hp⟩
                        have : ¬ vm + 1 < vq := fun h => hb ⟨h1, h⟩
                        omega))
                      have hb' : nb = false ∨ (nb = true ∧ ¬ vm + 1 < vq) := by
                        cases hnb : nb
                        · exact Or.inl rfl
                        · exact Or.inr ⟨rfl, fun h => hb ⟨hnb, h⟩⟩
                      clear HNear hb
                      rcases hb' with rfl | ⟨rfl, hn3⟩
                      all_goals
                        go_wp2_with fail
                        refine wp_region_still_tail 12 (by kernel_rfl) (by kernel_rfl) ?_
                        simp only [List.take_succ_cons, List.take_zero, List.drop_succ_cons, List.drop_zero]
                        repeat (first
                          | (with_reducible refine still_skip ?_ ?_
                             · rfl
                             simp only [Act.put, List.setIfInBounds_toArray, List.set_cons_zero, List.set_cons_succ])
                          | (with_reducible refine still_do ?_ (fun K hK => ?_)
                             · rfl
                             go_simp
                             with_reducible refine hK _ ?_
                             clear hK K))
                        with_reducible refine wpStill_nil ?_
                        change wpList _ _ _ _ _ wc.drew
                        clear cq1 cm1 fq HRow2 ho2 hoc
                        generalize wc.drew = w8 at *
                        go_wp2_with fail
                        go_roundg (k - (m + 1))
                        case measure => omega
                        case rel => exact ⟨cb, out', m + 1, rfl, by go_num, by omega, Nat.le_refl _, ho4, HRow4, HRl, HPs2⟩
                · have hmk' : m = k := by omega
                  subst hmk'
                  have HPn := Lib.hid HPs.out.next
                  go_wp2_with fail
                  go_roundg (m - (q + 1))
                  case measure => omega
                  case rel => exact ⟨cb, out', q + 1, rfl, by go_num, by omega, Nat.le_refl _, ho, HRow, HRl, HPn⟩
            · have hqk : q = k := by omega
              subst hqk
              go_wp2_with fail
              go_roundg (2 * tot out' + (if cb then 1 else 0))
              case measure =>
                have h1 := HFu.out
                simp only [if_true] at h1
                rcases HPs.out with ⟨rfl, rfl, _⟩ | ⟨rfl, h2⟩
                · simp only [Bool.false_eq_true, if_false]; omega
                · simp only [if_true]; omega
              case rel =>
                refine ⟨cb, out', rfl, Nat.le_refl _, ho, HRow, HRl, Lib.hid (fun hc => ?_)⟩
                rcases HPs.out with ⟨_, _, h3⟩ | ⟨h2, _⟩
                · exact h3
                · rw [hc] at h2; cases h2

end Go.Proofs.Ytpfcoeenblmifaa
