/-
  Plans: Links.
-/
import Derived.Test.YtpfcoeenblmifaaQB
namespace Go.Proofs.Ytpfcoeenblmifaa
open Go.RowKit Go.PC

/-- Links as cells. -/
abbrev lks (ls : List Ln) : List Value := ls.flatMap fun l => [.int .u16 l.a, .int .u16 l.b, .int .u8 l.c]
theorem lks_len (ls : List Ln) : (lks ls).length = ls.length * 3 := by
  induction ls with
  | nil => rfl
  | cons x xs ih => simp only [lks, List.flatMap_cons, List.length_append, List.length_cons, List.length_nil] at ih ⊢; omega
theorem lks_append (xs ys : List Ln) : lks (xs ++ ys) = lks xs ++ lks ys := by simp [lks]
theorem lks_at {xs : List Ln} : ∀ {i : Nat} {l : Ln}, xs[i]? = some l → (lks xs)[i * 3]? = some (.int .u16 l.a) ∧ (lks xs)[i * 3 + 1]? = some (.int .u16 l.b) ∧ (lks xs)[i * 3 + 2]? = some (.int .u8 l.c) := by
  induction xs with
  | nil => intro i p h; simp at h
  | cons x xs ih =>
    intro i p h
    cases i with
    | zero => simp at h; subst h; exact ⟨rfl, rfl, rfl⟩
    | succ i =>
      have h' : xs[i]? = some p := by simpa using h
      obtain ⟨h1, h2, h3⟩ := ih h'
      have e1 : (i + 1) * 3 = i * 3 + 1 + 1 + 1 := by omega
      rw [e1]
      exact ⟨h1, h2, h3⟩

/-- The lines between lo and hi. -/
def linksOf (ls : List Ln) (lo hi : Int) : List Ln := ls.filter fun l => decide (l.a = lo) && decide (l.b = hi)

theorem linksOf_step {ls : List Ln} {lo hi : Int} {k : Nat} {l : Ln} (h : ls[k]? = some l) : linksOf (ls.take (k + 1)) lo hi = linksOf (ls.take k) lo hi ++ (if l.a = lo ∧ l.b = hi then [l] else []) := by
  unfold linksOf
  rw [List.take_add_one, h, Option.toList_some, List.filter_append]
  congr 1
  by_cases h1 : l.a = lo <;> by_cases h2 : l.b = hi <;> simp [h1, h2]

theorem linksOf_length (ls : List Ln) (lo hi : Int) : (linksOf ls lo hi).length ≤ ls.length := List.length_filter_le _ _

theorem infoLink : (Try.prog.info? 55).map (fun i => (i.zero, i.size, i.bytes)) = some (some (.agg #[.int .u16 0, .int .u16 0, .int .u8 0]), 3, 6) := by kernel_rfl

theorem clip_links (base n : Nat) (v : Value) (xs : List Value) (w : World) (hr : w.ownsRow base 55 3 v n xs) :
    Calls Try.prog 35 #[v] w fun e w' => ∃ a, e = .returned (.slice a n n) ∧ w' = w ∧ ((a = none ∧ xs = []) ∨ ∃ g, a = some ⟨g, 0, none⟩ ∧ base ≤ g ∧ ∃ cap, Row w g 55 cap xs) := by
  rcases hr.2 with ⟨rfl, rfl⟩ | ⟨g, cap, cur, rfl, hb, hg, hnc, hm, hs, ht⟩
  · have hx : xs = [] := List.eq_nil_of_length_eq_zero (by simpa using hr.1)
    clear hr
    go_enter Try.func35, Try.ntmps35
    go_wp2_with fail
    go_ret
    exact ⟨none, rfl, rfl, Or.inl ⟨rfl, hx⟩⟩
  · have HR := Lib.hid (p := Row w g 55 (cap * 3) xs) ⟨cur, hg, hs, by have := hr.1; rw [this]; exact ht⟩
    have h63 : n ≤ 9223372036854775807 := by unfold maxLen at hm; omega
    have hnn : (n : Int) ≤ cap := by omega
    have HB := Lib.hid (And.intro hb hm)
    clear hr hg hs ht hb hm
    go_enter Try.func35, Try.ntmps35
    go_wp2_with fail
    go_ret
    exact ⟨_, rfl, rfl, Or.inr ⟨g, rfl, HB.out.1, _, HR.out⟩⟩

theorem cells_new3 (w : World) (xs : List Value) (t : TypeId) (s : Nat) (hs : w.heap.size = s) : ∀ j u, xs[j]? = some u → (w.alloc (.cells xs.toArray t)).cell? ((⟨s, 0, none⟩ : Addr).add j) = some u := by
  intro j u hj
  subst hs
  rw [Addr.add_lit, Nat.zero_add, World.cell?_alloc_new]
  simpa using hj

/-- A row of links that a call has made. -/
def LkR (base : Nat) (w : World) (v : Value) (xs : List Ln) : Prop := ∃ a, v = .slice a xs.length xs.length ∧ ((a = none ∧ xs = []) ∨ ∃ g cap, a = some ⟨g, 0, none⟩ ∧ base ≤ g ∧ Row w g 55 cap (lks xs))

set_option maxHeartbeats 4000000 in
set_option maxRecDepth 100000 in
theorem Links_ok (pa la : Option Addr) (pc lc : Nat) (P : Pn) (x y : Int) (w : World) (h : Small pa la P w) (hx : hasCode P.ps x = true) (hy : hasCode P.ps y = true) (hne : x ≠ y) :
    Calls Try.prog 21 #[planV pa la pc lc P, .int .u16 x, .int .u16 y] w fun e w' =>
      Only (fun _ => False) w w' ∧ ∃ v, e = .returned (.tuple #[v, .int .i64 0]) ∧ LkR w.heap.size w' v (linksOf P.ls (if x < y then x else y) (if x < y then y else x)) := by
  have HK := Lib.hid (fun wx ho b hb hb1 => known2 pa la pc lc P w wx h ho x y hx hy b hb hb1)
  have HL := Lib.hid h.rl
  have hnl := h.m
  have hO0 := (Only.refl (fun _ => False) w).alloc (planB pa la pc lc P)
  have Hbox := Lib.hid (World.cell?_alloc_new w #[.slice pa P.ps.length pc, .slice la P.ls.length lc, .int .i64 P.rate, .int .i64 P.room, .int .i64 P.m0, .int .i64 P.m1, .int .i64 P.m2] 31)
  clear h hx hy
  obtain ⟨ps, ls, rate, room, m0, m1, m2⟩ := P
  obtain ⟨i0, hi, hz0i, hz1i, hz2i⟩ := info_parts infoLink
  unfold planV at HK ⊢
  unfold planB at hO0
  simp only at HL HK hnl hO0 Hbox ⊢
  obtain ⟨lo, hlo⟩ : ∃ lo, lo = (if x < y then x else y) := ⟨_, rfl⟩
  obtain ⟨hi', hhi⟩ : ∃ hi', hi' = (if x < y then y else x) := ⟨_, rfl⟩
  rw [← hlo, ← hhi]
  have HLo := Lib.hid (And.intro hlo hhi)
  clear hlo hhi
  go_enter Try.func21, Try.ntmps21
  go_upto_region 1 with fail
  generalize hW : w.alloc (.cells #[.slice pa ps.length pc, .slice la ls.length lc, .int .i64 rate, .int .i64 room, .int .i64 m0, .int .i64 m1, .int .i64 m2] 31) = w0 at hO0 Hbox ⊢
  clear hW
  obtain ⟨B, hB⟩ : ∃ B, w.heap.size = B := ⟨_, rfl⟩
  rw [hB] at Hbox
  simp only [hB]
  have HB := Lib.hid hB
  clear hB
  obtain ⟨y0, y1, y2, y3, y4, y5, y6⟩ := relay Hbox (Only.refl _ w0)
  have hO1 := hO0.alloc (.cells #[.int .u16 x, .int .u16 y] 34)
  have hN1 := (Only.refl (fun _ => False) w0).alloc (.cells #[.int .u16 x, .int .u16 y] 34)
  have HK1 := Lib.hid (HK.out _ hO1 w0.heap.size (World.cell?_alloc_new w0 #[.int .u16 x, .int .u16 y] 34 0) (World.cell?_alloc_new w0 #[.int .u16 x, .int .u16 y] 34 1))
  go_wp2_with fail
  refine HK1.out.mono ?_
  rintro e w1 ⟨rfl, ho1⟩
  have hO2 := hO1.trans ho1
  have hN2 := hN1.trans ho1
  clear y0 y1 y2 y3 y4 y5 y6
  obtain ⟨y0, y1, y2, y3, y4, y5, y6⟩ := relay Hbox hN2
  clear HK1 HK hO1 hN1 ho1
  go_wp2_with fail
  clear y0 y1 y2 y3 y4 y5 y6
  go_loopw [9, 26] (fun v i wr => ∃ k n : Nat, k ≤ ls.length ∧ i = .int .i64 k ∧ n ≤ k ∧ Hid (wr.ownsRow w1.heap.size 55 3 v n (lks (linksOf (ls.take k) lo hi'))) ∧ Only (fun _ => False) w1 wr)
    (fun _ i _ => ls.length - (intOf i).toNat)
  case atStart => exact ⟨0, 0, Nat.zero_le _, rfl, Nat.le_refl _, Lib.hid (World.ownsRow_nil _ _ _ _), Only.refl _ _⟩
  case round =>
    obtain ⟨k, n, hk, rfl, hnk, HOwn, ho⟩ := hrel
    have hOo := hO2.trans ho
    by_cases hlt : k < ls.length
    · have hlt' : (k : Int) < (ls.length : Int) := by omega
      obtain ⟨b, off, ha, hcell⟩ := HL.out.resolve_left (fun he => by rw [he] at hlt; cases hlt)
      subst ha
      obtain ⟨⟨xa, xb, xc, xd⟩, hq⟩ : ∃ l, ls[k]? = some l := ⟨_, List.getElem?_eq_getElem hlt⟩
      obtain ⟨c0, c1, c2, c3⟩ := hcell k _ hq
      have HS := Lib.hid (linksOf_step (lo := lo) (hi := hi') hq)
      have c0 := hOo.cell c0 (by simp)
      have c1 := hOo.cell c1 (by simp)
      have c2 := hOo.cell c2 (by simp)
      have c3 := hOo.cell c3 (by simp)
      simp only at c0 c1 c2 c3
      have hb : b < wr.heap.size := lt_of_cell c0
      clear hcell hq
      go_upto_region 10 with fail
      have hN := (Only.refl (fun _ => False) wr).alloc (.cells #[.int .u16 xa, .int .u16 xb, .int .u8 xc, .int .i64 xd] 57)
      have hcase : (x < y ∧ lo = x ∧ hi' = y) ∨ (y < x ∧ lo = y ∧ hi' = x) := by
        have h1 := HLo.out.1
        have h2 := HLo.out.2
        by_cases h : x < y
        · rw [if_pos h] at h1 h2; exact Or.inl ⟨h, h1, h2⟩
        · rw [if_neg h] at h1 h2; exact Or.inr ⟨by omega, h1, h2⟩
      by_cases hm : xa = lo ∧ xb = hi'
      · have HS' := Lib.hid (p := linksOf (ls.take (k + 1)) lo hi' = linksOf (ls.take k) lo hi' ++ [⟨xa, xb, xc, xd⟩]) (by rw [HS.out]; simp [hm])
        have hown := HOwn.out
        have hoN := ho.trans hN
        obtain ⟨h1, h2⟩ := hm
        have hsz := ho.size
        clear c0 c1 c2 c3 ho hOo HS HL Hbox HB hO0 hO2 hN2
        rcases hcase with ⟨hxy, e1, e2⟩ | ⟨hxy, e1, e2⟩
        all_goals have g1 := h1.trans e1
        all_goals have g2 := h2.trans e2
        all_goals have HE := Lib.hid (And.intro h1 h2)
        all_goals clear h1 h2 e1 e2
        all_goals subst g1 g2
        all_goals (go_wp2_with (first
          | (at_builtin; refine wpList_append_own _ rfl _ _ 64 rfl w1.heap.size 55 i0 (.agg #[.int .u16 0, .int .u16 0, .int .u8 0]) 3 6 Try.underlying64 hi hz0i hz1i hz2i rfl (by decide) _ _ _ rfl ((hown.alloc _).alloc _) ⟨wr.heap.size + 1, 0, none⟩ 1 1 [.int .u16 xa, .int .u16 xb, .int .u8 xc] rfl rfl (cells_new3 _ [.int .u16 xa, .int .u16 xb, .int .u8 xc] _ _ (by simp)) (by simp [Value.oneCell']) (by unfold maxLen; omega) (by omega) (by simp; omega) ?_; intro v' w3 hown' hgrow _)
          | fail))
        all_goals
          refine ⟨⟨_, _, _, ⟨k + 1, by omega, by go_num, n + 1, by omega, Lib.hid (by rw [HS'.out, lks_append]; exact hown'), (hoN.alloc _).andThen (Only.of_grownBy hgrow) ?_⟩, rfl, rfl, rfl⟩, ?_⟩
          · intro i hi h
            have := (hown.lt i h.symm).1
            omega
          · simp [intOf]; omega
      · have HS' := Lib.hid (p := linksOf (ls.take (k + 1)) lo hi' = linksOf (ls.take k) lo hi') (by rw [HS.out]; simp [hm])
        have hown := HOwn.out
        have hoN := ho.trans hN
        have hnm : xa ≠ lo ∨ (xa = lo ∧ xb ≠ hi') := by omega
        clear c0 c1 c2 c3 hOo HS HL Hbox HB hO0 hO2 hN2 hm
        rcases hcase with ⟨hxy, e1, e2⟩ | ⟨hxy, e1, e2⟩
        all_goals
          rw [e1, e2] at hnm
          clear e1 e2
        all_goals rcases hnm with hq | ⟨rfl, hq2⟩
        all_goals go_wp2_with fail
        all_goals
          refine ⟨?_, ?_⟩
          · have hR := And.intro (Lib.hid (p := (wr.alloc (.cells #[.int .u16 xa, .int .u16 xb, .int .u8 xc, .int .i64 xd] 57)).ownsRow w1.heap.size 55 3 u9 n (lks (linksOf (ls.take (k + 1)) lo hi'))) (by rw [HS'.out]; exact hown.alloc _)) hoN
            first
              | exact ⟨_, _, _, ⟨k + 1, by omega, by go_num, n, by omega, hR.1⟩, rfl, rfl, rfl⟩
              | exact ⟨_, _, _, ⟨k + 1, by omega, by go_num, n, by omega, hR.1, hR.2⟩, rfl, rfl, rfl⟩
              | exact ⟨_, _, _, ⟨k + 1, n, by omega, by go_num, by omega, hR.1, hR.2⟩, rfl, rfl, rfl⟩
              | exact ⟨k + 1, n, by omega, by go_num, by omega, hR.1, hR.2⟩
          · simp [intOf]; omega
    · have hk' : k = ls.length := by omega
      subst hk'
      rw [List.take_length] at HOwn
      have hOwn := HOwn.out
      have hno : n = (linksOf ls lo hi').length := by have := hOwn.1; rw [lks_len] at this; omega
      subst hno
      have HC := Lib.hid (clip_links w1.heap.size _ u9 _ wr hOwn)
      have hs := hO2.size
      have HB2 := Lib.hid (And.intro HB.out hs)
      have HON := Lib.hid hOo
      clear hOwn HOwn HL HLo Hbox HB hO0 hO2 hN2 hs hOo ho
      go_wp2_with fail
      refine HC.out.mono ?_
      rintro e w2 ⟨a, rfl, rfl, hA⟩
      have HA := Lib.hid hA
      clear hA HC
      go_wp2_with fail
      go_ret2
      have hb1 := HB2.out
      refine ⟨HON.out, _, rfl, a, rfl, ?_⟩
      rcases HA.out with ⟨h1, h2⟩ | ⟨g, h1, h2, cap, h3⟩
      · refine Or.inl ⟨h1, ?_⟩
        have := congrArg List.length h2
        rw [lks_len] at this
        exact List.eq_nil_of_length_eq_zero (by simp only [List.length_nil] at this; omega)
      · exact Or.inr ⟨g, cap, h1, by omega, h3⟩

end Go.Proofs.Ytpfcoeenblmifaa
