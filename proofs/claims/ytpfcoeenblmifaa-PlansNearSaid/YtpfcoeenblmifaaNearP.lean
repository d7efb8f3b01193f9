/-
  Plans: links between equal places; the numbers of links and of neighbors.
-/
import Derived.Test.YtpfcoeenblmifaaQC
import Derived.Test.YtpfcoeenblmifaaQG
import Derived.Test.YtpfcoeenblmifaaMk
namespace Go.Proofs.Ytpfcoeenblmifaa
open Go.RowKit Go.PC

set_option maxHeartbeats 4000000 in
set_option maxRecDepth 100000 in
theorem Links_eq (pa la : Option Addr) (pc lc : Nat) (P : Pn) (x : Int) (w : World) (h : Small pa la P w) (hx : hasCode P.ps x = true) :
    Calls Try.prog 21 #[planV pa la pc lc P, .int .u16 x, .int .u16 x] w fun e w' =>
      Only (fun _ => False) w w' ∧ e = .returned (.tuple #[.slice none 0 0, .int .i64 1]) := by
  have HK := Lib.hid (fun wx ho b hb hb1 => known2 pa la pc lc P w wx h ho x x hx hx b hb hb1)
  have hO0 := (Only.refl (fun _ => False) w).alloc (planB pa la pc lc P)
  have Hbox := Lib.hid (World.cell?_alloc_new w #[.slice pa P.ps.length pc, .slice la P.ls.length lc, .int .i64 P.rate, .int .i64 P.room, .int .i64 P.m0, .int .i64 P.m1, .int .i64 P.m2] 31)
  clear h hx
  obtain ⟨ps, ls, rate, room, m0, m1, m2⟩ := P
  unfold planV at HK ⊢
  unfold planB at hO0
  simp only at HK hO0 Hbox ⊢
  go_enter Try.func21, Try.ntmps21
  go_upto_region 1 with fail
  generalize hW : w.alloc (.cells #[.slice pa ps.length pc, .slice la ls.length lc, .int .i64 rate, .int .i64 room, .int .i64 m0, .int .i64 m1, .int .i64 m2] 31) = w0 at hO0 Hbox ⊢
  clear hW
  obtain ⟨B, hB⟩ : ∃ B, w.heap.size = B := ⟨_, rfl⟩
  rw [hB] at Hbox
  simp only [hB]
  have HB := Lib.hid hB
  clear hB
  obtain ⟨y0, y1, y2, y3, y4, y5, y6⟩ := relay Hbox (Only.refl _ w0)
  have hO1 := hO0.alloc (.cells #[.int .u16 x, .int .u16 x] 34)
  have HK1 := Lib.hid (HK.out _ hO1 w0.heap.size (World.cell?_alloc_new w0 #[.int .u16 x, .int .u16 x] 34 0) (World.cell?_alloc_new w0 #[.int .u16 x, .int .u16 x] 34 1))
  go_wp2_with fail
  refine HK1.out.mono ?_
  rintro e w1 ⟨rfl, ho1⟩
  have hO2 := hO1.trans ho1
  clear y0 y1 y2 y3 y4 y5 y6 HK1 HK hO1 ho1
  go_wp2_with fail
  go_ret2
  exact ⟨hO2, rfl⟩

theorem linksOf_cnt (ls : List Ln) (lo hi : Int) : (linksOf ls lo hi).length = ls.countP (eqAB lo hi) := (List.countP_eq_length_filter (p := eqAB lo hi) (l := ls)).symm

theorem betw_cnt {ls : List Ln} (hl : ∀ l ∈ ls, l.a < l.b) {x y : Int} : ls.countP (betw x y) = ls.countP (eqAB (if x < y then x else y) (if x < y then y else x)) := by
  apply List.countP_congr
  intro l hm
  have := hl l hm
  rw [betw_iff, eqAB_iff]
  split <;> omega

theorem linksOf_at {ls : List Ln} (hg : Good ls) {lo hi : Int} {m : Nat} {l : Ln} (h : (linksOf ls lo hi)[m]? = some l) : l.a = lo ∧ l.b = hi ∧ l.c = (m : Int) := by
  have key : ∀ k, ∀ (m : Nat) (l : Ln), (linksOf (ls.take k) lo hi)[m]? = some l → l.a = lo ∧ l.b = hi ∧ l.c = (m : Int) := by
    intro k
    induction k with
    | zero => intro m l h; simp [linksOf] at h
    | succ k ih =>
      intro m l h
      cases hk : ls[k]? with
      | none =>
        have : ls.take (k + 1) = ls.take k := by rw [List.take_add_one, hk]; simp
        rw [this] at h
        exact ih m l h
      | some l' =>
        rw [linksOf_step hk] at h
        by_cases hc : l'.a = lo ∧ l'.b = hi
        · rw [if_pos hc] at h
          rcases Nat.lt_or_ge m (linksOf (ls.take k) lo hi).length with hm | hm
          · rw [List.getElem?_append_left hm] at h
            exact ih m l h
          · rw [List.getElem?_append_right hm] at h
            have hm' : m - (linksOf (ls.take k) lo hi).length = 0 := by
              have := (List.getElem?_eq_some_iff.1 h).1
              simp only [List.length_singleton] at this
              omega
            rw [hm'] at h
            simp only [List.getElem?_cons_zero, Option.some.injEq] at h
            subst h
            have hcd := hg.codes k l' hk
            rw [hc.1, hc.2, ← linksOf_cnt] at hcd
            exact ⟨hc.1, hc.2, by rw [hcd]; congr 1; omega⟩
        · rw [if_neg hc, List.append_nil] at h
          exact ih m l h
  have := key ls.length m l
  rw [List.take_length] at this
  exact this h

theorem nth_asc {x : Int} : ∀ {l : List Int}, l.Pairwise (fun a b => a < b) → x ∈ l → l[l.countP fun z => decide (z < x)]? = some x := by
  intro l
  induction l with
  | nil => intro _ h; cases h
  | cons y ys ih =>
    intro hp hm
    obtain ⟨h1, h2⟩ := List.pairwise_cons.1 hp
    rcases List.mem_cons.1 hm with rfl | hm
    · have h0 : (x :: ys).countP (fun z => decide (z < x)) = 0 := by
        rw [List.countP_eq_zero]
        intro z hz
        rcases List.mem_cons.1 hz with rfl | hz
        · simp
        · have := h1 z hz; simp; omega
      rw [h0]
      rfl
    · have hy := h1 x hm
      rw [List.countP_cons_of_pos (by simpa using hy), List.getElem?_cons_succ]
      exact ih h2 hm

theorem cnt_step {x : Int} : ∀ {l : List Int}, l.Pairwise (fun a b => a < b) → l.countP (fun z => decide (z ≤ x)) = l.countP (fun z => decide (z < x)) + (if x ∈ l then 1 else 0) := by
  intro l
  induction l with
  | nil => intro _; simp
  | cons y ys ih =>
    intro hp
    obtain ⟨h1, h2⟩ := List.pairwise_cons.1 hp
    have := ih h2
    rw [List.countP_cons, List.countP_cons, this]
    by_cases e : y = x
    · subst e
      have hn : y ∉ ys := fun hm => by have := h1 y hm; omega
      simp [hn]
    · have he : (x ∈ y :: ys) ↔ x ∈ ys := by
        rw [List.mem_cons]
        exact ⟨fun h => h.resolve_left (fun h' => e h'.symm), Or.inr⟩
      have hd : decide (y ≤ x) = decide (y < x) := by
        by_cases h : y < x
        · simp [h]; omega
        · simp [h]; omega
      rw [hd]
      simp only [he]
      omega

end Go.Proofs.Ytpfcoeenblmifaa
