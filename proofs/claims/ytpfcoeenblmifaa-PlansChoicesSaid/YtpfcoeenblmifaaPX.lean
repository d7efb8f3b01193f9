/-
  Plans: the chapter's example.
-/
import Derived.Test.YtpfcoeenblmifaaPW
namespace Go.Proofs.Ytpfcoeenblmifaa
open Go.RowKit Go.PC

def lnOf (a b : Int) : Ln := ⟨a, b, 0, 1⟩
def ringP : Pn := ⟨[(1, false), (2, true), (3, true), (4, false)], [lnOf 1 2, lnOf 1 3, lnOf 2 3, lnOf 2 4, lnOf 3 4], 1, 4, 1, 2, 3⟩

abbrev lns (ls : List Ln) : List Value := ls.flatMap fun l => [.int .u16 l.a, .int .u16 l.b, .int .u8 l.c, .int .i64 l.d]

theorem lns_len (ls : List Ln) : (lns ls).length = ls.length * 4 := by
  induction ls with
  | nil => rfl
  | cons x xs ih => simp only [lns, List.flatMap_cons, List.length_append, List.length_cons, List.length_nil] at ih ⊢; omega

theorem lns_at {xs : List Ln} : ∀ {i : Nat} {l : Ln}, xs[i]? = some l → (lns xs)[i * 4]? = some (.int .u16 l.a) ∧ (lns xs)[i * 4 + 1]? = some (.int .u16 l.b) ∧ (lns xs)[i * 4 + 2]? = some (.int .u8 l.c) ∧ (lns xs)[i * 4 + 3]? = some (.int .i64 l.d) := by
  induction xs with
  | nil => intro i p h; simp at h
  | cons x xs ih =>
    intro i p h
    cases i with
    | zero => simp at h; subst h; exact ⟨rfl, rfl, rfl, rfl⟩
    | succ i =>
      have h' : xs[i]? = some p := by simpa using h
      obtain ⟨h1, h2, h3, h4⟩ := ih h'
      have e1 : (i + 1) * 4 = i * 4 + 1 + 1 + 1 + 1 := by omega
      rw [e1]
      exact ⟨h1, h2, h3, h4⟩

theorem lns_append (xs ys : List Ln) : lns (xs ++ ys) = lns xs ++ lns ys := by simp [lns]

theorem RdL_of_own {base n : Nat} {v : Value} {ls : List Ln} {w : World} (h : w.ownsRow base 57 4 v n (lns ls)) : ∃ a c, v = .slice a ls.length c ∧ RdL w a ls := by
  have hn : n = ls.length := by have := h.1; rw [lns_len] at this; omega
  subst hn
  rcases h.2 with ⟨rfl, h0⟩ | ⟨g, cap, cur, rfl, hb, hg, hnc, hm, hs, ht⟩
  · have e : ls = [] := List.eq_nil_of_length_eq_zero h0
    subst e
    exact ⟨none, 0, rfl, Or.inl rfl⟩
  · have hrow : Row w g 57 (cap * 4) (lns ls) := ⟨cur, hg, hs, by rw [lns_len]; exact ht⟩
    refine ⟨some ⟨g, 0, none⟩, cap, rfl, Or.inr ⟨g, 0, rfl, fun i l hl => ?_⟩⟩
    obtain ⟨h1, h2, h3, h4⟩ := lns_at hl
    rw [Nat.zero_add]
    exact ⟨hrow.cell h1, hrow.cell h2, hrow.cell h3, hrow.cell h4⟩

theorem cells_new (w : World) (xs : List Value) (t : TypeId) (s : Nat) (hs : w.heap.size = s) : ∀ j u, xs[j]? = some u → (w.alloc (.cells xs.toArray t)).cell? ((⟨s, 0, none⟩ : Addr).add j) = some u := by
  intro j u hj
  subst hs
  rw [Addr.add_lit, Nat.zero_add, World.cell?_alloc_new]
  simpa using hj

theorem only_set7 {S : Nat → Prop} {a b : World} (h : Only S a b) (s : Nat) (hS : S s) (v0 v1 v2 v3 v4 v5 v6 : Value) :
    Only S a (((((((b.setCell ⟨s, 0, none⟩ v0).setCell ⟨s, 1, none⟩ v1).setCell ⟨s, 2, none⟩ v2).setCell ⟨s, 3, none⟩ v3).setCell ⟨s, 4, none⟩ v4).setCell ⟨s, 5, none⟩ v5).setCell ⟨s, 6, none⟩ v6) :=
  ((((((h.setCell (p := ⟨s, 0, none⟩) _ (fun _ => hS)).setCell (p := ⟨s, 1, none⟩) _ (fun _ => hS)).setCell (p := ⟨s, 2, none⟩) _ (fun _ => hS)).setCell (p := ⟨s, 3, none⟩) _ (fun _ => hS)).setCell (p := ⟨s, 4, none⟩) _ (fun _ => hS)).setCell (p := ⟨s, 5, none⟩) _ (fun _ => hS)).setCell (p := ⟨s, 6, none⟩) _ (fun _ => hS)

theorem own_shape {base n size : Nat} {e : TypeId} {v : Value} {xs : List Value} {w : World} (h : w.ownsRow base e size v n xs) : ∃ a c, v = .slice a n c := by
  rcases h.2 with ⟨rfl, h0⟩ | ⟨g, cap, cur, rfl, _⟩
  · exact ⟨none, 0, by rw [h0]⟩
  · exact ⟨_, cap, rfl⟩

theorem infoLine : (Try.prog.info? 57).map (fun i => (i.zero, i.size, i.bytes)) = some (some (.agg #[.int .u16 0, .int .u16 0, .int .u8 0, .int .i64 0]), 4, 16) := by kernel_rfl

set_option maxHeartbeats 4000000 in
set_option maxRecDepth 100000 in
theorem ring_ok (w : World) : Calls Try.prog 25 #[] w fun e w' => Only (fun _ => False) w w' ∧ ∃ pa la pc lc, e = .returned (planV pa la pc lc ringP) ∧ RdP w' pa ringP.ps ∧ RdL w' la ringP.ls := by
  obtain ⟨i0, hi, hz0i, hz1i, hz2i⟩ := info_parts infoLine
  go_enter Try.func25, Try.ntmps25
  go_wp2_with fail
  obtain ⟨s, hs⟩ : ∃ s, w.heap.size = s := ⟨_, rfl⟩
  simp only [hs]
  generalize hO0 : (Obj.cells #[Value.slice none 0 0, .slice none 0 0, .int .i64 0, .int .i64 0, .int .i64 0, .int .i64 0, .int .i64 0] 31) = o0
  generalize hO1 : (Obj.cells #[Value.int .u16 1, .bool false, .int .u16 2, .bool true, .int .u16 3, .bool true, .int .u16 4, .bool false] 36) = o1
  generalize hO2 : (Obj.cells #[Value.slice (some ⟨s + 1, 0, none⟩) 4 4, .slice none 0 0, .int .i64 1, .int .i64 4, .int .i64 1, .int .i64 2, .int .i64 3] 31) = o2
  generalize hO3 : (Obj.cells #[Value.int .u16 1, .int .u16 2, .int .u16 1, .int .u16 3, .int .u16 2, .int .u16 3, .int .u16 2, .int .u16 4, .int .u16 3, .int .u16 4] 83) = o3
  have hA : ∃ wA, wA = (((w.alloc o0).alloc o1).alloc o2).alloc o3 ∧ wA.heap.size = s + 4 ∧ Only (fun _ => False) w wA ∧ wA.heap[s]? = some o0 ∧ wA.heap[s + 1]? = some o1 ∧ wA.heap[s + 2]? = some o2 ∧ wA.heap[s + 3]? = some o3 := by
    refine ⟨_, rfl, by simp [hs], ((((Only.refl _ w).alloc _).alloc _).alloc _).alloc _, ?_, ?_, ?_, ?_⟩
    · rw [(MapKept.heap_alloc _ _).2 _ (by simp [hs]; omega), (MapKept.heap_alloc _ _).2 _ (by simp [hs]; omega), (MapKept.heap_alloc _ _).2 _ (by simp [hs]), ← hs]; exact (MapKept.heap_alloc _ _).1
    · rw [(MapKept.heap_alloc _ _).2 _ (by simp [hs]), (MapKept.heap_alloc _ _).2 _ (by simp [hs])]
      have := (MapKept.heap_alloc (w.alloc o0) o1).1
      rwa [World.size_alloc, hs] at this
    · rw [(MapKept.heap_alloc _ _).2 _ (by simp [hs])]
      have := (MapKept.heap_alloc ((w.alloc o0).alloc o1) o2).1
      rwa [World.size_alloc, World.size_alloc, hs] at this
    · have := (MapKept.heap_alloc (((w.alloc o0).alloc o1).alloc o2) o3).1
      rwa [World.size_alloc, World.size_alloc, World.size_alloc, hs] at this
  obtain ⟨wA, hwA, hsA, hOA, k0, k1, k2, k3⟩ := hA
  rw [← hwA]
  subst hO0 hO1 hO2 hO3
  have HK := Lib.hid (And.intro k0 (And.intro k1 k3))
  have HS := Lib.hid (And.intro hs hsA)
  have HB2 := Lib.hid k2
  have HP : Hid (∀ k l, ringP.ls[k]? = some l → l.c = 0 ∧ l.d = 1 ∧ wA.cell? ⟨s + 3, k * 2, none⟩ = some (.int .u16 l.a) ∧ wA.cell? ⟨s + 3, k * 2 + 1, none⟩ = some (.int .u16 l.b)) := Lib.hid (by
    intro k l hl
    have hc : ∀ j, wA.cell? ⟨s + 3, j, none⟩ = _ := fun j => cell_of_row wA (s + 3) j _ _ _ k3
    match k, hl with
    | 0, hl => cases hl; exact ⟨rfl, rfl, hc 0, hc 1⟩
    | 1, hl => cases hl; exact ⟨rfl, rfl, hc 2, hc 3⟩
    | 2, hl => cases hl; exact ⟨rfl, rfl, hc 4, hc 5⟩
    | 3, hl => cases hl; exact ⟨rfl, rfl, hc 6, hc 7⟩
    | 4, hl => cases hl; exact ⟨rfl, rfl, hc 8, hc 9⟩)
  have HOA := Lib.hid hOA
  clear hwA k0 k1 k2 k3 hs hsA hOA
  go_loopw [18] (fun i wr => ∃ (k : Nat) (v : Value), k ≤ 5 ∧ i = .int .i64 k ∧ Hid (wr.heap[s + 2]? = some (.cells #[.slice (some ⟨s + 1, 0, none⟩) 4 4, v, .int .i64 1, .int .i64 4, .int .i64 1, .int .i64 2, .int .i64 3] 31)) ∧
      Hid (wr.ownsRow (s + 4) 57 4 v k (lns (ringP.ls.take k))) ∧ Only (fun i => i = s + 2) wA wr) (fun i _ => 5 - (intOf i).toNat)
  case atStart => exact ⟨0, _, by omega, rfl, HB2, Lib.hid (World.ownsRow_nil _ _ _ _), Only.refl _ _⟩
  case round =>
    obtain ⟨k, v, hk, rfl, HBk, HOwn, ho⟩ := hrel
    obtain ⟨wo, hwo⟩ : ∃ wo : World, wo = wr := ⟨_, rfl⟩
    rw [← hwo] at ho HBk HOwn ⊢
    clear hwo wr
    have hsz := ho.size
    have hsS := HS.out.2
    by_cases hlt : k < 5
    · have hlt' : (k : Int) < 5 := by omega
      obtain ⟨⟨la, lb, lc, ld⟩, hl⟩ : ∃ l, ringP.ls[k]? = some l := ⟨_, List.getElem?_eq_getElem (by simpa [ringP] using hlt)⟩
      obtain ⟨hc0, hd1, c0, c1⟩ := HP.out k _ hl
      simp only at hc0 hd1 c0 c1
      subst hc0 hd1
      have c0 := ho.cell c0 (by simp)
      have c1 := ho.cell c1 (by simp)
      have p1 : wo.cell? ⟨s + 2, 1, none⟩ = some v := by rw [cell_of_row wo (s + 2) 1 _ _ _ HBk.out]; rfl
      have pf : wo.frozen? ⟨s + 2, 1, none⟩ = false := by simp [World.frozen?, HBk.out]
      have hT : ringP.ls.take (k + 1) = ringP.ls.take k ++ [⟨la, lb, 0, 1⟩] := by rw [List.take_add_one, hl]; rfl
      have HT := Lib.hid hT
      have hown := HOwn.out
      have hbs : s + 3 < wo.heap.size := by omega
      have hbs2 : s + 2 < wo.heap.size := by omega
      clear hT hl HOwn hsS hsz
      have hbk3 : ∀ w3 : World, ((wo.alloc (.cells #[.int .u16 la, .int .u16 lb] 83)).alloc (.cells #[.int .u16 la, .int .u16 lb, .int .u8 0, .int .i64 1] 57)).grownBy w3 v.ownBlock → w3.heap[s + 2]? = some (.cells #[.slice (some ⟨s + 1, 0, none⟩) 4 4, v, .int .i64 1, .int .i64 4, .int .i64 1, .int .i64 2, .int .i64 3] 31) := fun w3 hg => by
        rw [hg.block (s + 2) (by simp; omega) (fun h => by have := (hown.lt (s + 2) h.symm).1; omega), (MapKept.heap_alloc _ _).2 _ (by simp; omega), (MapKept.heap_alloc _ _).2 _ hbs2]
        exact HBk.out
      have HBk3 := Lib.hid hbk3
      have Hown := Lib.hid hown
      clear hbk3
      have hk5 : k < 5 := hlt
      go_wp2_with (first
        | (at_builtin; refine wpList_append_own _ rfl _ _ 28 rfl (s + 4) 57 i0 (.agg #[.int .u16 0, .int .u16 0, .int .u8 0, .int .i64 0]) 4 16 Try.underlying28 hi hz0i hz1i hz2i rfl (by decide) v k (lns (ringP.ls.take k)) rfl ((hown.alloc _).alloc _) ⟨wo.heap.size + 1, 0, none⟩ 1 1 [.int .u16 la, .int .u16 lb, .int .u8 0, .int .i64 1] rfl rfl (cells_new _ [.int .u16 la, .int .u16 lb, .int .u8 0, .int .i64 1] _ _ (by simp)) (by simp [Value.oneCell']) (by unfold maxLen; omega) (by omega) (by simp; omega) ?_; intro v' w3 hown' hgrow _; obtain ⟨a', c', rfl⟩ := own_shape hown'; have hb3 := HBk3.out w3 hgrow; have p3 : w3.cell? ⟨s + 2, 1, none⟩ = some v := (by rw [cell_of_row w3 (s + 2) 1 _ _ _ hb3]; rfl); have pf3 : w3.frozen? ⟨s + 2, 1, none⟩ = false := (by simp [World.frozen?, hb3]); have HB3 := Lib.hid hb3; have HG3 := Lib.hid hgrow; have HO3 := Lib.hid hown'; clear hb3 hgrow hown')
        | fail)
      have hOa := ((Only.refl (fun _ => False) wo).alloc (.cells #[.int .u16 la, .int .u16 lb] 83)).alloc (.cells #[.int .u16 la, .int .u16 lb, .int .u8 0, .int .i64 1] 57)
      have hsz := ho.size
      have hsS := HS.out.2
      have hO3 : Only (fun i => i = s + 2) wA w3 := (ho.andThen hOa (fun _ _ h => h.elim)).andThen (Only.of_grownBy HG3.out) (fun i hi h => by have := (Hown.out.lt i h.symm).1; omega)
      go_roundw
      case rel =>
        refine ⟨k + 1, .slice a' (k + 1) c', by omega, by go_num, Lib.hid ?_, Lib.hid ?_, hO3.setCell (p := ⟨s + 2, 1, none⟩) _ (fun _ => rfl)⟩
        · exact Go.heap_setCell_same w3 (s + 2) 1 _ _ _ HB3.out
        · rw [HT.out, lns_append]
          exact HO3.out.kept (row := some (s + 2)) ⟨rfl, rfl, rfl, by simp, fun i hi hne => RowKit.Below.heap_setCell w3 ⟨s + 2, 1, none⟩ _ i (fun h => hne (by simp at h; rw [h]))⟩ (by
            cases hv : (Value.slice a' (k + 1) c').ownBlock with
            | none => exact Or.inl rfl
            | some q => exact Or.inr (fun h => by have := (HO3.out.lt q hv).1; injection h with h; omega))
      case measure => simp [intOf]; omega
    · have hk5 : k = 5 := by omega
      subst hk5
      have hown := HOwn.out
      obtain ⟨a, c, hv, hrl⟩ := RdL_of_own (ls := ringP.ls.take 5) hown
      have hB := HBk.out
      subst hv
      have hB0 : wo.heap[s]? = _ := (ho.block s (by omega) (by omega)).trans HK.out.1
      have hcs : ∀ j, wo.cell? ⟨s + 2, j, none⟩ = _ := fun j => cell_of_row wo (s + 2) j _ _ _ hB
      have p0 : wo.cell? ⟨s + 2, 0, none⟩ = some (.slice (some ⟨s + 1, 0, none⟩) 4 4) := hcs 0
      have p1 : wo.cell? ⟨s + 2, 1, none⟩ = some (.slice a 5 c) := hcs 1
      have p2 : wo.cell? ⟨s + 2, 2, none⟩ = some (.int .i64 1) := hcs 2
      have p3 : wo.cell? ⟨s + 2, 3, none⟩ = some (.int .i64 4) := hcs 3
      have p4 : wo.cell? ⟨s + 2, 4, none⟩ = some (.int .i64 1) := hcs 4
      have p5 : wo.cell? ⟨s + 2, 5, none⟩ = some (.int .i64 2) := hcs 5
      have p6 : wo.cell? ⟨s + 2, 6, none⟩ = some (.int .i64 3) := hcs 6
      have hcz : ∀ j, wo.cell? ⟨s, j, none⟩ = _ := fun j => cell_of_row wo s j _ _ _ hB0
      have z0 : wo.cell? ⟨s, 0, none⟩ = some (.slice none 0 0) := hcz 0
      have z1 : wo.cell? ⟨s, 1, none⟩ = some (.slice none 0 0) := hcz 1
      have z2 : wo.cell? ⟨s, 2, none⟩ = some (.int .i64 0) := hcz 2
      have z3 : wo.cell? ⟨s, 3, none⟩ = some (.int .i64 0) := hcz 3
      have z4 : wo.cell? ⟨s, 4, none⟩ = some (.int .i64 0) := hcz 4
      have z5 : wo.cell? ⟨s, 5, none⟩ = some (.int .i64 0) := hcz 5
      have z6 : wo.cell? ⟨s, 6, none⟩ = some (.int .i64 0) := hcz 6
      have zf : ∀ j, wo.frozen? ⟨s, j, none⟩ = false := fun j => by simp [World.frozen?, hB0]
      have HRl := Lib.hid hrl
      have HB0 := Lib.hid hB0
      clear hown hB hcs hcz hB0 hrl
      go_wp2_with fail
      have hB0 := HB0.out
      have h7 := Go.heap_setCell_same _ s 6 _ _ (.int .i64 3) (Go.heap_setCell_same _ s 5 _ _ (.int .i64 2) (Go.heap_setCell_same _ s 4 _ _ (.int .i64 1) (Go.heap_setCell_same _ s 3 _ _ (.int .i64 4) (Go.heap_setCell_same _ s 2 _ _ (.int .i64 1) (Go.heap_setCell_same _ s 1 _ _ (.slice a 5 c) (Go.heap_setCell_same wo s 0 _ _ (.slice (some ⟨s + 1, 0, none⟩) 4 4) hB0))))))
      have hsz := ho.size
      have hsS := HS.out
      have hoA := only_set7 (S := fun i => i = s + 2 ∨ i = s) (ho.mono (fun i _ h => Or.inl h)) s (Or.inr rfl) (.slice (some ⟨s + 1, 0, none⟩) 4 4) (.slice a 5 c) (.int .i64 1) (.int .i64 4) (.int .i64 1) (.int .i64 2) (.int .i64 3)
      have hoB := only_set7 (S := fun i => i = s) (Only.refl _ wo) s rfl (.slice (some ⟨s + 1, 0, none⟩) 4 4) (.slice a 5 c) (.int .i64 1) (.int .i64 4) (.int .i64 1) (.int .i64 2) (.int .i64 3)
      refine bodyPost_ret (results_cell_row rfl _ _ s 31 _ (0, 0) _ rfl h7 Try.underlying31 rfl (by kernel_rfl)) rfl ⟨HOA.out.andThen hoA (fun i hi h => by omega), some ⟨s + 1, 0, none⟩, a, 4, c, rfl, ?_, ?_⟩
      · refine Or.inr ⟨s + 1, 0, rfl, fun i p hp => ?_⟩
        have hp1 : ∀ j, wA.cell? ⟨s + 1, j, none⟩ = _ := fun j => cell_of_row wA (s + 1) j _ _ _ HK.out.2.1
        have hk : ∀ j v, wA.cell? ⟨s + 1, j, none⟩ = some v → _ := fun j v h => hoA.cell h (by simp)
        match i, hp with
        | 0, hp => cases hp; exact ⟨hk 0 _ (hp1 0), hk 1 _ (hp1 1)⟩
        | 1, hp => cases hp; exact ⟨hk 2 _ (hp1 2), hk 3 _ (hp1 3)⟩
        | 2, hp => cases hp; exact ⟨hk 4 _ (hp1 4), hk 5 _ (hp1 5)⟩
        | 3, hp => cases hp; exact ⟨hk 6 _ (hp1 6), hk 7 _ (hp1 7)⟩
      · rcases HRl.out with h | ⟨b, off, ha, hc⟩
        · exact absurd h (by simp [ringP])
        · have hbb : b ≠ s := fun h => by
            have h1 := HOwn.out.lt b (by subst ha; rfl)
            omega
          refine Or.inr ⟨b, off, ha, fun i l hl => ?_⟩
          obtain ⟨q0, q1, q2, q3⟩ := hc i l hl
          exact ⟨hoB.cell q0 (by simpa using hbb), hoB.cell q1 (by simpa using hbb), hoB.cell q2 (by simpa using hbb), hoB.cell q3 (by simpa using hbb)⟩

end Go.Proofs.Ytpfcoeenblmifaa
