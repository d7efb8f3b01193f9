/-
  Plans: the law's N.Of: a line is added.
-/
import Derived.Test.YtpfcoeenblmifaaPX
import Derived.Test.YtpfcoeenblmifaaMk
import Derived.Test.YtpfcoeenblmifaaQueue
import Derived.StillTailTactics
import Derived.Deep.RegionHeld3
namespace Go.Proofs.Ytpfcoeenblmifaa
open Go.RowKit Go.PC

abbrev boxP (pa : Option Addr) (n pc : Nat) (v : Value) : Array Value := #[.slice pa n pc, v, .int .i64 0, .int .i64 0, .int .i64 0, .int .i64 0, .int .i64 0]

theorem lns_drop (ls : List Ln) : ∀ A, lns (ls.drop A) = (lns ls).drop (A * 4) := by
  induction ls with
  | nil => intro A; simp [lns]
  | cons x xs ih =>
    intro A
    cases A with
    | zero => simp
    | succ A =>
      rw [List.drop_succ_cons, ih A, show (A + 1) * 4 = A * 4 + 1 + 1 + 1 + 1 by omega]
      rfl

theorem own_base {w : World} {b b' n size : Nat} {e : TypeId} {v : Value} {xs : List Value} (h : w.ownsRow b e size v n xs) (hb : b' ≤ b) : w.ownsRow b' e size v n xs :=
  ⟨h.1, h.2.imp_right fun ⟨g, cap, cur, h1, h2, h3⟩ => ⟨g, cap, cur, h1, Nat.le_trans hb h2, h3⟩⟩

/-- What holds when the line has been laid in. -/
theorem add_end (w wr w1 w2 w3 w4 : World) (L pB base : Nat) (v3 : Value) (a4 : Option Addr) (c4 : Nat) {b off pc np : Nat} {vx : Value} {ls : List Ln} {X Y D : Int} {A E n3 n4 : Nat} {xs3 : List Value}
    (h1 : Only (fun _ => False) w w1) (hr : Only (fun i => i = L) w1 wr) (h2 : Only (fun _ => False) wr w2) (h3 : Only (fun _ => False) w2 w3)
    (ho3 : w3.ownsRow w2.heap.size 57 4 v3 n3 xs3) (hg4 : w3.grownBy w4 v3.ownBlock)
    (hb4 : w4.heap[pB]? = some (.cells (boxP (some ⟨b, off, none⟩) np pc vx) 31))
    (ho4 : w4.ownsRow w2.heap.size 57 4 (.slice a4 n4 c4) n4 ([] ++ lns (ls.take A) ++ ([.int .u16 X, .int .u16 Y, .int .u8 E, .int .i64 D] ++ (lns ls).drop (A * 4))))
    (hA : ls.countP (leAB X Y) = A) (hE : ls.countP (eqAB X Y) = E) (hL : w.heap.size = L) (hpb : pB < base) (hbase : base ≤ w.heap.size) (hA11 : A ≤ ls.length) :
    Only (fun i => i = pB) w (w4.setCell ⟨pB, 1, none⟩ (.slice a4 n4 c4)) ∧ ∃ v', (w4.setCell ⟨pB, 1, none⟩ (.slice a4 n4 c4)).heap[pB]? = some (.cells (boxP (some ⟨b, off, none⟩) np pc v') 31) ∧
      (w4.setCell ⟨pB, 1, none⟩ (.slice a4 n4 c4)).ownsRow base 57 4 v' (ls.length + 1) (lns (insLn ls X Y D)) := by
  have z1 := h1.size
  have z2 := hr.size
  have z3 := h2.size
  have hn : n4 = ls.length + 1 := by
    have := ho4.1
    simp only [List.length_append, List.length_drop, lns_len, List.length_cons, List.length_nil, List.length_take] at this
    omega
  have hO : Only (fun i => i = pB) w w4 := ((((h1.andThen hr (fun i hi h => by omega)).andThen h2 (fun i hi h => h.elim)).andThen h3 (fun i hi h => h.elim)).andThen (Only.of_grownBy hg4) (fun i hi h => by have := (ho3.lt i h.symm).1; omega)).mono (fun i hi h => by first | exact h | exact False.elim h)
  refine ⟨hO.setCell _ _ (fun _ => rfl), .slice a4 n4 c4, Go.heap_setCell_same w4 pB 1 _ _ _ hb4, ?_⟩
  have hx : lns (insLn ls X Y D) = [] ++ lns (ls.take A) ++ ([.int .u16 X, .int .u16 Y, .int .u8 E, .int .i64 D] ++ (lns ls).drop (A * 4)) := by
    unfold insLn
    rw [hA, hE, lns_append, ← lns_drop]
    simp [lns]
  rw [hx, ← hn]
  refine (own_base ho4 (by omega)).kept (row := some pB) ⟨rfl, rfl, rfl, by simp, fun i hi hne => RowKit.Below.heap_setCell w4 ⟨pB, 1, none⟩ _ i (fun h => hne (by simp at h; rw [h]))⟩ ?_
  cases hv : (Value.slice a4 n4 c4).ownBlock with
  | none => exact Or.inl rfl
  | some q => exact Or.inr (fun h => by have := (ho4.lt q hv).1; injection h with h; omega)

theorem cutX {X G : Prop} (h : Hid X → G) (hx : X) : G := h (Lib.hid hx)

section
variable {P : Program} {w : World}
theorem step_append_own {ops : Array Oper} {o : Oper} {a : Act} {K : Act → World → Prop} {Q : Exit → Act → World → Prop} {E : Prop} (hgd : o.guard = none) (s x : Operand) (t : TypeId)
    (ho : o.op = .call { callee := .builtin .append, args := #[s, x], argTypes := #[t, t] })
    (base : Nat) (e : TypeId) (i : TypeInfo) (z : Value) (size bytes : Nat) (ht : P.underlying t = some (.slice e)) (hi : P.info? e = some i) (hz : i.zero = some z)
    (hsize : i.size = size) (hby : i.bytes = bytes) (hzs : z.cells.size = size) (hsz : 0 < size)
    (v : Value) (n : Nat) (xs : List Value) (hs : a.eval s = v) (hown : w.ownsRow base e size v n xs)
    (ad : Addr) (m c : Nat) (news : List Value) (hx : a.eval x = .slice (some ad) m c) (hl : news.length = m * size) (hnews : ∀ j u, news[j]? = some u → w.cell? (ad.add j) = some u) (h1 : ∀ u ∈ news, u.oneCell' = true)
    (h63 : n + m ≤ maxLen) (hbytes : (n + m) * bytes ≤ 140737488355328) (hbase : base ≤ w.heap.size)
    (h : ∀ v' w', w'.ownsRow base e size v' (n + m) (xs ++ news) → w.grownBy w' v.ownBlock → K (a.put o.dst v') w') :
    if Region.wanted o (yielded ops a.tmps) = true then Oper.wp P o a w K Q else E := by
  have hw : Region.wanted o (yielded ops a.tmps) = true := by simp [Region.wanted, hgd]
  rw [if_pos hw]
  exact wp_append_own w s x t ho base e i z size bytes ht hi hz hsize hby hzs hsz v n xs hs hown ad m c news hx hl hnews h1 h63 hbytes hbase fun v' w' h2 h3 _ => h v' w' h2 h3
end

theorem lns_one (ls : List Ln) : ∀ u ∈ lns ls, u.oneCell' = true := fun u hu => by
  obtain ⟨l, _, h⟩ := List.mem_flatMap.1 hu
  simp only [List.mem_cons, List.not_mem_nil, or_false] at h
  rcases h with rfl | rfl | rfl | rfl <;> rfl

theorem lns_take {ls : List Ln} {A q : Nat} {u : Value} (h : (lns (ls.take A))[q]? = some u) : (lns ls)[q]? = some u := by
  have e : lns ls = lns (ls.take A) ++ lns (ls.drop A) := by rw [← lns_append, List.take_append_drop]
  rw [e, List.getElem?_append_left (List.getElem?_eq_some_iff.1 h).1, h]
theorem new_one (X Y E D : Int) (ls : List Ln) (n : Nat) : ∀ u ∈ ([.int .u16 X, .int .u16 Y, .int .u8 E, .int .i64 D] ++ (lns ls).drop n : List Value), u.oneCell' = true := fun u hu => by
  rcases List.mem_append.1 hu with h | h
  · simp only [List.mem_cons, List.not_mem_nil, or_false] at h
    rcases h with rfl | rfl | rfl | rfl <;> rfl
  · exact lns_one ls u (List.mem_of_mem_drop h)
theorem Only.of_grownBy_nil {a b : World} (h : a.grownBy b (Value.slice none 0 0).ownBlock) : Only (fun _ => False) a b :=
  (Only.of_grownBy h).mono fun i _ hi => by cases hi

/-- A row of one, just laid. -/
theorem own_one (w : World) (base : Nat) (e : TypeId) (size : Nat) (xs : List Value) (hb : base ≤ w.heap.size) (hx : xs.length = size) : (w.alloc (.cells xs.toArray e)).ownsRow base e size (.slice (some ⟨w.heap.size, 0, none⟩) 1 1) 1 xs :=
  ⟨by omega, Or.inr ⟨w.heap.size, 1, xs.toArray, rfl, hb, (MapKept.heap_alloc w _).1, Nat.le_refl _, by decide, by simp [hx], by subst hx; simp⟩⟩


set_option maxHeartbeats 4000000 in
set_option maxRecDepth 100000 in
theorem add_ok (pB base : Nat) (b off : Nat) (pc : Nat) (ps : List (Int × Bool)) (v : Value) (ls : List Ln) (lo hi : Nat) (d : Int) (x y : Int × Bool) (w : World)
    (hB : w.heap[pB]? = some (.cells (boxP (some ⟨b, off, none⟩) ps.length pc v) 31))
    (hp : ∀ i p, ps[i]? = some p → w.cell? ⟨b, off + i * 2, none⟩ = some (.int .u16 p.1) ∧ w.cell? ⟨b, off + i * 2 + 1, none⟩ = some (.bool p.2))
    (hown : w.ownsRow base 57 4 v ls.length (lns ls)) (hbase : base ≤ w.heap.size) (hpb : pB < base) (hlh : lo < hi) (hx : ps[lo]? = some x) (hy : ps[hi]? = some y)
    (hs : ls.Pairwise LeK) (hl : ls.length ≤ 11) (hd : 0 ≤ d ∧ d ≤ 255) (i j : Int) (hij : (i = lo ∧ j = hi) ∨ (i = hi ∧ j = lo)) :
    Calls Try.prog 22 #[.int .i64 i, .int .i64 j, .int .u8 d, .pointer (some ⟨pB, 0, none⟩)] w fun e w' => e = .returned (.tuple #[]) ∧ Only (fun i => i = pB) w w' ∧
      ∃ v', w'.heap[pB]? = some (.cells (boxP (some ⟨b, off, none⟩) ps.length pc v') 31) ∧ w'.ownsRow base 57 4 v' (ls.length + 1) (lns (insLn ls x.1 y.1 (1 + d % 3))) := by
  obtain ⟨X, tX⟩ := x
  obtain ⟨Y, tY⟩ := y
  dsimp only
  obtain ⟨i0, hi0, hz0i, hz1i, hz2i⟩ := info_parts infoLine
  obtain ⟨va, vc, rfl⟩ := own_shape hown
  obtain ⟨va', vc', hv', hrl⟩ := RdL_of_own hown
  injection hv' with hv1 _ hv2
  subst hv1 hv2
  obtain ⟨x1, hx1⟩ := hp lo _ hx
  obtain ⟨y1, hy1⟩ := hp hi _ hy
  have hlo := (List.getElem?_eq_some_iff.1 hx).1
  have hhi := (List.getElem?_eq_some_iff.1 hy).1
  have b0 : w.cell? ⟨pB, 0, none⟩ = _ := cell_of_row w pB 0 _ _ _ hB
  have b1 : w.cell? ⟨pB, 1, none⟩ = _ := cell_of_row w pB 1 _ _ _ hB
  simp only [List.getElem?_toArray, List.getElem?_cons_zero, List.getElem?_cons_succ] at b0 b1
  simp only at x1 y1
  have HB := Lib.hid hB
  have HOwn := Lib.hid hown
  have HRl := Lib.hid hrl
  have HS := Lib.hid hs
  have c1 : (lo : Int) < ps.length := by omega
  have c2 : (hi : Int) < ps.length := by omega
  clear hB hown hs hp hrl hx1 hy1 hx hy
  have hlh' : (lo : Int) < hi := by omega
  have hnl : ¬ hi < lo := by omega
  have hlo0 : (0 : Int) ≤ lo := by omega
  have hhi0 : (0 : Int) ≤ hi := by omega
  have hmin : (if j < i then j else i) = (lo : Int) := by split <;> omega
  have hmax : (if i < j then j else i) = (hi : Int) := by split <;> omega
  have hne : i ≠ j := by omega
  obtain ⟨D, hD⟩ : ∃ D, IntKind.i64.wrap (1 + IntKind.i64.wrap (d.tmod 3)) = D := ⟨_, rfl⟩
  have hDv : D = 1 + d % 3 := by
    have h1 : d.tmod 3 = d % 3 := Int.tmod_eq_emod_of_nonneg hd.1
    have h2 : IntKind.i64.wrap (d % 3) = d % 3 := by rw [IntKind.wrap_i64]; omega
    have h3 : IntKind.i64.wrap (1 + d % 3) = 1 + d % 3 := by rw [IntKind.wrap_i64]; omega
    rw [← hD, h1, h2, h3]
  rw [← hDv]
  clear hDv
  clear hij
  · go_enter Try.func22, Try.ntmps22
    go_wp2_with fail
    apply cutX
    · intro hX
      go_region_held3 (fun w' => w'.cell? ⟨pB, 0, none⟩ = some (.slice (some ⟨b, off, none⟩) ps.length pc) ∧ w'.cell? ⟨b, off + lo * 2, none⟩ = some (.int .u16 X) ∧ w'.cell? ⟨b, off + hi * 2, none⟩ = some (.int .u16 Y)) (go_keep) (fail)
      all_goals exact hX.out
    have hOA := ((Only.refl (fun _ => False) w).alloc (.cells #[.int .u16 X, .int .u16 Y, .int .u8 0] 55)).drew
    have hLA : (w.alloc (.cells #[.int .u16 X, .int .u16 Y, .int .u8 0] 55)).drew.heap[w.heap.size]? = some (.cells #[.int .u16 X, .int .u16 Y, .int .u8 0] 55) := (MapKept.heap_alloc w _).1
    generalize (w.alloc (.cells #[.int .u16 X, .int .u16 Y, .int .u8 0] 55)).drew = w1 at hOA hLA ⊢
    have HL0 := Lib.hid (And.intro hOA hLA)
    have hb1 := hOA.cell b1 (by simp)
    clear b0 b1 x1 y1 hOA hLA
    obtain ⟨L, hL⟩ : ∃ L, w.heap.size = L := ⟨_, rfl⟩
    have HLs := Lib.hid hL
    simp only [hL]
    rw [hL] at HL0
    clear hL
    go_wp2_with fail
    go_loopw [8, 9] (fun t i wr => ∃ k : Nat, k ≤ ls.length ∧ t = .int .i64 (((ls.take k).countP (leAB X Y) : Nat) : Int) ∧ i = .int .i64 k ∧
        Hid (wr.heap[L]? = some (.cells #[.int .u16 X, .int .u16 Y, .int .u8 (((ls.take k).countP (eqAB X Y) : Nat) : Int)] 55)) ∧ Only (fun i => i = L) w1 wr)
      (fun _ i _ => ls.length - (intOf i).toNat)
    case atStart => exact ⟨0, Nat.zero_le _, rfl, rfl, Lib.hid HL0.out.2, Only.refl _ _⟩
    case round =>
      obtain ⟨k, hk, rfl, rfl, HLk, ho⟩ := hrel
      have hpL : pB ≠ L := by have := HLs.out; omega
      have b1 := ho.cell hb1 (by simpa using hpL)
      by_cases hlt : k < ls.length
      · obtain ⟨g, goff, ha, hcell⟩ := HRl.out.resolve_left (fun he => by rw [he] at hlt; cases hlt)
        subst ha
        have hlt' : (k : Int) < (ls.length : Int) := by omega
        obtain ⟨⟨xa, xb, xc, xd⟩, hq⟩ : ∃ l, ls[k]? = some l := ⟨_, List.getElem?_eq_getElem hlt⟩
        obtain ⟨c0, c1, c2, _⟩ := hcell k _ hq
        simp only at c0 c1 c2
        have hgL : g ≠ L := by have h1 := lt_of_cell c0; have h2 := HLs.out; simp only at h1; omega
        have c0 := ho.cell (HL0.out.1.cell c0 (by simp)) (by simpa using hgL)
        have c1 := ho.cell (HL0.out.1.cell c1 (by simp)) (by simpa using hgL)
        have c2 := ho.cell (HL0.out.1.cell c2 (by simp)) (by simpa using hgL)
        have hAt := Good.at_step HS.out (a := X) (b := Y) hq
        have hEq := countP_step (p := eqAB X Y) hq
        have hE11 : (ls.take k).countP (eqAB X Y) ≤ 11 := by have h1 := List.countP_le_length (p := eqAB X Y) (l := ls.take k); rw [List.length_take] at h1; omega
        have hLb := HLk.out
        have hLt := lt_of_heap hLb
        generalize hE : (ls.take k).countP (eqAB X Y) = E at hEq hE11 hLb ⊢
        generalize hA : (ls.take k).countP (leAB X Y) = A at hAt ⊢
        have l0 : wr.cell? ⟨L, 0, none⟩ = some (.int .u16 X) := by rw [cell_of_row wr L 0 _ _ _ hLb]; rfl
        have l1 : wr.cell? ⟨L, 1, none⟩ = some (.int .u16 Y) := by rw [cell_of_row wr L 1 _ _ _ hLb]; rfl
        have l2 : wr.cell? ⟨L, 2, none⟩ = some (.int .u8 E) := by rw [cell_of_row wr L 2 _ _ _ hLb]; rfl
        have lf : wr.frozen? ⟨L, 2, none⟩ = false := by simp [World.frozen?, hLb]
        have hbp := lt_of_cell b1
        have hbg := lt_of_cell c0
        simp only at hbp hbg
        have hE0 : (0 : Int) ≤ E := by omega
        have hE1 : (E : Int) + 1 ≤ 255 := by omega
        have HLb := Lib.hid hLb
        clear hcell hq hLb HLk hE hA hE11 hb1
        have hc : (xa = X ∧ xb = Y) ∨ xa < X ∨ (xa = X ∧ xb < Y) ∨ (xa = X ∧ Y < xb) ∨ X < xa := by omega
        rcases hc with ⟨rfl, rfl⟩ | hc | ⟨rfl, hc⟩ | ⟨rfl, hc⟩ | hc
        · rw [if_pos (by simp [leAB])] at hAt
          rw [if_pos (by simp [eqAB])] at hEq
          have HH := Lib.hid (And.intro hAt hEq)
          clear hAt hEq
          go_wp2_with fail
          refine ⟨⟨k + 1, by omega, by rw [HH.out.1] <;> go_num, by go_num, Lib.hid ?_, (ho.setCell (p := ⟨L, 2, none⟩) _ (fun _ => rfl)).alloc _⟩, by simp [intOf]; omega⟩
          rw [(MapKept.heap_alloc _ _).2 _ (by simpa using hLt), HH.out.2, Go.heap_setCell_same wr L 2 _ _ _ HLb.out]
          rfl
        · rw [if_pos (by simp [leAB, hc])] at hAt
          rw [if_neg (by simp [eqAB]; omega)] at hEq
          have HH := Lib.hid (And.intro hAt hEq)
          clear hAt hEq
          go_wp2_with fail
          refine ⟨⟨k + 1, by omega, by rw [HH.out.1] <;> go_num, by go_num, Lib.hid ?_, ho.alloc _⟩, by simp [intOf]; omega⟩
          rw [(MapKept.heap_alloc _ _).2 _ hLt, HH.out.2]
          exact HLb.out
        · rw [if_pos (by simp [leAB]; omega)] at hAt
          rw [if_neg (by simp [eqAB]; omega)] at hEq
          have HH := Lib.hid (And.intro hAt hEq)
          clear hAt hEq
          go_wp2_with fail
          refine ⟨⟨k + 1, by omega, by rw [HH.out.1] <;> go_num, by go_num, Lib.hid ?_, ho.alloc _⟩, by simp [intOf]; omega⟩
          rw [(MapKept.heap_alloc _ _).2 _ hLt, HH.out.2]
          exact HLb.out
        · rw [if_neg (by simp [leAB]; omega)] at hAt
          rw [if_neg (by simp [eqAB]; omega)] at hEq
          have HH := Lib.hid (And.intro hAt hEq)
          clear hAt hEq
          go_wp2_with fail
          refine ⟨⟨k + 1, by omega, by rw [HH.out.1] <;> go_num, by go_num, Lib.hid ?_, ho.alloc _⟩, by simp [intOf]; omega⟩
          rw [(MapKept.heap_alloc _ _).2 _ hLt, HH.out.2]
          exact HLb.out
        · rw [if_neg (by simp [leAB]; omega)] at hAt
          rw [if_neg (by simp [eqAB]; omega)] at hEq
          have HH := Lib.hid (And.intro hAt hEq)
          clear hAt hEq
          go_wp2_with fail
          refine ⟨⟨k + 1, by omega, by rw [HH.out.1] <;> go_num, by go_num, Lib.hid ?_, ho.alloc _⟩, by simp [intOf]; omega⟩
          rw [(MapKept.heap_alloc _ _).2 _ hLt, HH.out.2]
          exact HLb.out
      · have hk' : k = ls.length := by omega
        subst hk'
        rw [List.take_length] at HLk ⊢
        have hO1 := HL0.out.1
        have HB1 := Lib.hid (hO1.block pB (lt_of_heap HB.out) (by simp) ▸ HB.out)
        have HOr := Lib.hid ho
        have hLb := HLk.out
        have hE11 : ls.countP (eqAB X Y) ≤ 11 := by have h1 := List.countP_le_length (p := eqAB X Y) (l := ls); omega
        have hA11 : ls.countP (leAB X Y) ≤ ls.length := List.countP_le_length
        generalize hE : ls.countP (eqAB X Y) = E at hE11 hLb ⊢
        generalize hA : ls.countP (leAB X Y) = A at hA11 ⊢
        have HAE := Lib.hid (And.intro hA hE)
        have l0 : wr.cell? ⟨L, 0, none⟩ = some (.int .u16 X) := by rw [cell_of_row wr L 0 _ _ _ hLb]; rfl
        have l1 : wr.cell? ⟨L, 1, none⟩ = some (.int .u16 Y) := by rw [cell_of_row wr L 1 _ _ _ hLb]; rfl
        have l2 : wr.cell? ⟨L, 2, none⟩ = some (.int .u8 E) := by rw [cell_of_row wr L 2 _ _ _ hLb]; rfl
        have hbp := lt_of_cell b1
        simp only at hbp
        have hA' : (A : Int) ≤ ls.length := by omega
        have hA0 : (0 : Int) ≤ A := by omega
        have HCh : Hid (∀ wb, Only (fun _ => False) wr wb → wb.cell? ⟨L, 0, none⟩ = some (.int .u16 X) ∧ wb.cell? ⟨L, 1, none⟩ = some (.int .u16 Y) ∧ wb.cell? ⟨L, 2, none⟩ = some (.int .u8 E) ∧ wb.cell? ⟨pB, 1, none⟩ = some (.slice va ls.length vc)) := Lib.hid fun wb hwb =>
          ⟨hwb.cell l0 (by simp), hwb.cell l1 (by simp), hwb.cell l2 (by simp), hwb.cell b1 (by simp)⟩
        have HO1 := Lib.hid hO1
        clear hLb HLk hE hA hE11 hb1 ho hO1 HL0
        have hlr := lt_of_cell l0
        simp only at hlr
        rcases HOwn.out.2 with ⟨hv, hn⟩ | ⟨g, cap, cur, hv, hbg, hg, hnc, hcm, hcs, hct⟩
        · injection hv with hv1 hv2 hv3
          subst hv1 hv3
          have hls : ls = [] := List.eq_nil_of_length_eq_zero hn
          subst hls
          have hA0e : A = 0 := by have := HAE.out.1; simpa using this.symm
          have hE0 : E = 0 := by have := HAE.out.2; simpa using this.symm
          subst hA0e hE0
          have hOR := Only.refl (fun _ => False) wr
          simp only [List.length_nil] at *
          go_wp2_with fail
          go_region_held3 (fun w' => Only (fun _ => False) wr w' ∧ w'.cell? ⟨L, 0, none⟩ = some (.int .u16 X) ∧ w'.cell? ⟨L, 1, none⟩ = some (.int .u16 Y) ∧ w'.cell? ⟨L, 2, none⟩ = some (.int .u8 ((0 : Nat) : Int)) ∧ w'.cell? ⟨pB, 1, none⟩ = some (.slice none 0 0))
                (first
                  | exact ⟨Only.drew (by assumption), HCh.out _ (Only.drew (by assumption))⟩
                  | (go_split_ands; exact ⟨Only.alloc (by assumption) _, HCh.out _ (Only.alloc (by assumption) _)⟩)
                  | (go_split_ands; exact ⟨Only.drew (Only.alloc (by assumption) _), HCh.out _ (Only.drew (Only.alloc (by assumption) _))⟩)
                  | (go_split_ands; exact ⟨by assumption, HCh.out _ (by assumption)⟩))
                (fail)
          have hw2 : (wr.alloc (.cells #[.int .u16 X, .int .u16 Y, .int .u8 0, .int .i64 D] 57)).drew.heap[wr.heap.size]? = some (.cells #[.int .u16 X, .int .u16 Y, .int .u8 0, .int .i64 D] 57) := (MapKept.heap_alloc wr _).1
          have hoG : Only (fun _ => False) wr (wr.alloc (.cells #[.int .u16 X, .int .u16 Y, .int .u8 0, .int .i64 D] 57)).drew := ((Only.refl (fun _ => False) wr).alloc _).drew
          have b1w := (HCh.out _ hoG).2.2.2
          have hsz2 := hoG.size
          generalize (wr.alloc (.cells #[.int .u16 X, .int .u16 Y, .int .u8 0, .int .i64 D] 57)).drew = w2 at hw2 hoG b1w hsz2 ⊢
          have HB2 : Hid (w2.heap[pB]? = some (.cells (boxP (some ⟨b, off, none⟩) ps.length pc (.slice none 0 0)) 31)) := Lib.hid ((hoG.block pB hbp (by simp)).trans ((HOr.out.block pB (lt_of_heap HB1.out) (by simpa using hpL)).trans HB1.out))
          have HR2 : Hid (Row w2 wr.heap.size 57 4 [.int .u16 X, .int .u16 Y, .int .u8 0, .int .i64 D]) := Lib.hid ⟨_, hw2, rfl, rfl⟩
          have HoG := Lib.hid hoG
          clear b1 hoG HCh l0 l1 l2 hw2
          go_wp2_with (first
              | (at_builtin; refine wpList_append_own _ rfl _ _ 28 rfl w2.heap.size 57 i0 (.agg #[.int .u16 0, .int .u16 0, .int .u8 0, .int .i64 0]) 4 16 Try.underlying28 hi0 hz0i hz1i hz2i rfl (by decide) (.slice none 0 0) 0 [] rfl (World.ownsRow_nil _ _ _ _) ⟨wr.heap.size, 0, none⟩ 1 1 [.int .u16 X, .int .u16 Y, .int .u8 0, .int .i64 D] rfl rfl (fun q u hq => by rw [Addr.add_lit]; exact (Nat.zero_add q).symm ▸ HR2.out.cell hq) (new_one X Y 0 D [] 0) (by unfold maxLen; omega) (by omega) (Nat.le_refl _) ?_; intro v4 w4 hown4 hgrow4 _; simp only [Nat.zero_add] at hown4; obtain ⟨a4, c4, rfl⟩ := own_shape hown4; have hb4 : w4.heap[pB]? = _ := ((Only.of_grownBy_nil hgrow4).block pB (by omega) (by simp)).trans HB2.out; have p4 : w4.cell? ⟨pB, 1, none⟩ = some (.slice none 0 0) := (by rw [cell_of_row w4 pB 1 _ _ _ hb4]; rfl); have pf4 : w4.frozen? ⟨pB, 1, none⟩ = false := (by simp [World.frozen?, hb4]); have HB4 := Lib.hid hb4; have HG4 := Lib.hid hgrow4; have HO4 := Lib.hid hown4; clear hb4 hgrow4 hown4)
              | fail)
          exact bodyPost_end (results_none rfl _ _ _) rfl ⟨rfl, add_end w wr w1 w2 w2 w4 L pB base (.slice none 0 0) a4 c4 (xs3 := []) (n3 := 0) HO1.out HOr.out HoG.out (Only.refl _ _) (World.ownsRow_nil _ _ _ _) HG4.out HB4.out (ls := []) (A := 0) (E := 0) (by simpa [lns] using HO4.out) HAE.out.1 HAE.out.2 HLs.out hpb hbase hA11⟩
        · injection hv with hv1 hv2 hv3
          subst hv1 hv3
          have hOR := Only.refl (fun _ => False) wr
          have hgL : g ≠ L := by have h1 := lt_of_heap hg; have h2 := HLs.out; omega
          have hRow : Row w g 57 (vc * 4) (lns ls) := ⟨cur, hg, hcs, by rw [lns_len]; exact hct⟩
          have HRw : Hid (Row wr g 57 (vc * 4) (lns ls)) := Lib.hid ((hRow.only HO1.out (by simp)).only HOr.out (by simpa using hgL))
          clear hRow hg hcs hct
          have HOwr : Hid (∀ wb, Only (fun _ => False) wr wb → ∀ j u, ((lns ls).drop (A * 4))[j]? = some u → wb.cell? ⟨g, A * 4 + j, none⟩ = some u) := Lib.hid fun wb hwb q u hq => (HRw.out.only hwb (by simp)).cell (by rwa [List.getElem?_drop] at hq)
          by_cases hcA : vc = A
          · have hAl : A = ls.length := by omega
            have hdr : (lns ls).drop (ls.length * 4) = [] := by rw [← lns_len]; simp
            subst hcA
            have HDr := Lib.hid hdr
            clear hdr
            subst hAl
            go_wp2_with fail
            go_region_held3 (fun w' => Only (fun _ => False) wr w' ∧ w'.cell? ⟨L, 0, none⟩ = some (.int .u16 X) ∧ w'.cell? ⟨L, 1, none⟩ = some (.int .u16 Y) ∧ w'.cell? ⟨L, 2, none⟩ = some (.int .u8 E) ∧ w'.cell? ⟨pB, 1, none⟩ = some (.slice (some ⟨g, 0, none⟩) ls.length ls.length))
                (first
                  | exact ⟨Only.drew (by assumption), HCh.out _ (Only.drew (by assumption))⟩
                  | (go_split_ands; exact ⟨Only.alloc (by assumption) _, HCh.out _ (Only.alloc (by assumption) _)⟩)
                  | (go_split_ands; exact ⟨Only.drew (Only.alloc (by assumption) _), HCh.out _ (Only.drew (Only.alloc (by assumption) _))⟩)
                  | (go_split_ands; exact ⟨by assumption, HCh.out _ (by assumption)⟩))
                ((refine step_append_own (by rfl) _ _ _ (by rfl) wr.heap.size 57 i0 (.agg #[.int .u16 0, .int .u16 0, .int .u8 0, .int .i64 0]) 4 16 Try.underlying28 hi0 hz0i hz1i hz2i rfl (by omega) (.slice (some ⟨wr.heap.size, 0, none⟩) 1 1) 1 [.int .u16 X, .int .u16 Y, .int .u8 E, .int .i64 D] (by rfl) (own_one wr wr.heap.size _ 4 _ (Nat.le_refl _) rfl).drew ⟨g, 0, none⟩ 0 0 [] (by rfl) rfl (fun q u hq => by simp at hq) (fun u hu => by cases hu) (by unfold maxLen; omega) (by omega) (by simp) ?_; intro v2 w2 hown2 hgrow2; have hoG : Only (fun _ => False) wr w2 := ((((Only.refl (fun _ => False) wr).alloc _).drew).andThen (Only.of_grownBy hgrow2) (fun q hq h => by simp only [Value.ownBlock, Option.some.injEq] at h; omega))))
            obtain ⟨hl2, ⟨_, h0⟩ | ⟨g2, cap2, cur2, rfl, hbg2, hg2, hnc2, hcm2, hcs2, hct2⟩⟩ := hown2
            · omega
            have HR2 : Hid (Row w2 g2 57 (cap2 * 4) ([.int .u16 X, .int .u16 Y, .int .u8 E, .int .i64 D] ++ [])) := Lib.hid ⟨cur2, hg2, hcs2, by rw [hl2]; exact hct2⟩
            have HRw2 := Lib.hid (HRw.out.only hoG (by simp))
            have b1w := (HCh.out _ hoG).2.2.2
            have hsz2 := hoG.size
            have HB2 : Hid (w2.heap[pB]? = some (.cells (boxP (some ⟨b, off, none⟩) ps.length pc (.slice (some ⟨g, 0, none⟩) ls.length ls.length)) 31)) := Lib.hid ((hoG.block pB hbp (by simp)).trans ((HOr.out.block pB (lt_of_heap HB1.out) (by simpa using hpL)).trans HB1.out))
            have HoG := Lib.hid hoG
            clear b1 hl2 hg2 hcs2 hct2 hgrow2 hoG HRw HOwr HCh l0 l1 l2
            go_wp2_with (first
              | (at_builtin; refine wpList_append_own _ rfl _ _ 28 rfl w2.heap.size 57 i0 (.agg #[.int .u16 0, .int .u16 0, .int .u8 0, .int .i64 0]) 4 16 Try.underlying28 hi0 hz0i hz1i hz2i rfl (by decide) (.slice none 0 0) 0 [] rfl (World.ownsRow_nil _ _ _ _) ⟨g, 0, none⟩ ls.length ls.length (lns (ls.take ls.length)) rfl (by rw [lns_len, List.length_take]; omega) (fun q u hq => by rw [Addr.add_lit]; exact (Nat.zero_add q).symm ▸ HRw2.out.cell (lns_take hq)) (lns_one _) (by unfold maxLen; omega) (by omega) (Nat.le_refl _) ?_; intro v3 w3 hown3 hgrow3 _; have HO3 : Hid (Only (fun _ => False) w2 w3) := Lib.hid (Only.of_grownBy_nil hgrow3); have HR3 := Lib.hid (HR2.out.only HO3.out (by simp)); have hsz3 := HO3.out.size; have Hown3 := Lib.hid hown3; clear hgrow3 hown3)
              | (at_builtin; refine wpList_append_own _ rfl _ _ 28 rfl w2.heap.size 57 i0 (.agg #[.int .u16 0, .int .u16 0, .int .u8 0, .int .i64 0]) 4 16 Try.underlying28 hi0 hz0i hz1i hz2i rfl (by decide) v3 _ _ rfl Hown3.out ⟨g2, 0, none⟩ (1 + 0) cap2 ([.int .u16 X, .int .u16 Y, .int .u8 E, .int .i64 D] ++ []) rfl rfl (fun q u hq => by rw [Addr.add_lit]; exact (Nat.zero_add q).symm ▸ HR3.out.cell hq) (new_one X Y E D [] 0) (by unfold maxLen; omega) (by omega) hsz3 ?_; intro v4 w4 hown4 hgrow4 _; simp only [Nat.zero_add, Nat.add_zero] at hown4; obtain ⟨a4, c4, rfl⟩ := own_shape hown4; have hb4 : w4.heap[pB]? = _ := (hgrow4.block pB (by omega) (fun h => by have := (Hown3.out.lt pB h.symm).1; omega)).trans ((HO3.out.block pB (by omega) (by simp)).trans HB2.out); have p4 : w4.cell? ⟨pB, 1, none⟩ = some (.slice (some ⟨g, 0, none⟩) ls.length ls.length) := (by rw [cell_of_row w4 pB 1 _ _ _ hb4]; rfl); have pf4 : w4.frozen? ⟨pB, 1, none⟩ = false := (by simp [World.frozen?, hb4]); have HB4 := Lib.hid hb4; have HG4 := Lib.hid hgrow4; have HO4 := Lib.hid hown4; clear hb4 hgrow4 hown4)
              | fail)
            exact bodyPost_end (results_none rfl _ _ _) rfl ⟨rfl, add_end w wr w1 w2 w3 w4 L pB base v3 a4 c4 HO1.out HOr.out HoG.out HO3.out Hown3.out HG4.out HB4.out (by rw [HDr.out]; exact HO4.out) HAE.out.1 HAE.out.2 HLs.out hpb hbase hA11⟩
          · go_wp2_with fail
            go_region_held3 (fun w' => Only (fun _ => False) wr w' ∧ w'.cell? ⟨L, 0, none⟩ = some (.int .u16 X) ∧ w'.cell? ⟨L, 1, none⟩ = some (.int .u16 Y) ∧ w'.cell? ⟨L, 2, none⟩ = some (.int .u8 E) ∧ w'.cell? ⟨pB, 1, none⟩ = some (.slice (some ⟨g, 0, none⟩) ls.length vc))
                (first
                  | exact ⟨Only.drew (by assumption), HCh.out _ (Only.drew (by assumption))⟩
                  | (go_split_ands; exact ⟨Only.alloc (by assumption) _, HCh.out _ (Only.alloc (by assumption) _)⟩)
                  | (go_split_ands; exact ⟨Only.drew (Only.alloc (by assumption) _), HCh.out _ (Only.drew (Only.alloc (by assumption) _))⟩)
                  | (go_split_ands; exact ⟨by assumption, HCh.out _ (by assumption)⟩))
                ((refine step_append_own (by rfl) _ _ _ (by rfl) wr.heap.size 57 i0 (.agg #[.int .u16 0, .int .u16 0, .int .u8 0, .int .i64 0]) 4 16 Try.underlying28 hi0 hz0i hz1i hz2i rfl (by omega) (.slice (some ⟨wr.heap.size, 0, none⟩) 1 1) 1 [.int .u16 X, .int .u16 Y, .int .u8 E, .int .i64 D] (by rfl) (own_one wr wr.heap.size _ 4 _ (Nat.le_refl _) rfl).drew ⟨g, A * 4, none⟩ (ls.length - A) (vc - A) ((lns ls).drop (A * 4)) (by rfl) (by rw [List.length_drop, lns_len]; omega) (fun q u hq => by rw [Addr.add_lit]; exact HOwr.out _ (((Only.refl _ wr).alloc _).drew) q u hq) (fun u hu => lns_one ls u (List.mem_of_mem_drop hu)) (by unfold maxLen; omega) (by omega) (by simp) ?_; intro v2 w2 hown2 hgrow2; have hoG : Only (fun _ => False) wr w2 := ((((Only.refl (fun _ => False) wr).alloc _).drew).andThen (Only.of_grownBy hgrow2) (fun q hq h => by simp only [Value.ownBlock, Option.some.injEq] at h; omega))))
            obtain ⟨hl2, ⟨_, h0⟩ | ⟨g2, cap2, cur2, rfl, hbg2, hg2, hnc2, hcm2, hcs2, hct2⟩⟩ := hown2
            · omega
            have HR2 : Hid (Row w2 g2 57 (cap2 * 4) ([.int .u16 X, .int .u16 Y, .int .u8 E, .int .i64 D] ++ (lns ls).drop (A * 4))) := Lib.hid ⟨cur2, hg2, hcs2, by rw [hl2]; exact hct2⟩
            have HRw2 := Lib.hid (HRw.out.only hoG (by simp))
            have b1w := (HCh.out _ hoG).2.2.2
            have hsz2 := hoG.size
            have HB2 : Hid (w2.heap[pB]? = some (.cells (boxP (some ⟨b, off, none⟩) ps.length pc (.slice (some ⟨g, 0, none⟩) ls.length vc)) 31)) := Lib.hid ((hoG.block pB hbp (by simp)).trans ((HOr.out.block pB (lt_of_heap HB1.out) (by simpa using hpL)).trans HB1.out))
            have HoG := Lib.hid hoG
            clear b1 hl2 hg2 hcs2 hct2 hgrow2 hoG HRw HOwr HCh l0 l1 l2
            go_wp2_with (first
              | (at_builtin; refine wpList_append_own _ rfl _ _ 28 rfl w2.heap.size 57 i0 (.agg #[.int .u16 0, .int .u16 0, .int .u8 0, .int .i64 0]) 4 16 Try.underlying28 hi0 hz0i hz1i hz2i rfl (by decide) (.slice none 0 0) 0 [] rfl (World.ownsRow_nil _ _ _ _) ⟨g, 0, none⟩ A vc (lns (ls.take A)) rfl (by rw [lns_len, List.length_take]; omega) (fun q u hq => by rw [Addr.add_lit]; exact (Nat.zero_add q).symm ▸ HRw2.out.cell (lns_take hq)) (lns_one _) (by unfold maxLen; omega) (by omega) (Nat.le_refl _) ?_; intro v3 w3 hown3 hgrow3 _; have HO3 : Hid (Only (fun _ => False) w2 w3) := Lib.hid (Only.of_grownBy_nil hgrow3); have HR3 := Lib.hid (HR2.out.only HO3.out (by simp)); have hsz3 := HO3.out.size; have Hown3 := Lib.hid hown3; clear hgrow3 hown3)
              | (at_builtin; refine wpList_append_own _ rfl _ _ 28 rfl w2.heap.size 57 i0 (.agg #[.int .u16 0, .int .u16 0, .int .u8 0, .int .i64 0]) 4 16 Try.underlying28 hi0 hz0i hz1i hz2i rfl (by decide) v3 _ _ rfl Hown3.out ⟨g2, 0, none⟩ (1 + (ls.length - A)) cap2 ([.int .u16 X, .int .u16 Y, .int .u8 E, .int .i64 D] ++ (lns ls).drop (A * 4)) rfl (by simp only [List.length_append, List.length_drop, lns_len, List.length_cons, List.length_nil]; omega) (fun q u hq => by rw [Addr.add_lit]; exact (Nat.zero_add q).symm ▸ HR3.out.cell hq) (new_one _ _ _ _ _ _) (by unfold maxLen; omega) (by omega) hsz3 ?_; intro v4 w4 hown4 hgrow4 _; simp only [Nat.zero_add] at hown4; obtain ⟨a4, c4, rfl⟩ := own_shape hown4; have hb4 : w4.heap[pB]? = _ := (hgrow4.block pB (by omega) (fun h => by have := (Hown3.out.lt pB h.symm).1; omega)).trans ((HO3.out.block pB (by omega) (by simp)).trans HB2.out); have p4 : w4.cell? ⟨pB, 1, none⟩ = some (.slice (some ⟨g, 0, none⟩) ls.length vc) := (by rw [cell_of_row w4 pB 1 _ _ _ hb4]; rfl); have pf4 : w4.frozen? ⟨pB, 1, none⟩ = false := (by simp [World.frozen?, hb4]); have HB4 := Lib.hid hb4; have HG4 := Lib.hid hgrow4; have HO4 := Lib.hid hown4; clear hb4 hgrow4 hown4)
              | fail)
            exact bodyPost_end (results_none rfl _ _ _) rfl ⟨rfl, add_end w wr w1 w2 w3 w4 L pB base v3 a4 c4 HO1.out HOr.out HoG.out HO3.out Hown3.out HG4.out HB4.out HO4.out HAE.out.1 HAE.out.2 HLs.out hpb hbase hA11⟩
end Go.Proofs.Ytpfcoeenblmifaa
