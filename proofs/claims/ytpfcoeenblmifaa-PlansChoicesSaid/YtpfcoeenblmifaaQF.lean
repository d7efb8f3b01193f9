/-
  Plans: the law's N.Of: its plain data, and the plan under construction.
-/
import Derived.Test.YtpfcoeenblmifaaQD
namespace Go.Proofs.Ytpfcoeenblmifaa
open Go.RowKit Go.PC

abbrev pls (ps : List (Int × Bool)) : List Value := ps.flatMap fun p => [.int .u16 p.1, .bool p.2]
theorem pls_len (ps : List (Int × Bool)) : (pls ps).length = ps.length * 2 := by
  induction ps with
  | nil => rfl
  | cons x xs ih => simp only [pls, List.flatMap_cons, List.length_append, List.length_cons, List.length_nil] at ih ⊢; omega
theorem pls_append (xs ys : List (Int × Bool)) : pls (xs ++ ys) = pls xs ++ pls ys := by simp [pls]
theorem pls_at {xs : List (Int × Bool)} : ∀ {i : Nat} {p : Int × Bool}, xs[i]? = some p → (pls xs)[i * 2]? = some (.int .u16 p.1) ∧ (pls xs)[i * 2 + 1]? = some (.bool p.2) := by
  induction xs with
  | nil => intro i p h; simp at h
  | cons x xs ih =>
    intro i p h
    cases i with
    | zero => simp at h; subst h; exact ⟨rfl, rfl⟩
    | succ i =>
      have h' : xs[i]? = some p := by simpa using h
      obtain ⟨h1, h2⟩ := ih h'
      have e1 : (i + 1) * 2 = i * 2 + 1 + 1 := by omega
      rw [e1]
      exact ⟨h1, h2⟩

/-- The law's plan as plain data. -/
structure Nx where
  many : Int
  codes : List Int
  ends : Int
  tree : List Int
  ex : List (Int × Int × Int)
  rate : Int
  room : Int
  k0 : Int
  k1 : Int

def U8 (z : Int) : Prop := 0 ≤ z ∧ z ≤ 255
structure NxOK (x : Nx) : Prop where
  many : U8 x.many
  codes : x.codes.length = 6 ∧ ∀ z ∈ x.codes, U8 z
  ends : U8 x.ends
  tree : x.tree.length = 6 ∧ ∀ z ∈ x.tree, U8 z
  ex : ∀ z ∈ x.ex, U8 z.1 ∧ U8 z.2.1 ∧ U8 z.2.2
  rate : U8 x.rate
  room : U8 x.room
  k0 : U8 x.k0
  k1 : U8 x.k1

abbrev nxCells (x : Nx) (v : Value) : List Value :=
  .int .u8 x.many :: (x.codes.map (.int .u8 ·) ++ .int .u8 x.ends :: (x.tree.map (.int .u8 ·) ++ [v, .int .u8 x.rate, .int .u8 x.room, .int .u8 x.k0, .int .u8 x.k1]))

def nxN (x : Nx) : Nat := (2 + x.many % 5).toNat
/-- The place number i. -/
def plc (x : Nx) (i : Nat) : Int × Bool := (10 * (i : Int) + x.codes.getD i 0 % 10, bits BinOp.and IntKind.u8 (x.ends / 2 ^ i) 1 == 0)
def plcs (x : Nx) (k : Nat) : List (Int × Bool) := (List.range k).map (plc x)

theorem cutX3 {α β γ : Type} {F G : α → β → γ → Prop} {R : Prop} (h : Hid (∀ x y z, F x y z → G x y z) → R) (hx : ∀ x y z, F x y z → G x y z) : R := h (Lib.hid hx)

theorem code_wrap (k : Nat) (c : Int) (hk : k < 6) (hc : U8 c) : IntKind.u16.wrap (IntKind.i64.wrap (IntKind.i64.wrap (10 * ↑k) + IntKind.i64.wrap (c.tmod 10))) = 10 * (k : Int) + c % 10 := by
  obtain ⟨h1, h2⟩ := hc
  have e1 : c.tmod 10 = c % 10 := Int.tmod_eq_emod_of_nonneg h1
  have e2 : IntKind.i64.wrap (c % 10) = c % 10 := IntWalk.i64_in _ (by omega)
  have e3 : IntKind.i64.wrap (10 * (k : Int)) = 10 * (k : Int) := IntWalk.i64_in _ (by omega)
  have e4 : IntKind.i64.wrap (10 * (k : Int) + c % 10) = 10 * (k : Int) + c % 10 := IntWalk.i64_in _ (by omega)
  have e5 : IntKind.u16.wrap (10 * (k : Int) + c % 10) = 10 * (k : Int) + c % 10 := IntWalk.u16_in _ (by omega)
  rw [e1, e2, e3, e4, e5]

theorem plcs_step (X : Nx) (k : Nat) (D : Int) (T : Bool) (c ends : Int) (h1 : X.codes.getD k 0 = c) (h2 : D = 10 * (k : Int) + c % 10) (h4 : X.ends = ends) (h3 : (bits BinOp.and IntKind.u8 (ends / 2 ^ k) 1 == 0) = T) : pls (plcs X (k + 1)) = pls (plcs X k) ++ [.int .u16 D, .bool T] := by
  have e : plc X k = (D, T) := by
    unfold plc
    rw [h1, h4, h3, h2]
  unfold plcs
  rw [List.range_succ, List.map_append, pls_append, List.map_cons, List.map_nil, e]
  rfl

theorem infoPlace : (Try.prog.info? 36).map (fun i => (i.zero, i.size, i.bytes)) = some (some (.agg #[.int .u16 0, .bool false]), 2, 4) := by kernel_rfl

theorem cells_new_drew (w : World) (xs : List Value) (t : TypeId) (s : Nat) (hs : w.heap.size = s) : ∀ j u, xs[j]? = some u → (w.alloc (.cells xs.toArray t)).drew.cell? ((⟨s, 0, none⟩ : Addr).add j) = some u :=
  cells_new w xs t s hs


theorem plcs_length (X : Nx) (k : Nat) : (plcs X k).length = k := by simp [plcs]
theorem plcs_get {X : Nx} {n k : Nat} (h : k < n) : (plcs X n)[k]? = some (plc X k) := by simp [plcs, List.getElem?_range h]
theorem codes_at {X : Nx} (h : NxOK X) (k : Nat) : 0 ≤ X.codes.getD k 0 := by
  rw [List.getD_eq_getElem?_getD]
  cases hk : X.codes[k]? with
  | none => simp
  | some z => exact (h.codes.2 z (List.mem_of_getElem? hk)).1
theorem plc_bounds {X : Nx} (h : NxOK X) (k : Nat) : 10 * (k : Int) ≤ (plc X k).1 ∧ (plc X k).1 ≤ 10 * k + 9 := by
  have := codes_at h k
  unfold plc
  simp only
  omega
theorem plcs_asc {X : Nx} (h : NxOK X) (n : Nat) : Asc (plcs X n) := by
  unfold Asc plcs
  rw [List.pairwise_map]
  exact List.pairwise_lt_range.imp (fun {i j} hij => by have h1 := plc_bounds h i; have h2 := plc_bounds h j; omega)

/-- What the lines fulfill. -/
structure LsOK (ps : List (Int × Bool)) (ls : List Ln) : Prop where
  good : Good ls
  ok : ∀ l ∈ ls, l.a < l.b ∧ 0 ≤ l.a ∧ l.b ≤ 16383 ∧ 1 ≤ l.d ∧ l.d ≤ 3 ∧ 0 ≤ l.c ∧ l.c ≤ ls.length ∧ hasCode ps l.a = true ∧ hasCode ps l.b = true

theorem LsOK.nil (ps : List (Int × Bool)) : LsOK ps [] := ⟨Good.nil, fun _ h => by cases h⟩

theorem hasCode_of {ps : List (Int × Bool)} {i : Nat} {x : Int × Bool} (h : ps[i]? = some x) : hasCode ps x.1 = true := by
  unfold hasCode
  rw [List.any_eq_true]
  exact ⟨x, List.mem_of_getElem? h, by simp⟩

theorem LsOK.insert {ps : List (Int × Bool)} {ls : List Ln} (h : LsOK ps ls) (ha : Asc ps) {lo hi : Nat} {x y : Int × Bool} (hx : ps[lo]? = some x) (hy : ps[hi]? = some y) (hlh : lo < hi) (hb : ∀ p ∈ ps, 0 ≤ p.1 ∧ p.1 ≤ 16383) (d : Int) (hd : 1 ≤ d ∧ d ≤ 3) :
    LsOK ps (insLn ls x.1 y.1 d) := by
  refine ⟨h.good.insert _ _ _, fun l hl => ?_⟩
  rw [insLn_length]
  rcases insLn_mem.1 hl with rfl | hl
  · have := ha.lt hx hy hlh
    have b1 := hb _ (List.mem_of_getElem? hx)
    have b2 := hb _ (List.mem_of_getElem? hy)
    have hc := List.countP_le_length (p := eqAB x.1 y.1) (l := ls)
    exact ⟨this, b1.1, b2.2, hd.1, hd.2, by simp, by simp only; omega, hasCode_of hx, hasCode_of hy⟩
  · obtain ⟨a1, a2, a3, a4, a5, a6, a7, a8, a9⟩ := h.ok l hl
    exact ⟨a1, a2, a3, a4, a5, a6, by omega, a8, a9⟩

/-- The plan under construction. -/
structure PSt (w : World) (pB base gp vc : Nat) (ps : List (Int × Bool)) (ls : List Ln) : Prop where
  box : ∃ vL, w.heap[pB]? = some (.cells (boxP (some ⟨gp, 0, none⟩) ps.length vc vL) 31) ∧ w.ownsRow base 57 4 vL ls.length (lns ls)
  row : Row w gp 36 (vc * 2) (pls ps)
  ok : LsOK ps ls

/-- The law's further lines, where they lie. -/
def RdE (w : World) (a : Option Addr) (ex : List (Int × Int × Int)) : Prop :=
  ex = [] ∨ ∃ b off, a = some ⟨b, off, none⟩ ∧ ∀ i z, ex[i]? = some z → w.cell? ⟨b, off + i * 3, none⟩ = some (.int .u8 z.1) ∧ w.cell? ⟨b, off + i * 3 + 1, none⟩ = some (.int .u8 z.2.1) ∧ w.cell? ⟨b, off + i * 3 + 2, none⟩ = some (.int .u8 z.2.2)

theorem tree_wrap (t : Int) (j : Nat) (hj : 1 ≤ j) (ht : U8 t) : (wrap64 t).tmod j = (((t % j).toNat : Nat) : Int) ∧ (t % j).toNat < j := by
  obtain ⟨h1, h2⟩ := ht
  have e : wrap64 t = t := IntWalk.wrap64_in t (by omega)
  have e2 : t.tmod j = t % j := Int.tmod_eq_emod_of_nonneg h1
  have h3 := Int.emod_nonneg t (b := (j : Int)) (by omega)
  have h4 := Int.emod_lt_of_pos t (b := (j : Int)) (by omega)
  rw [e, e2]
  omega

theorem marks_vals (room k0 k1 : Int) (h7 : U8 room) (h8 : U8 k0) (h9 : U8 k1) : ∃ M M2 K m0 m01 M1 M3 K1 m1 : Int, wrap64 (3 + wrap64 (room.tmod 6)) = M ∧ wrap64 (M - 2) = M2 ∧ (wrap64 k0).tmod M2 = K ∧ wrap64 (1 + K) = m0 ∧ wrap64 (m0 + 1) = m01 ∧ wrap64 (M - 1) = M1 ∧
    wrap64 (M1 - m0) = M3 ∧ (wrap64 k1).tmod M3 = K1 ∧ wrap64 (m01 + K1) = m1 ∧ M2 ≠ 0 ∧ M3 ≠ 0 ∧ (3 ≤ M ∧ M ≤ 8 ∧ 1 ≤ m0 ∧ m0 < m1 ∧ m1 < M) := by
  obtain ⟨a1, a2⟩ := h7
  obtain ⟨b1, b2⟩ := h8
  obtain ⟨d1, d2⟩ := h9
  have e1 : room.tmod 6 = room % 6 := Int.tmod_eq_emod_of_nonneg a1
  have e2 : wrap64 (room % 6) = room % 6 := IntWalk.wrap64_in _ (by omega)
  have e3 : wrap64 (3 + room % 6) = 3 + room % 6 := IntWalk.wrap64_in _ (by omega)
  obtain ⟨M, hM, hMb⟩ : ∃ M, 3 + room % 6 = M ∧ 3 ≤ M ∧ M ≤ 8 := ⟨_, rfl, by omega⟩
  have e4 : wrap64 (M - 2) = M - 2 := IntWalk.wrap64_in _ (by omega)
  have e5 : wrap64 k0 = k0 := IntWalk.wrap64_in _ (by omega)
  have e6 : wrap64 k1 = k1 := IntWalk.wrap64_in _ (by omega)
  have e7 : k0.tmod (M - 2) = k0 % (M - 2) := Int.tmod_eq_emod_of_nonneg b1
  have f1 := Int.emod_nonneg k0 (b := M - 2) (by omega)
  have f2 := Int.emod_lt_of_pos k0 (b := M - 2) (by omega)
  obtain ⟨K, hK, hKb⟩ : ∃ K, k0 % (M - 2) = K ∧ 0 ≤ K ∧ K < M - 2 := ⟨_, rfl, f1, f2⟩
  have e8 : wrap64 (1 + K) = 1 + K := IntWalk.wrap64_in _ (by omega)
  have e9 : wrap64 (1 + K + 1) = 1 + K + 1 := IntWalk.wrap64_in _ (by omega)
  have e10 : wrap64 (M - 1) = M - 1 := IntWalk.wrap64_in _ (by omega)
  have e11 : wrap64 (M - 1 - (1 + K)) = M - 1 - (1 + K) := IntWalk.wrap64_in _ (by omega)
  have e12 : k1.tmod (M - 1 - (1 + K)) = k1 % (M - 1 - (1 + K)) := Int.tmod_eq_emod_of_nonneg d1
  have f3 := Int.emod_nonneg k1 (b := M - 1 - (1 + K)) (by omega)
  have f4 := Int.emod_lt_of_pos k1 (b := M - 1 - (1 + K)) (by omega)
  obtain ⟨K1, hK1, hK1b⟩ : ∃ K1, k1 % (M - 1 - (1 + K)) = K1 ∧ 0 ≤ K1 ∧ K1 < M - 1 - (1 + K) := ⟨_, rfl, f3, f4⟩
  have e13 : wrap64 (1 + K + 1 + K1) = 1 + K + 1 + K1 := IntWalk.wrap64_in _ (by omega)
  exact ⟨M, M - 2, K, 1 + K, 1 + K + 1, M - 1, M - 1 - (1 + K), K1, 1 + K + 1 + K1, by rw [e1, e2, e3, hM], e4, by rw [e5, e7, hK], e8, e9, e10, e11, by rw [e6, e12, hK1], e13, by omega, by omega, by omega⟩

theorem rate_val (rate : Int) (h : U8 rate) : ∃ R : Int, wrap64 (1 + wrap64 (rate.tmod 3)) = R ∧ 1 ≤ R ∧ R ≤ 3 := by
  obtain ⟨a1, a2⟩ := h
  have e1 : rate.tmod 3 = rate % 3 := Int.tmod_eq_emod_of_nonneg a1
  have e2 : wrap64 (rate % 3) = rate % 3 := IntWalk.wrap64_in _ (by omega)
  exact ⟨_, rfl, by rw [e1, e2, IntWalk.wrap64_in _ (by omega)]; omega, by rw [e1, e2, IntWalk.wrap64_in _ (by omega)]; omega⟩

theorem own_set {w : World} {base n size pB i : Nat} {e : TypeId} {v u : Value} {xs : List Value} (h : w.ownsRow base e size v n xs) (hb : pB < base) : (w.setCell ⟨pB, i, none⟩ u).ownsRow base e size v n xs :=
  h.kept (row := some pB) ⟨rfl, rfl, rfl, by simp, fun j _ hne => RowKit.Below.heap_setCell w ⟨pB, i, none⟩ _ j (fun h => hne (by simp at h; rw [h]))⟩ (by
    cases hv : v.ownBlock with
    | none => exact Or.inl rfl
    | some q => exact Or.inr (fun h' => by have := (h.lt q hv).1; injection h' with h'; omega))

theorem mk_ok {X : Nx} (h : NxOK X) {j : Nat} (hj : 2 ≤ j ∧ j ≤ 6) {ls : List Ln} (hl : LsOK (plcs X j) ls) (hn : ls.length ≤ 11) {R M m0 m1 : Int} (hb : (1 ≤ R ∧ R ≤ 3) ∧ (3 ≤ M ∧ M ≤ 8 ∧ 1 ≤ m0 ∧ m0 < m1 ∧ m1 < M)) :
    PlanOK ⟨plcs X j, ls, R, M, m0, m1, M⟩ where
  ne := fun he => by have := congrArg List.length he; simp only [plcs_length, List.length_nil] at this; omega
  np := by simp only [plcs_length]; omega
  asc := plcs_asc h j
  codes := fun p hp => by
    obtain ⟨i, hi⟩ := List.mem_iff_getElem?.1 hp
    have hik := (List.getElem?_eq_some_iff.1 hi).1
    simp only [plcs_length] at hik
    simp only [plcs_get hik] at hi
    cases hi
    have := plc_bounds h i
    omega
  nl := by simp only; omega
  lines := fun l hl' => by
    obtain ⟨a1, a2, a3, a4, a5, a6, a7, _⟩ := hl.ok l hl'
    exact ⟨a1, a2, by omega, a6, by omega, a4, by omega⟩
  sorted := hl.good.lt
  ends := fun l hl' => (hl.ok l hl').2.2.2.2.2.2.2
  rate := by simp only; omega
  room := by simp only; omega
  marks := by simp only; omega

theorem rdP_of_row {w : World} {g N : Nat} {ps : List (Int × Bool)} (h : Row w g 36 N (pls ps)) : RdP w (some ⟨g, 0, none⟩) ps :=
  Or.inr ⟨g, 0, rfl, fun i p hp => by
    rw [Nat.zero_add]
    obtain ⟨h1, h2⟩ := pls_at hp
    exact ⟨h.cell h1, h.cell h2⟩⟩

/-- The last stores: two marks, then the result. -/
abbrev fin9 (w6 : World) (B : Nat) (u5 u6 v0 v1 v2 v3 v4 v5 v6 : Value) : World :=
  ((((((((w6.setCell ⟨B + 2, 5, none⟩ u5).setCell ⟨B + 2, 6, none⟩ u6).setCell ⟨B + 1, 0, none⟩ v0).setCell ⟨B + 1, 1, none⟩ v1).setCell ⟨B + 1, 2, none⟩ v2).setCell ⟨B + 1, 3, none⟩ v3).setCell ⟨B + 1, 4, none⟩ v4).setCell ⟨B + 1, 5, none⟩ v5).setCell ⟨B + 1, 6, none⟩ v6

theorem final_row {w6 : World} {B : Nat} (u5 u6 v0 v1 v2 v3 v4 v5 v6 : Value) {z0 z1 z2 z3 z4 z5 z6 : Value} (h : w6.heap[B + 1]? = some (.cells #[z0, z1, z2, z3, z4, z5, z6] 31)) :
    (fin9 w6 B u5 u6 v0 v1 v2 v3 v4 v5 v6).heap[B + 1]? = some (.cells #[v0, v1, v2, v3, v4, v5, v6] 31) := by
  have ho : Only (fun i => i = B + 2) w6 ((w6.setCell ⟨B + 2, 5, none⟩ u5).setCell ⟨B + 2, 6, none⟩ u6) := ((Only.refl (fun i => i = B + 2) w6).setCell (p := ⟨B + 2, 5, none⟩) u5 (fun _ => rfl)).setCell (p := ⟨B + 2, 6, none⟩) u6 (fun _ => rfl)
  have h0 := ho.keep h (by simp)
  have h7 := Go.heap_setCell_same _ (B + 1) 6 _ _ v6 (Go.heap_setCell_same _ (B + 1) 5 _ _ v5 (Go.heap_setCell_same _ (B + 1) 4 _ _ v4 (Go.heap_setCell_same _ (B + 1) 3 _ _ v3 (Go.heap_setCell_same _ (B + 1) 2 _ _ v2 (Go.heap_setCell_same _ (B + 1) 1 _ _ v1 (Go.heap_setCell_same _ (B + 1) 0 _ _ v0 h0))))))
  rw [h7]
  rfl

theorem final_only (w6 : World) (B : Nat) (u5 u6 v0 v1 v2 v3 v4 v5 v6 : Value) : Only (fun i => i = B + 2 ∨ i = B + 1) w6 (fin9 w6 B u5 u6 v0 v1 v2 v3 v4 v5 v6) :=
  only_set7 (((Only.refl (fun i => i = B + 2 ∨ i = B + 1) w6).setCell (p := ⟨B + 2, 5, none⟩) u5 (fun _ => Or.inl rfl)).setCell (p := ⟨B + 2, 6, none⟩) u6 (fun _ => Or.inl rfl)) (B + 1) (Or.inr rfl) v0 v1 v2 v3 v4 v5 v6

theorem final_own {w6 : World} {B n size : Nat} {e : TypeId} {v : Value} {xs : List Value} (u5 u6 v0 v1 v2 v3 v4 v5 v6 : Value) (h : w6.ownsRow (B + 3) e size v n xs) : (fin9 w6 B u5 u6 v0 v1 v2 v3 v4 v5 v6).ownsRow (B + 3) e size v n xs :=
  own_set (own_set (own_set (own_set (own_set (own_set (own_set (own_set (own_set h (by omega)) (by omega)) (by omega)) (by omega)) (by omega)) (by omega)) (by omega)) (by omega)) (by omega)

theorem add_st {w : World} {pB base gp vc : Nat} {ps : List (Int × Bool)} {ls : List Ln} (h : PSt w pB base gp vc ps ls) (hbase : base ≤ w.heap.size) (hpb : pB < base) (hgp : base ≤ gp) (ha : Asc ps) (hb : ∀ p ∈ ps, 0 ≤ p.1 ∧ p.1 ≤ 16383)
    (hl : ls.length ≤ 11) (lo hi : Nat) (hlh : lo < hi) (hhi : hi < ps.length) (d : Int) (hd : 0 ≤ d ∧ d ≤ 255) (i j : Int) (hij : (i = lo ∧ j = hi) ∨ (i = hi ∧ j = lo)) :
    Calls Try.prog 22 #[.int .i64 i, .int .i64 j, .int .u8 d, .pointer (some ⟨pB, 0, none⟩)] w fun e w' => e = .returned (.tuple #[]) ∧ Only (fun i => i = pB) w w' ∧ ∃ ls', ls'.length = ls.length + 1 ∧ PSt w' pB base gp vc ps ls' := by
  obtain ⟨vL, hB, hown⟩ := h.box
  have hx : ps[lo]? = some ps[lo] := List.getElem?_eq_getElem (by omega)
  have hy : ps[hi]? = some ps[hi] := List.getElem?_eq_getElem hhi
  refine (add_ok pB base gp 0 vc ps vL ls lo hi d ps[lo] ps[hi] w hB (fun i p hp => ?_) hown hbase hpb hlh hx hy h.ok.good.sorted hl hd i j hij).mono ?_
  · rw [Nat.zero_add]
    obtain ⟨h1, h2⟩ := pls_at hp
    exact ⟨h.row.cell h1, h.row.cell h2⟩
  · rintro e w' ⟨rfl, ho, v', hB', hown'⟩
    refine ⟨rfl, ho, insLn ls ps[lo].1 ps[hi].1 (1 + d % 3), insLn_length _ _ _ _, ⟨v', hB', ?_⟩, h.row.only ho (by omega), h.ok.insert ha hx hy hlh hb _ (by omega)⟩
    rw [insLn_length]
    exact hown'

end Go.Proofs.Ytpfcoeenblmifaa
