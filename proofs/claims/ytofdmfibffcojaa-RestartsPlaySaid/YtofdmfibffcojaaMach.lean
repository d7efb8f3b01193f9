/-
  restarts.Machine: what its blocks hold, and what its methods do to them.
-/
import Derived.Test.YtofdmfibffcojaaChecked
import Derived.Test.YtofdmfibffcojaaMap
import Derived.BigQuiet
import Derived.StillTailTactics
import Derived.Lib.Hide
import Derived.Handy
namespace Go.Proofs.Ytofdmfibffcojaa
open Go.RowKit Go.PC

def lnk (p : Bool × Bool) : Value := .agg #[.bool p.1, .bool p.2]
theorem zero50 (w : World) : (zeroValue 50).run Try.prog w = .ok (lnk (false, false)) w := by kernel_rfl
def LT : MapTy Try.prog 44 Int (Bool × Bool) := MapTy.int Try.prog 44 26 50 .u16 lnk (false, false) Try.underlying44 Try.underlying26 zero50

/-- A pair of bools that simp doesn't take apart. -/
structure Lk where
  u : Bool
  d : Bool

abbrev Links := Int → Option (Bool × Bool)

theorem wf_u16 {z : Int} (h0 : 0 ≤ z) (h1 : z ≤ 65535) : (Lit.int .u16 z).wf = true := by
  have e1 : IntKind.u16.min = 0 := by decide
  have e2 : IntKind.u16.max = 65535 := by decide
  simp [Lit.wf, e1, e2]
  omega

/-- Block mb is a machine that New has made; its links lie in block lb. -/
def Mach (w : World) (mb lb : Nat) (st base since : Int) (L : Links) (n : Nat) : Prop :=
  w.heap[mb]? = some (.cells #[.bool true, .int .u8 st, .int .i64 base, .int .i64 since, .map (some lb)] 46 (0, 0)) ∧ LT.at w lb L n

section
variable {w w' : World} {mb lb : Nat} {st base since : Int} {L : Links} {n : Nat}

theorem Mach.ne (h : Mach w mb lb st base since L n) : mb ≠ lb := by
  obtain ⟨h1, es, clock, h2, _⟩ := h
  rintro rfl
  rw [h1] at h2
  cases h2

theorem Mach.lt (h : Mach w mb lb st base since L n) : mb < w.heap.size ∧ lb < w.heap.size := ⟨lt_of_heap h.1, h.2.lt⟩

theorem Mach.cells (h : Mach w mb lb st base since L n) :
    w.cell? ⟨mb, 0, none⟩ = some (.bool true) ∧ w.cell? ⟨mb, 1, none⟩ = some (.int .u8 st) ∧ w.cell? ⟨mb, 2, none⟩ = some (.int .i64 base) ∧ w.cell? ⟨mb, 3, none⟩ = some (.int .i64 since) ∧ w.cell? ⟨mb, 4, none⟩ = some (.map (some lb)) := by
  simp [World.cell?, h.1]

theorem Mach.free (h : Mach w mb lb st base since L n) : w.frozen? ⟨mb, 1, none⟩ = false ∧ w.frozen? ⟨mb, 3, none⟩ = false := by
  simp [World.frozen?, h.1]

theorem Mach.only {S : Nat → Prop} (h : Mach w mb lb st base since L n) (ho : Only S w w') (h1 : ¬ S mb) (h2 : ¬ S lb) : Mach w' mb lb st base since L n :=
  ⟨ho.keep h.1 h1, h.2.only ho h2⟩

theorem Mach.links (h : Mach w mb lb st base since L n) {L' : Links} {n' : Nat} (ho : Only (fun i => i = lb) w w') (ha : LT.at w' lb L' n') : Mach w' mb lb st base since L' n' :=
  ⟨ho.keep h.1 h.ne, ha⟩

theorem heap_setCell_at {w : World} {b : Nat} {c : Array Value} {t : TypeId} {f : Nat × Nat} (h : w.heap[b]? = some (.cells c t f)) (i : Nat) (v : Value) : (w.setCell ⟨b, i, none⟩ v).heap[b]? = some (.cells (c.setIfInBounds i v) t f) := by
  have hlt := lt_of_heap h
  have h' : w.heap[b] = .cells c t f := by simpa [Array.getElem?_eq_getElem hlt] using h
  show (w.heap.modify b _)[b]? = _
  rw [Array.getElem?_eq_getElem (by simpa using hlt), Array.getElem_modify_self, h']
  rfl

theorem Mach.setState (h : Mach w mb lb st base since L n) (v : Int) : Mach (w.setCell ⟨mb, 1, none⟩ (.int .u8 v)) mb lb v base since L n :=
  ⟨(heap_setCell_at h.1 _ _).trans rfl, h.2.of_block (Below.heap_setCell _ _ _ _ h.ne.symm)⟩
theorem Mach.setSince (h : Mach w mb lb st base since L n) (v : Int) : Mach (w.setCell ⟨mb, 3, none⟩ (.int .i64 v)) mb lb st base v L n :=
  ⟨(heap_setCell_at h.1 _ _).trans rfl, h.2.of_block (Below.heap_setCell _ _ _ _ h.ne.symm)⟩

/-- A look-up of a link, the value written out. -/
theorem wp_look {ops : Array Oper} {rest : List Oper} {o : Oper} {act : Act} {Q : Exit → Act → World → Prop}
    (hg : o.guard = none) (m x : Operand) (c : Bool) (hop : o.op = Op.lookup 44 m x c) (hm : act.eval m = .map (some lb)) (h : LT.at w lb L n) (a : Int) (hx : act.eval x = .int .u16 a) (ha : (Lit.int .u16 a).wf = true) (u d : Bool) (hp : (L a).getD (false, false) = (u, d))
    (hK : wpList Try.prog ops Q rest (act.put o.dst (if c then .tuple #[.agg #[.bool u, .bool d], .bool (L a).isSome] else .agg #[.bool u, .bool d])) w) :
    wpList Try.prog ops Q (o :: rest) act w := by
  refine wpList_lookup LT w hg m x c hop lb n L hm h a hx ha ?_
  have e : LT.venc ((L a).getD LT.zero) = .agg #[.bool u, .bool d] := by
    show lnk ((L a).getD (false, false)) = _
    rw [hp]; rfl
  rw [e]
  exact hK

theorem wp_store {ops : Array Oper} {rest : List Oper} {o : Oper} {act : Act} {Q : Exit → Act → World → Prop}
    (hg : o.guard = none) (m x y : Operand) (hop : o.op = Op.mapUpdate 44 m x y) (hm : act.eval m = .map (some lb)) (h : LT.at w lb L n) (a : Int) (hx : act.eval x = .int .u16 a) (ha : (Lit.int .u16 a).wf = true) (u d : Bool) (hy : act.eval y = .agg #[.bool u, .bool d])
    (hK : ∀ w', LT.at w' lb (upd L a (some (u, d))) (if (L a).isSome then n else n + 1) → Only (fun i => i = lb) w w' → w'.heap.size = w.heap.size → wpList Try.prog ops Q rest (act.put o.dst undef) w') :
    wpList Try.prog ops Q (o :: rest) act w :=
  wpList_update LT w hg m x y hop lb n L hm h a hx ha (u, d) hy hK

theorem wp_next {ops : Array Oper} {rest : List Oper} {o : Oper} {act : Act} {Q : Exit → Act → World → Prop}
    (hg : o.guard = none) (it : Operand) (hop : o.op = Op.next it false) (r : Nat) (left : Int → Bool) (cnt : Nat) (hit : act.eval it = .pointer (some ⟨r, 0, none⟩)) (h : LT.ranging w lb r L n left cnt)
    (hDone : cnt = 0 → (∀ a, left a = false) → wpList Try.prog ops Q rest (act.put o.dst (.tuple #[.bool false])) w)
    (hMore : ∀ (a : Int) (p : Lk) (w' : World) (cnt' : Nat), (Lit.int .u16 a).wf = true → left a = true → L a = some (p.u, p.d) → LT.ranging w' lb r L n (fun x => left x && !decide (x = a)) cnt' → cnt' < cnt → Only (fun i => i = r) w w' → w'.heap.size = w.heap.size →
      (Instr.entry (.pointer (some ⟨r, 0, none⟩))).run Try.prog w' = .ok (.tuple #[.int .u16 a, .agg #[.bool p.u, .bool p.d]]) w' → wpList Try.prog ops Q rest (act.put o.dst (.tuple #[.bool true, .int .u16 a, .agg #[.bool p.u, .bool p.d]])) w') :
    wpList Try.prog ops Q (o :: rest) act w :=
  wpList_next LT w hg it hop lb r n L left cnt hit h hDone (fun a v w' cnt' h1 h2 h3 h4 h5 h6 h7 h8 => hMore a ⟨v.1, v.2⟩ w' cnt' h1 h2 h3 h4 h5 h6 h7 h8)

/-- State. -/
theorem state_any (h : Mach w mb lb st base since L n) :
    Calls Try.prog 9 #[.pointer (some ⟨mb, 0, none⟩)] w fun e w' => e = .returned (.int .u8 st) ∧ w = w' := by
  obtain ⟨c0, c1, c2, c3, c4⟩ := h.cells
  clear h
  go_enter Try.func9, Try.ntmps9
  go_wp2
  go_ret
  exact ⟨rfl, rfl⟩

theorem check_yes (h : Mach w mb lb st base since L n) (x : Int) (hx : (Lit.int .u16 x).wf = true) (hs : (L x).isSome = true) :
    Calls Try.prog 14 #[.pointer (some ⟨mb, 0, none⟩), .int .u16 x] w fun e w' => e = .returned (.int .i64 0) ∧ Only (fun _ => False) w w' := by
  obtain ⟨c0, c1, c2, c3, c4⟩ := h.cells
  have hat := h.2
  clear h
  obtain ⟨⟨u, d⟩, hp⟩ : ∃ p, (L x).getD (false, false) = p := ⟨_, rfl⟩
  have Hp := Lib.hid hp
  clear hp
  go_enter Try.func14, Try.ntmps14
  go_wp2_with (first
    | (at_lookup; refine wp_look rfl _ _ true rfl rfl hat x rfl hx u d Hp.out ?_)
    | go_in)
  go_ret
  exact ⟨rfl, (Only.refl _ _).alloc _⟩

theorem check_no (h : Mach w mb lb st base since L n) (x : Int) (hx : (Lit.int .u16 x).wf = true) (hs : (L x).isSome = false) :
    Calls Try.prog 14 #[.pointer (some ⟨mb, 0, none⟩), .int .u16 x] w fun e w' => e = .returned (.int .i64 7) ∧ Only (fun _ => False) w w' := by
  obtain ⟨c0, c1, c2, c3, c4⟩ := h.cells
  have hat := h.2
  clear h
  obtain ⟨⟨u, d⟩, hp⟩ : ∃ p, (L x).getD (false, false) = p := ⟨_, rfl⟩
  have Hp := Lib.hid hp
  clear hp
  go_enter Try.func14, Try.ntmps14
  go_wp2_with (first
    | (at_lookup; refine wp_look rfl _ _ true rfl rfl hat x rfl hx u d Hp.out ?_)
    | go_in)
  go_ret
  exact ⟨rfl, (Only.refl _ _).alloc _⟩

end

/-- The tick at which a restart ends at the latest. -/
def dueAt (base since : Int) : Int := if since > 9223372036854775807 - base then 9223372036854775807 else since + base

section
variable {w w' : World} {mb lb : Nat} {st base since : Int} {L : Links} {n : Nat}

theorem due_any (h : Mach w mb lb st base since L n) (hb0 : 0 ≤ base) (hb1 : base ≤ 9223372036854775807) (hs0 : -9223372036854775808 ≤ since) (hs1 : since ≤ 9223372036854775807) :
    Calls Try.prog 15 #[.pointer (some ⟨mb, 0, none⟩)] w fun e w' => e = .returned (.int .i64 (dueAt base since)) ∧ ∃ k, w' = w.drewN k := by
  obtain ⟨c0, c1, c2, c3, c4⟩ := h.cells
  clear h
  by_cases hlt : since > 9223372036854775807 - base
  · have hd : dueAt base since = 9223372036854775807 := if_pos hlt
    have Hd := Lib.hid hd
    clear hd
    go_enter Try.func15, Try.ntmps15
    go_wp2
    go_quiet (fail)
    go_wp2
    go_ret
    exact ⟨by rw [Hd.out]; rfl, _, rfl⟩
  · have hd : dueAt base since = since + base := if_neg hlt
    have Hd := Lib.hid hd
    clear hd
    go_enter Try.func15, Try.ntmps15
    go_wp2
    go_quiet (fail)
    go_wp2
    go_quiet (fail)
    go_wp2
    go_ret
    exact ⟨by rw [Hd.out]; rfl, _, World.drewN_drewN ..⟩
end

end Go.Proofs.Ytofdmfibffcojaa
