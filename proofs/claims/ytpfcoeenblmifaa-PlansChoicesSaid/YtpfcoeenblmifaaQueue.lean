/-
  A row that begins inside a block, and one element more of it; copy into a row. No program is named here.
-/
import Derived.Test.YtpfcoeenblmifaaDedup
import Derived.Laws.AppendOwn
import Derived.Tactics
namespace Go.PC

/-- xs lie at o of block g; from o on the block has cap cells. -/
def QRow (w : World) (g o cap : Nat) (e : TypeId) (xs : List Value) : Prop :=
  ∃ cur, w.heap[g]? = some (.cells cur e (0, 0)) ∧ o + cap ≤ cur.size ∧ (cur.toList.drop o).take xs.length = xs ∧ xs.length ≤ cap ∧ cap ≤ maxLen

section
variable {P : Program} {w w' : World} {g o cap : Nat} {e : TypeId} {xs : List Value}

theorem QRow.lt (h : QRow w g o cap e xs) : g < w.heap.size := by
  obtain ⟨cur, hg, _⟩ := h
  exact lt_of_heap hg

theorem QRow.cell (h : QRow w g o cap e xs) {i : Nat} {v : Value} (hv : xs[i]? = some v) : w.cell? ⟨g, o + i, none⟩ = some v := by
  obtain ⟨cur, hg, hs, ht, _⟩ := h
  rw [cell_of_row w g (o + i) cur e (0, 0) hg]
  have hi := (List.getElem?_eq_some_iff.1 hv).1
  rw [← ht, List.getElem?_take, if_pos hi, List.getElem?_drop] at hv
  simpa using hv

theorem QRow.only {S : Nat → Prop} (h : QRow w g o cap e xs) (ho : Only S w w') (hS : ¬ S g) : QRow w' g o cap e xs := by
  obtain ⟨cur, hg, hs⟩ := h
  exact ⟨cur, (ho.block g (lt_of_heap hg) hS).trans hg, hs⟩

theorem QRow.tail {x : Value} (h : QRow w g o cap e (x :: xs)) : QRow w g (o + 1) (cap - 1) e xs := by
  obtain ⟨cur, hg, hs, ht, hl, hm⟩ := h
  simp only [List.length_cons] at hl ht
  refine ⟨cur, hg, by omega, ?_, by omega, by omega⟩
  have := congrArg (List.drop 1) ht
  rw [List.drop_take, List.drop_drop] at this
  simpa using this

theorem QRow.none (h : QRow w g o cap e xs) : QRow w g o 0 e [] := by
  obtain ⟨cur, hg, hs, ht, hl, hm⟩ := h
  exact ⟨cur, hg, by omega, rfl, Nat.le_refl _, by omega⟩

theorem run_append_q (t ty : TypeId) (i : TypeInfo) (z : Value) (ht : P.underlying t = some (.slice e)) (hi : P.info? e = some i) (hz : i.zero = some z) (hsize : i.size = 1) (hzs : z.cells.size = 1)
    (hq : QRow w g o cap e xs) (a : Addr) (c : Nat) (x : Value) (hx : w.cell? a = some x) (h1 : x.oneCell' = true) (hn : xs.length + 1 ≤ maxLen) (hb : (xs.length + 1) * i.bytes ≤ 140737488355328) :
    ∃ g' o' cap' w', (Builtin.append_ #[t, t] ty #[.slice (some ⟨g, o, none⟩) xs.length cap, .slice (some a) 1 c]).run P w = .ok (.slice (some ⟨g', o', none⟩) (xs.length + 1) cap') w' ∧ QRow w' g' o' cap' e (xs ++ [x]) ∧ Only (fun i => i = g) w w' ∧ (g' = g ∨ g' = w.heap.size) := by
  obtain ⟨cur, hg, hs, htk, hl, hm⟩ := hq
  have hnews : ∀ j u, [x][j]? = some u → w.cell? (a.add j) = some u := by
    intro j u hj
    match j, hj with
    | 0, hj =>
      simp at hj
      subst hj
      rwa [show a.add 0 = a by unfold Addr.add; split <;> simp_all]
  by_cases hroom : xs.length + 1 ≤ cap
  · have hf := run_firstCells_some (P := P) w 1 1 a 1 c [x] rfl hnews
    have hst := run_storeCells_at P g (o + xs.length) e [x] 0 cur w hg (by simp; omega) (by simpa using h1)
    simp only [Nat.add_zero] at hst
    have hrun : (Builtin.append_ #[t, t] ty #[.slice (some ⟨g, o, none⟩) xs.length cap, .slice (some a) 1 c]).run P w = .ok (.slice (some ⟨g, o, none⟩) (xs.length + 1) cap) (w.setRow g (cur.toList.take (o + xs.length) ++ [x] ++ cur.toList.drop (o + xs.length + [x].length)).toArray) := by
      simp [Builtin.append_, run_underlying ht, sizeOf, typeInfo, hi, Builtin.lenOf, hroom, Addr.add_lit, hsize, hf]
      simp only [List.length_singleton, List.append_assoc, List.singleton_append] at hst
      rw [hst]
      rfl
    refine ⟨g, o, cap, _, hrun, ⟨_, setRow_heap w g cur _ e _ hg, by simp; omega, ?_, by simp; omega, hm⟩, ⟨rfl, rfl, rfl, by simp [World.setRow], fun k _ hk => setRow_other w g k _ hk⟩, Or.inl rfl⟩
    have hA : (cur.toList.take (o + xs.length)).drop o = xs := by rw [List.drop_take, Nat.add_sub_cancel_left]; exact htk
    simp only [List.append_assoc]
    rw [List.drop_append_of_le_length (by simp; omega), hA, ← List.append_assoc, List.take_left' (by simp)]
  · have hcap : xs.length = cap := by omega
    have hnews' := hnews
    have hxl : (xs.length + 1 : Int) ≤ 9223372036854775807 := by simp only [maxLen] at hn; omega
    have hr := run_append_grow (P := P) w t ty e i z ht hi hz ⟨g, o, none⟩ xs.length cap xs (by rw [hsize]; simp) (fun j v hj => by
      rw [show (⟨g, o, none⟩ : Addr).add j = ⟨g, o + j, none⟩ from Addr.add_lit g o j]
      exact QRow.cell ⟨cur, hg, hs, htk, hl, hm⟩ hj) a 1 c [x] (by rw [hsize]; rfl) hnews (by omega) (by omega) (growslice_fits (by omega) hb)
    have hge := grownCap_ge w (xs.length + 1) cap e
    have hcm : grownCap w (xs.length + 1) cap e ≤ maxLen := grownCap_le_maxLen w (xs.length + 1) cap e hn
    refine ⟨w.heap.size, 0, grownCap w (xs.length + 1) cap e, _, hr, ⟨_, heap_alloc_new w.drew _, ?_, ?_, by simpa using hge, hcm⟩, ⟨rfl, rfl, rfl, by simp, fun k hk _ => heap_alloc_old w.drew _ k hk⟩, Or.inr rfl⟩
    · simp only [Array.size_append, List.size_toArray, List.length_singleton, size_zeroCells, hzs]
      omega
    · rw [List.drop_zero, Array.toList_append, Array.toList_append, List.take_left' (by simp)]

/-- append at the operation. -/
theorem wpList_append_q {ops : Array Oper} {rest : List Oper} {op : Oper} {a : Act} {Q : Exit → Act → World → Prop} (hgd : op.guard = none) (s x : Operand) (t : TypeId)
    (ho : op.op = .call { callee := .builtin .append, args := #[s, x], argTypes := #[t, t] })
    (i : TypeInfo) (z : Value) (ht : P.underlying t = some (.slice e)) (hi : P.info? e = some i) (hz : i.zero = some z) (hsize : i.size = 1) (hzs : z.cells.size = 1)
    (hq : QRow w g o cap e xs) (n : Nat) (hxn : xs.length = n) (hs : a.eval s = .slice (some ⟨g, o, none⟩) n cap) (ad : Addr) (c : Nat) (y : Value) (hx : a.eval x = .slice (some ad) 1 c) (hy : w.cell? ad = some y) (h1 : y.oneCell' = true) (hn : n + 1 ≤ maxLen) (hb : (n + 1) * i.bytes ≤ 140737488355328)
    (h : ∀ g' o' cap' w', QRow w' g' o' cap' e (xs ++ [y]) → Only (fun i => i = g) w w' → (g' = g ∨ g' = w.heap.size) → wpList P ops Q rest (a.put op.dst (.slice (some ⟨g', o', none⟩) (n + 1 : Nat) cap')) w') :
    wpList P ops Q (op :: rest) a w := by
  subst hxn
  refine wpList_plain hgd fun K hK => ?_
  obtain ⟨g', o', cap', w', hr, h2, h3, h4⟩ := run_append_q (P := P) t op.type i z ht hi hz hsize hzs hq ad c y hy h1 hn hb
  unfold Oper.wp execOp
  simp only [ho, resolve, invoke, builtin, Sem.run_bind, Sem.run_pure, Result.andThen_ok, List.map_toArray, List.map_cons, List.map_nil, hs, hx, hr]
  exact hK _ _ (h g' o' cap' w' h2 h3 h4)

/-- copy behind what a row holds. -/
theorem run_copy_behind {N : Nat} (dT sT ty : TypeId) (hu : P.underlying dT = some (.slice e)) (hs : (P.info? e).map (·.size) = some 1) (hr : Row w g e N xs) (a : Addr) (dLen dCap sLen sCap : Nat) (cs : List Value)
    (hn : cs.length = Nat.min sLen dLen) (hsrc : ∀ j v, cs[j]? = some v → w.cell? (a.add j) = some v) (hfit : xs.length + cs.length ≤ N) (h1 : ∀ v ∈ cs, v.oneCell' = true) :
    ∃ w', (Builtin.copy_ #[dT, sT] ty #[.slice (some ⟨g, xs.length, none⟩) dLen dCap, .slice (some a) sLen sCap]).run P w = .ok (goInt cs.length) w' ∧ Row w' g e N (xs ++ cs) ∧ Only (fun i => i = g) w w' := by
  obtain ⟨cur, hg, hsz, ht⟩ := hr
  refine ⟨_, run_copy_row (P := P) w dT sT ty e g xs.length dLen dCap a sLen sCap cur e cs hu hs hg hn hsrc (by omega) h1, ⟨_, setRow_heap w g cur _ e _ hg, by simp; omega, ?_⟩, ⟨rfl, rfl, rfl, by simp [World.setRow], fun k _ hk => setRow_other w g k _ hk⟩⟩
  rw [ht, List.take_left' (by simp)]
end
end Go.PC
