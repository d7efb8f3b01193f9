import Derived.Test.YtcokmnpgeokfpaaDoorAmSem
/- The abstract machine's operations and the model's: cells. -/
set_option linter.unusedVariables false
set_option linter.unusedSimpArgs false
namespace Go
namespace Am
section
variable {P : Program} {w0 : World} {S : Own} {σ : AW} {ρ : Rho} {w : World}

theorem run_isAggT {t : TypeId} {b : Bool} (h : isAggT P t = some b) (w : World) : (isAgg t).run P w = .ok b w := by
  unfold isAggT at h
  cases hu : P.underlying t with
  | none => rw [hu] at h; exact absurd h (by simp)
  | some d =>
    rw [hu] at h
    cases d <;> simp at h <;> subst h <;> simp [isAgg, run_underlying hu]

theorem run_sizeT {t : TypeId} {n : Nat} (h : sizeT P t = some n) (w : World) : (sizeOf t).run P w = .ok n w := by
  unfold sizeT at h
  cases hi : P.info? t with
  | none => rw [hi] at h; exact absurd h (by simp)
  | some i => rw [hi] at h; simp at h; subst h; simp [sizeOf, typeInfo, hi]

theorem run_zeroT {t : TypeId} {z : Value} (h : zeroT P t = some z) (w : World) : (zeroValue t).run P w = .ok z w := by
  unfold zeroT at h
  cases hi : P.info? t with
  | none => rw [hi] at h; exact absurd h (by simp)
  | some i =>
    rw [hi] at h
    simp only [Option.bind_some] at h
    split at h
    · rename_i z' hz
      split at h
      · cases h; simp [zeroValue, typeInfo, hi, hz]
      · exact absurd h (by simp)
    · exact absurd h (by simp)

theorem zeroT_plain {t : TypeId} {z : Value} (h : zeroT P t = some z) : plain z = true := by
  unfold zeroT at h
  split at h
  · split at h
    · cases h; assumption
    · exact absurd h (by simp)
  · exact absurd h (by simp)

theorem add_none (b o n : Nat) : (⟨b, o, none⟩ : Addr).add n = ⟨b, o + n, none⟩ := by unfold Addr.add; split <;> simp_all

theorem cell_at {w : World} {b : Nat} {c : Array Value} {e : TypeId} {fr : Nat × Nat} (h : w.heap[b]? = some (.cells c e fr)) (o : Nat) : w.cell? ⟨b, o, none⟩ = c[o]? := by
  simp [World.cell?, h]

theorem pieces_eq {cs l : List Value} {off n : Nat} (h : pieces cs off n = some l) : off + n ≤ cs.length ∧ l = (cs.drop off).take n := by
  unfold pieces at h
  split at h
  · rename_i hb
    cases h
    exact ⟨by simpa using hb, rfl⟩
  · exact absurd h (by simp)

theorem rd_inv {id off n : Nat} {l : List Value} (h : rdCells σ id off n = some l) : ∃ cs e k, σ.get id = some (.cells cs e k) ∧ off + n ≤ cs.length ∧ l = (cs.drop off).take n := by
  unfold rdCells at h
  split at h
  · rename_i cs e k hg
    obtain ⟨a, b⟩ := pieces_eq h
    exact ⟨cs, e, k, hg, a, b⟩
  · exact absurd h (by simp)

theorem rd_len {id off n : Nat} {l : List Value} (h : rdCells σ id off n = some l) : l.length = n := by
  obtain ⟨cs, e, k, _, a, b⟩ := rd_inv h
  subst b
  simp
  omega

/-- the cells of a piece -/
theorem rd_cells (hR : R w0 S σ ρ w) {id off n : Nat} {l : List Value} {L : Loc} (h : rdCells σ id off n = some l) (hL : ρ id = some L) :
    ∃ l', LRel ρ l l' ∧ ∀ j v, l'[j]? = some v → w.cell? ((⟨L.blk, L.off + off, none⟩ : Addr).add j) = some v := by
  have hlen := rd_len h
  obtain ⟨cs, e, k, hg, a, b⟩ := rd_inv h
  have ho := (hR.at hL hg).2
  unfold ORel at ho
  split at ho
  · rename_i cs' e' k' c e'' fr hx hy
    cases hx
    obtain ⟨_, h2, _, h4, _, h6⟩ := ho
    refine ⟨((c.toList.drop (L.off + off)).take n), ⟨?_, ?_⟩, ?_⟩
    · subst b; simp; omega
    · intro i v v' hv hv'
      subst b
      rw [List.getElem?_take, List.getElem?_drop] at hv hv'
      split at hv
      · rename_i hi
        rw [if_pos hi] at hv'
        obtain ⟨u, hu, hr⟩ := h6 _ _ hv
        rw [Array.getElem?_toList] at hv'
        rw [show L.off + off + i = L.off + (off + i) by omega, hu] at hv'
        cases hv'
        exact hr
      · exact absurd hv (by simp)
    · intro j v hv
      rw [List.getElem?_take, List.getElem?_drop] at hv
      split at hv
      · rw [Array.getElem?_toList] at hv
        rw [add_none, cell_at hy]
        exact hv
      · exact absurd hv (by simp)
  all_goals first | exact ho.elim | (rename_i hx hy; cases hx)

theorem LRel.toA {a b : List Value} (h : LRel ρ a b) : ARel ρ a.toArray b.toArray :=
  ⟨by simpa using h.1, fun i v v' x y => h.2 i v v' (by simpa using x) (by simpa using y)⟩
theorem ARel.toL {a b : Array Value} (h : ARel ρ a b) : LRel ρ a.toList b.toList :=
  ⟨by simpa using h.1, fun i v v' x y => h.2 i v v' (by simpa using x) (by simpa using y)⟩

theorem run_rd (hR : R w0 S σ ρ w) {id off n : Nat} {l : List Value} {L : Loc} (h : rdCells σ id off n = some l) (hL : ρ id = some L) :
    ∃ l', LRel ρ l l' ∧ (loadCells ⟨L.blk, L.off + off, none⟩ n).run P w = .ok l'.toArray w ∧ ∀ j v, l'[j]? = some v → w.cell? ((⟨L.blk, L.off + off, none⟩ : Addr).add j) = some v := by
  obtain ⟨l', hl, hc⟩ := rd_cells hR h hL
  refine ⟨l', hl, ?_, hc⟩
  rw [← rd_len h, hl.1]
  exact run_loadCells_list w _ l' hc

theorem ok_load (hR : R w0 S σ ρ w) {t : TypeId} {a a' v : Value} (h : loadA P σ t a = some v) (ha : VRel ρ a a') :
    ∃ v', (Instr.loadAt t a').run P w = .ok v' w ∧ VRel ρ v v' := by
  unfold loadA at h
  split at h
  · rename_i id off
    cases ha with
    | @ptr _ _ L hL =>
    split at h
    · rename_i hag
      split at h
      · rename_i n hn
        cases hrd : rdCells σ id off n with
        | none => rw [hrd] at h; exact absurd h (by simp)
        | some l =>
          rw [hrd] at h
          simp only [Option.map_some, Option.some.injEq] at h
          subst h
          obtain ⟨l', hl, hrun, _⟩ := run_rd (P := P) hR hrd hL
          refine ⟨.agg l'.toArray, ?_, .agg hl.toA.1 hl.toA.2⟩
          simp [Instr.loadAt, Instr.sureAddr, loadVar, run_isAggT hag, run_sizeT hn, hrun]
      · exact absurd h (by simp)
    · rename_i hag
      split at h
      · rename_i u hrd
        cases h
        obtain ⟨l', hl, hrun, hc⟩ := run_rd (P := P) hR hrd hL
        have h1 : l'.length = 1 := by rw [← hl.1]; rfl
        match l', h1 with
        | [x], _ =>
          refine ⟨x, ?_, hl.2 0 _ _ rfl rfl⟩
          have := hc 0 x rfl
          rw [add_none, Nat.add_zero] at this
          simp [Instr.loadAt, Instr.sureAddr, loadVar, run_isAggT hag, this]
      · exact absurd h (by simp)
    · exact absurd h (by simp)
  · exact absurd h (by simp)

/- stores -/
theorem run_storeFr (g o : Nat) (t : TypeId) (fr : Nat × Nat) : ∀ (vs : List Value) (i : Nat) (cur : Array Value) (w : World), w.heap[g]? = some (.cells cur t fr) → (fr.1 = fr.2 ∨ cur.size ≤ fr.1) →
    o + i + vs.length ≤ cur.size → (∀ v ∈ vs, v.oneCell' = true) →
    (storeCells ⟨g, o, none⟩ vs i).run P w = .ok () (w.setRow g (cur.toList.take (o + i) ++ vs ++ cur.toList.drop (o + i + vs.length)).toArray)
  | [], i, cur, w, hg, _, _, _ => by
    simp only [storeCells, List.append_nil, List.length_nil, Nat.add_zero, List.take_append_drop, Array.toArray_toList]
    rw [setRow_self w g cur t fr hg]
    rfl
  | v :: rest, i, cur, w, hg, hf, hl, h1 => by
    have hi : o + i < cur.size := by simp at hl; omega
    have hcell : w.cell? ⟨g, o + i, none⟩ = some cur[o + i] := by simp [World.cell?, hg, hi]
    have hfro : w.frozen? ⟨g, o + i, none⟩ = false := by
      simp only [World.frozen?, hg]
      by_cases x : fr.1 ≤ o + i
      · have y : ¬ o + i < fr.2 := by rcases hf with e | e <;> omega
        simp [y]
      · simp [x]
    have hst : (store ((⟨g, o, none⟩ : Addr).add i) v).run P w = .ok () (w.setRow g (cur.setIfInBounds (o + i) v)) := by
      rw [add_none, run_store P w _ v _ (h1 v (by simp)), hcell]
      simp [hfro, setCell_eq_setRow w g (o + i) cur t fr v hg]
    have ih := run_storeFr g o t fr rest (i + 1) (cur.setIfInBounds (o + i) v) (w.setRow g (cur.setIfInBounds (o + i) v)) (setRow_heap w g cur _ t _ hg) (by simpa using hf) (by simp at hl ⊢; omega) (fun x hx => h1 x (by simp [hx]))
    simp only [storeCells, Sem.run_bind, hst, Result.andThen_ok, ih, setRow_setRow]
    congr 3
    have e := list_seg_step cur.toList (o + i) v rest (by simp at hl ⊢; omega)
    simpa [Array.toList_setIfInBounds, Nat.add_assoc] using e

theorem put_len : ∀ (cs : List Value) (off : Nat) (vs : List Value), (putCells cs off vs).length = cs.length := by
  intro cs
  induction cs with
  | nil => intro off vs; rfl
  | cons c cs ih => intro off vs; cases off <;> cases vs <;> simp [putCells, ih]

theorem put_get : ∀ (cs : List Value) (off : Nat) (vs : List Value) (i : Nat), off + vs.length ≤ cs.length →
    (putCells cs off vs)[i]? = if i < off then cs[i]? else if i < off + vs.length then vs[i - off]? else cs[i]? := by
  intro cs
  induction cs with
  | nil => intro off vs i h; cases vs <;> simp [putCells] at *
  | cons c cs ih =>
    intro off vs i h
    cases off with
    | zero =>
      cases vs with
      | nil => simp [putCells]
      | cons v vs =>
        simp only [putCells]
        cases i with
        | zero => simp
        | succ i =>
          simp only [List.getElem?_cons_succ]
          rw [ih 0 vs i (by simp at h ⊢; omega)]
          simp
    | succ off =>
      simp only [putCells]
      cases i with
      | zero => simp
      | succ i =>
        simp only [List.getElem?_cons_succ]
        rw [ih off vs i (by simp at h ⊢; omega)]
        have e1 : (i + 1 < off + 1) = (i < off) := by simp
        have e2 : (i + 1 < off + 1 + vs.length) = (i < off + vs.length) := by apply propext; omega
        have e3 : i + 1 - (off + 1) = i - off := by omega
        rw [e3]
        simp only [e1, e2]

theorem notCell_one {v : Value} (h : notCell v = false) : v.oneCell' = true := by cases v <;> simp_all [notCell, Value.oneCell']

theorem VRel.cell {v v' : Value} (h : VRel ρ v v') : notCell v' = notCell v := by
  cases h <;> first | rfl | assumption

theorem LRel.cell {a b : List Value} (h : LRel ρ a b) (hn : a.any notCell = false) : ∀ v ∈ b, v.oneCell' = true := by
  intro v hv
  obtain ⟨i, hi, rfl⟩ := List.getElem_of_mem hv
  have hia : i < a.length := by rw [h.1]; exact hi
  have := (h.2 i a[i] b[i] (List.getElem?_eq_getElem hia) (List.getElem?_eq_getElem hi)).cell
  refine notCell_one ?_
  rw [this]
  rw [List.any_eq_false] at hn
  simpa using hn a[i] (List.getElem_mem hia)

/-- a piece is written -/
theorem ok_wr (hR : R w0 S σ ρ w) {id off : Nat} {vs vs' : List Value} {σ' : AW} {L : Loc} (h : wrCells σ id off vs = some σ') (hL : ρ id = some L)
    (hv : LRel ρ vs vs') (h1 : vs.any notCell = false) :
    ∃ w', (storeCells ⟨L.blk, L.off + off, none⟩ vs').run P w = .ok () w' ∧ R w0 S σ' ρ w' := by
  unfold wrCells at h
  split at h
  · rename_i cs e k hg
    split at h
    · rename_i hb
      cases h
      have hb : off + vs.length ≤ cs.length := by simpa using hb
      have ho := (hR.at hL hg).2
      unfold ORel at ho
      split at ho
      · rename_i cs' e' k' c e'' fr hx hy
        cases hx
        obtain ⟨h30, h3, h4, h5, h6, h7⟩ := ho
        have hrun := run_storeFr (P := P) L.blk (L.off + off) e'' fr vs' 0 c w hy h6 (by rw [← hv.1]; omega) (hv.cell h1)
        refine ⟨_, hrun, hR.set hL hg rfl rfl rfl (by simp) (fun b hb' => setRow_other w _ _ _ hb') (fun cs2 e2 k2 he hx => by cases he; rw [put_len]; exact hR.exact _ _ _ _ _ (hR.lt hL) hg hL hx) ?_⟩
        rw [setRow_heap w L.blk c _ e'' fr hy]
        have hlen := hv.1
        refine ⟨h30, ?_, h4, ?_, ?_, ?_⟩
        · simp; omega
        · rw [put_len]; simp; omega
        · rcases h6 with e | e
          · exact .inl e
          · right; simp; omega
        · intro i v hvi
          rw [put_get _ _ _ _ hb] at hvi
          simp only [Nat.add_zero, List.getElem?_toArray, List.append_assoc]
          split at hvi
          · rename_i hi
            obtain ⟨u, hu, hr⟩ := h7 i v hvi
            refine ⟨u, ?_, hr⟩
            rw [List.getElem?_append_left (by simp; omega), List.getElem?_take, if_pos (by omega), Array.getElem?_toList]
            exact hu
          · rename_i hi
            split at hvi
            · rename_i hi2
              have hil : i - off < vs'.length := by omega
              refine ⟨vs'[i - off], ?_, hv.2 _ _ _ hvi (List.getElem?_eq_getElem hil)⟩
              rw [List.getElem?_append_right (by simp; omega), List.getElem?_append_left (by simp; omega)]
              rw [List.getElem?_eq_some_iff]
              refine ⟨by simp; omega, ?_⟩
              congr 1
              simp
              omega
            · rename_i hi2
              obtain ⟨u, hu, hr⟩ := h7 i v hvi
              refine ⟨u, ?_, hr⟩
              rw [List.getElem?_append_right (by simp; omega), List.getElem?_append_right (by simp; omega), List.getElem?_drop, Array.getElem?_toList, ← hu]
              congr 1
              simp
              omega
      all_goals first | exact ho.elim | (rename_i hx hy; cases hx)
    · exact absurd h (by simp)
  · exact absurd h (by simp)

theorem VRel.cells {v v' : Value} (h : VRel ρ v v') : LRel ρ v.cells.toList v'.cells.toList := by
  have one : ∀ {a b : Value}, VRel ρ a b → LRel ρ [a] [b] := by
    intro a b hab
    refine ⟨rfl, fun i x y hx hy => ?_⟩
    cases i with
    | zero => simp at hx hy; subst hx; subst hy; exact hab
    | succ i => simp at hx
  cases h with
  | agg h1 h2 => exact ARel.toL ⟨h1, h2⟩
  | bool => exact one (.bool _)
  | int => exact one (.int _ _)
  | sym h hv hn =>
    have : v'.cells = #[v'] := by
      cases v' <;> first | rfl | simp [notCell] at hn
    rw [this]
    exact one (.sym h hv hn)
  | complex => exact one (.complex _ _ _)
  | string => exact one (.string _)
  | nilFunc => exact one .nilFunc
  | nilIface => exact one .nilIface
  | ptr0 => exact one .ptr0
  | map0 => exact one .map0
  | chan0 => exact one .chan0
  | slice0 => exact one .slice0
  | ptr h => exact one (.ptr h)
  | sliceX h a b => exact one (.sliceX h a b)
  | sliceO h a b => exact one (.sliceO h a b)
  | sliceE h a => exact one (.sliceE h a)
  | map h => exact one (.map h)
  | func a b c d => exact one (.func a b c d)
  | iface a => exact one (.iface a)
  | tuple a b => exact one (.tuple a b)

theorem ok_store (hR : R w0 S σ ρ w) {t : TypeId} {a a' v v' : Value} {σ' : AW} (h : storeA P σ t a v = some σ') (ha : VRel ρ a a') (hv : VRel ρ v v') :
    ∃ w', (Instr.storeAt t a' v').run P w = .ok () w' ∧ R w0 S σ' ρ w' := by
  unfold storeA at h
  split at h
  · rename_i id off
    cases ha with
    | @ptr _ _ L hL =>
    split at h
    · rename_i n hn
      split at h
      · rename_i hb
        simp only [Bool.and_eq_true, Bool.not_eq_true'] at hb
        obtain ⟨hb1, hb2⟩ := hb
        have hb1 := Nat.eq_of_beq_eq_true hb1
        obtain ⟨w', hrun, hR'⟩ := ok_wr (P := P) hR h hL hv.cells hb2
        refine ⟨w', ?_, hR'⟩
        have hs : v'.cells.size = n := by rw [← hb1]; simpa using hv.cells.1.symm
        simp [Instr.storeAt, Instr.sureAddr, storeVar, run_sizeT hn, hs, hrun]
      · exact absurd h (by simp)
    · exact absurd h (by simp)
  · exact absurd h (by simp)

/-- a row of cells is made -/
theorem ok_new (hR : R w0 S σ ρ w) {cs cs' : List Value} {elem : TypeId} {id : Nat} {σ' : AW} (h : newCells P σ cs elem = some (id, σ')) (hv : LRel ρ cs cs') (more : List Value)
    (fr : Nat × Nat) (hfr : fr.1 = fr.2 ∨ (cs' ++ more).length ≤ fr.1) (hex : S.exact elem → more = []) :
    ∃ k, sizeT P elem = some k ∧ ρ.le (ρ.put id ⟨w.heap.size, 0, (cs' ++ more).length, k, none, none⟩) ∧
      R w0 S σ' (ρ.put id ⟨w.heap.size, 0, (cs' ++ more).length, k, none, none⟩) (w.alloc (.cells (cs' ++ more).toArray elem fr)) := by
  unfold newCells at h
  split at h
  · rename_i k hk
    obtain ⟨hid, _, _⟩ := AW.new_eq h
    have hle : ρ.le (ρ.put id ⟨w.heap.size, 0, (cs' ++ more).length, k, none, none⟩) := Rho.le_put (by rw [hid]; exact hR.dom _ (Nat.le_refl _))
    obtain ⟨h1, h2⟩ := hR.alloc (p := .cells (cs' ++ more).toArray elem fr) h (L := ⟨w.heap.size, 0, (cs' ++ more).length, k, none, none⟩) rfl rfl rfl (fun cs2 e2 k2 he hx => by cases he; rw [hex hx]; simp [hv.1]) (by
      refine ⟨rfl, by simp, rfl, ?_, by simpa using hfr, ?_⟩
      · have := hv.1; simp; omega
      · intro i v hi
        have hil : i < cs'.length := by
          rw [← hv.1]
          rcases Nat.lt_or_ge i cs.length with g | g
          · exact g
          · rw [List.getElem?_eq_none g] at hi; exact absurd hi (by simp)
        refine ⟨cs'[i], ?_, (hv.2 i v _ hi (List.getElem?_eq_getElem hil)).mono hle⟩
        simp [List.getElem?_append_left hil, List.getElem?_eq_getElem hil])
    exact ⟨k, hk, h1, h2⟩
  · exact absurd h (by simp)

theorem LRel.append {a b c d : List Value} (h : LRel ρ a b) (k : LRel ρ c d) : LRel ρ (a ++ c) (b ++ d) := by
  refine ⟨by simp [h.1, k.1], fun i v v' x y => ?_⟩
  rcases Nat.lt_or_ge i a.length with g | g
  · rw [List.getElem?_append_left g] at x
    rw [List.getElem?_append_left (by rw [← h.1]; exact g)] at y
    exact h.2 i v v' x y
  · rw [List.getElem?_append_right g] at x
    rw [List.getElem?_append_right (by rw [← h.1]; exact g), ← h.1] at y
    exact k.2 _ v v' x y

theorem LRel.nil : LRel ρ [] [] := ⟨rfl, fun i v v' x => by simp at x⟩
theorem LRel.cons {a b : Value} {l m : List Value} (h : VRel ρ a b) (k : LRel ρ l m) : LRel ρ (a :: l) (b :: m) := by
  refine ⟨by simp [k.1], fun i v v' x y => ?_⟩
  cases i with
  | zero => simp at x y; subst x; subst y; exact h
  | succ i => exact k.2 i v v' (by simpa using x) (by simpa using y)
theorem LRel.of_cons {a : Value} {l m : List Value} (h : LRel ρ (a :: l) m) : ∃ b m', m = b :: m' ∧ VRel ρ a b ∧ LRel ρ l m' := by
  cases m with
  | nil => have := h.1; simp at this
  | cons b m' =>
    refine ⟨b, m', rfl, h.2 0 a b rfl rfl, ?_, ?_⟩
    · have := h.1; simpa using this
    · intro i v v' x y; exact h.2 (i + 1) v v' (by simpa using x) (by simpa using y)
theorem LRel.plain {l : List Value} (h : ∀ v ∈ l, plain v = true) : LRel ρ l l := by
  refine ⟨rfl, fun i v v' x y => ?_⟩
  rw [x] at y; cases y
  exact plain_rel ρ (h v (List.mem_of_getElem? x))

end
end Am
end Go
