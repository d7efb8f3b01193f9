import Derived.Test.YtcokmnpgeokfpaaDoorAmOps6
/- The abstract machine's operations and the model's: maps. -/
set_option linter.unusedVariables false
set_option linter.unusedSimpArgs false
namespace Go
namespace Am
section
variable {P : Program} {w0 : World} {S : Own} {σ : AW} {ρ : Rho} {w : World}

theorem MRel.of_cons {e : MapEntry} {l m : List MapEntry} (h : MRel ρ (e :: l) m) : ∃ f m', m = f :: m' ∧ e.born = f.born ∧ VRel ρ e.key f.key ∧ VRel ρ e.val f.val ∧ MRel ρ l m' := by
  cases m with
  | nil => have := h.1; simp at this
  | cons f m' =>
    obtain ⟨a, b, c⟩ := h.2 0 e f rfl rfl
    exact ⟨f, m', rfl, a, b, c, by have := h.1; simpa using this, fun i x y hx hy => h.2 (i + 1) x y (by simpa using hx) (by simpa using hy)⟩

theorem findA_now {j : IntKind} {a : Int} : ∀ {l m : List MapEntry} {i : Nat} {r : Option (Nat × Value)}, MRel ρ l m → findA (.int j a) l i = some r →
    ∃ r', Instr.findNow (.int j) (.int j a) m i = some r' ∧ ((r = none ∧ r' = none) ∨ ∃ n v v', r = some (n, v) ∧ r' = some (n, v') ∧ VRel ρ v v')
  | [], m, i, r, h, hf => by
    have : m = [] := List.eq_nil_of_length_eq_zero h.1.symm
    subst this
    simp only [findA, Option.some.injEq] at hf
    subst hf
    exact ⟨none, rfl, .inl ⟨rfl, rfl⟩⟩
  | e :: l, m, i, r, h, hf => by
    obtain ⟨f, m', rfl, hb, hk, hv, hm⟩ := h.of_cons
    unfold findA at hf
    split at hf
    · rename_i j1 a1 j2 b1 ek hek
      cases ek
      rw [hek] at hk
      have hfk := hk.int_inv
      split at hf
      · rename_i hj
        subst hj
        simp only [Instr.findNow, hfk, Instr.sameNow, if_true]
        split at hf
        · rename_i hab
          subst hab
          simp only [Option.some.injEq] at hf
          subst hf
          exact ⟨some (i, f.val), by simp, .inr ⟨i, e.val, f.val, rfl, rfl, hv⟩⟩
        · rename_i hab
          obtain ⟨r', h1, h2⟩ := findA_now hm hf
          refine ⟨r', ?_, h2⟩
          have : (a == b1) = false := by simpa using hab
          rw [this]
          exact h1
      · exact absurd hf (by simp)
    · exact absurd hf (by simp)

theorem keyOk_inv {kt : TypeId} {k : Value} (h : keyTypeOk P kt k = true) : ∃ j a, P.underlying kt = some (.int j) ∧ k = .int j a := by
  unfold keyTypeOk at h
  split at h
  · rename_i j j' a hu
    have : j = j' := by simpa using h
    subst this
    exact ⟨j, a, hu, rfl⟩
  · exact absurd h (by simp)

theorem run_checkKey {e : Bool} {kt : TypeId} {j : IntKind} {a : Int} (hu : P.underlying kt = some (.int j)) (w : World) : (Instr.checkKey e 10000 kt (.int j a)).run P w = .ok () w := by
  show (Instr.checkKey e (9999 + 1) kt (.int j a)).run P w = _
  rw [Instr.checkKey, Sem.run_bind, run_underlying hu]
  rfl

theorem run_findKey {kt : TypeId} {j : IntKind} {a : Int} {es : List MapEntry} {r : Option (Nat × Value)} (hu : P.underlying kt = some (.int j)) (h : Instr.findNow (.int j) (.int j a) es 0 = some r) (w : World) :
    (Instr.findKey kt (.int j a) es).run P w = .ok r w := by
  simp [Instr.findKey, run_underlying hu, h]

theorem map_of (hR : R w0 S σ ρ w) {id : Nat} {L : Loc} {es : List MapEntry} {ck : Nat} (hL : ρ id = some L) (hg : σ.get id = some (.map es ck)) :
    ∃ es', w.heap[L.blk]? = some (.map es' ck) ∧ MRel ρ es es'.toList := by
  have ho := (hR.at hL hg).2
  unfold ORel at ho
  split at ho
  · rename_i hx hy; cases hx
  · rename_i hx hy; cases hx; obtain ⟨rfl, h⟩ := ho; exact ⟨_, hy, h⟩
  · rename_i hx hy; cases hx
  · rename_i hx hy; cases hx
  · exact ho.elim

/-- the entries behind a map value -/
theorem ok_mapOf (hR : R w0 S σ ρ w) {m m' : Value} {es : List MapEntry} {ck : Nat} (h : mapOf σ m = some (es, ck)) (hm : VRel ρ m m') :
    (m' = .map none ∧ es = []) ∨ ∃ r es', m' = .map (some r) ∧ w.heap[r]? = some (.map es' ck) ∧ MRel ρ es es'.toList := by
  unfold mapOf at h
  split at h
  · cases h; cases hm; exact .inl ⟨rfl, rfl⟩
  · rename_i id
    split at h
    · rename_i es1 c1 hg
      cases h
      cases hm with
      | map hL =>
        obtain ⟨es', a, b⟩ := map_of hR hL hg
        exact .inr ⟨_, es', rfl, a, b⟩
    · exact absurd h (by simp)
  · exact absurd h (by simp)

theorem run_getMap {r : Nat} {es : Array MapEntry} {ck : Nat} (h : w.heap[r]? = some (.map es ck)) : (getObj r).run P w = .ok (.map es ck) w := by
  simp [getObj, Sem.run, h]
theorem run_setMap {r : Nat} {es : Array MapEntry} {ck : Nat} (o : Obj) (h : w.heap[r]? = some (.map es ck)) : (setObj r o).run P w = .ok () { w with heap := w.heap.setIfInBounds r o } := by
  simp [setObj, Sem.run, h]

theorem ok_lookup (hR : R w0 S σ ρ w) {t : TypeId} {m m' k k' v : Value} {ok : Bool} (h : lookupA P σ t m k ok = some v) (hm : VRel ρ m m') (hk : VRel ρ k k') :
    ∃ v', (Instr.lookup t m' k' ok).run P w = .ok v' w ∧ VRel ρ v v' := by
  unfold lookupA at h
  split at h
  · rename_i kt et hu
    split at h
    · rename_i es ck hmo hko
      obtain ⟨j, a, hku, rfl⟩ := keyOk_inv hko
      rw [hk.int_inv]
      have two : ∀ {x y : Value} {b : Bool}, VRel ρ x y → VRel ρ (if ok then .tuple #[x, .bool b] else x) (if ok then .tuple #[y, .bool b] else y) := by
        intro x y b hxy
        split
        · have : ARel ρ #[x, .bool b] #[y, .bool b] := (LRel.cons hxy (LRel.cons (.bool b) .nil)).toA
          exact .tuple this.1 this.2
        · exact hxy
      rcases ok_mapOf hR hmo hm with ⟨rfl, rfl⟩ | ⟨r, es', rfl, hh, hrel⟩
      · simp only [findA] at h
        cases hz : zeroT P et with
        | none => rw [hz] at h; simp at h
        | some z =>
          rw [hz] at h
          simp only [Option.map_some, Option.some.injEq] at h
          subst h
          refine ⟨if ok then .tuple #[z, .bool false] else z, ?_, two (plain_rel ρ (zeroT_plain hz))⟩
          have hf : (Instr.findKey kt (.int j a) []).run P w = .ok none w := run_findKey hku rfl w
          simp [Instr.lookup, run_underlying hu, run_checkKey hku, hf, run_zeroT hz]
      · cases hfa : findA (.int j a) es 0 with
        | none => rw [hfa] at h; simp at h
        | some r0 =>
          obtain ⟨r1, hf1, hf2⟩ := findA_now hrel hfa
          have hf := run_findKey (P := P) hku hf1 w
          rw [hfa] at h
          rcases hf2 with ⟨rfl, rfl⟩ | ⟨n, v1, v2, rfl, rfl, hv⟩
          · simp only at h
            cases hz : zeroT P et with
            | none => rw [hz] at h; simp at h
            | some z =>
              rw [hz] at h
              simp only [Option.map_some, Option.some.injEq] at h
              subst h
              refine ⟨if ok then .tuple #[z, .bool false] else z, ?_, two (plain_rel ρ (zeroT_plain hz))⟩
              simp [Instr.lookup, run_underlying hu, run_checkKey hku, hf, run_zeroT hz, run_getMap hh]
          · simp only [Option.some.injEq] at h
            subst h
            refine ⟨if ok then .tuple #[v2, .bool true] else v2, ?_, two hv⟩
            simp [Instr.lookup, run_underlying hu, run_checkKey hku, hf, run_getMap hh]
    · exact absurd h (by simp)
  · exact absurd h (by simp)

theorem setVal_eq (k v : Value) : ∀ (l : List MapEntry) (i : Nat), setVal k v l i = l.modify i fun e => { e with key := k, val := v }
  | [], i => by simp [setVal]
  | e :: l, 0 => by simp [setVal]
  | e :: l, i + 1 => by simp [setVal, setVal_eq k v l i]

theorem modify_rel {l m : List MapEntry} (h : MRel ρ l m) {k k' v v' : Value} (hk : VRel ρ k k') (hv : VRel ρ v v') (i : Nat) :
    MRel ρ (setVal k v l i) (m.modify i fun e => { e with key := k', val := v' }) := by
  rw [setVal_eq]
  refine ⟨by simp [h.1], fun n e e' x y => ?_⟩
  rw [List.getElem?_modify] at x y
  cases hl : l[n]? with
  | none => rw [hl] at x; simp at x
  | some el =>
    cases hm : m[n]? with
    | none => rw [hm] at y; simp at y
    | some em =>
      obtain ⟨a, b, c⟩ := h.2 n el em hl hm
      rw [hl] at x; rw [hm] at y
      simp only [Option.map_eq_map, Option.map_some, Option.some.injEq] at x y
      split at x
      · rename_i hin
        rw [if_pos hin] at y
        subst x; subst y
        exact ⟨a, hk, hv⟩
      · rename_i hin
        rw [if_neg hin] at y
        subst x; subst y
        exact ⟨a, b, c⟩

theorem findNow_at {j : IntKind} {a : Int} : ∀ {m : List MapEntry} {i n : Nat} {v : Value}, Instr.findNow (.int j) (.int j a) m i = some (some (n, v)) → i ≤ n ∧ ∃ e, m[n - i]? = some e ∧ e.key = .int j a
  | [], i, n, v, h => by simp [Instr.findNow] at h
  | e :: m, i, n, v, h => by
    unfold Instr.findNow at h
    split at h
    · rename_i hs
      simp only [Option.some.injEq, Prod.mk.injEq] at h
      obtain ⟨rfl, _⟩ := h
      refine ⟨Nat.le_refl _, e, by simp, ?_⟩
      unfold Instr.sameNow at hs
      split at hs
      · rename_i _ _ j1 a1 j2 a2 hd he1 he2
        cases he1
        split at hs
        · rename_i hj
          simp only [Option.some.injEq, beq_iff_eq] at hs
          rw [he2, hj, hs]
        · exact absurd hs (by simp)
      all_goals simp_all
    · obtain ⟨h1, e', h2, h3⟩ := findNow_at h
      refine ⟨by omega, e', ?_, h3⟩
      rw [show n - i = (n - (i + 1)) + 1 by omega]
      simpa using h2
    · exact absurd h (by simp)

theorem stays (j : IntKind) (a : Int) (w : World) : (Instr.keyThatStays (.int j a) (.int j a)).run P w = .ok (.int j a) w := by
  have : Instr.sameBits 10000 (.int j a) (.int j a) = true := by simp [Instr.sameBits]
  simp [Instr.keyThatStays, this]

/-- a map is turned -/
theorem R.setMap (hR : R w0 S σ ρ w) {id : Nat} {L : Loc} {es es2 : List MapEntry} {ck ck2 : Nat} {es' es2' : Array MapEntry} (hL : ρ id = some L) (hg : σ.get id = some (.map es ck))
    (hh : w.heap[L.blk]? = some (.map es' ck)) (hrel : MRel ρ es2 es2'.toList) : R w0 S (σ.put id (.map es2 ck2)) ρ { w with heap := w.heap.setIfInBounds L.blk (.map es2' ck2) } := by
  refine hR.set hL hg rfl rfl rfl (by simp) (fun b hb => ?_) (fun _ _ _ e => by cases e) ?_
  · simp only [Array.getElem?_setIfInBounds]
    rw [if_neg (Ne.symm hb)]
  · have hlt : L.blk < w.heap.size := hR.blk_lt hL hg
    simp only [Array.getElem?_setIfInBounds, if_true, hlt]
    exact ⟨rfl, hrel⟩

theorem ok_update (hR : R w0 S σ ρ w) {t : TypeId} {m m' k k' v v' : Value} {σ' : AW} (h : mapUpdateA P σ t m k v = some σ') (hm : VRel ρ m m') (hk : VRel ρ k k') (hv : VRel ρ v v') :
    ∃ w', (Instr.mapUpdate t m' k' v').run P w = .ok () w' ∧ R w0 S σ' ρ w' := by
  unfold mapUpdateA at h
  split at h
  · rename_i kt et id hu
    split at h
    · rename_i es ck hg hko
      obtain ⟨j, a, hku, rfl⟩ := keyOk_inv hko
      rw [hk.int_inv]
      cases hm with
      | @map _ L hL =>
      obtain ⟨es', hh, hrel⟩ := map_of hR hL hg
      cases hfa : findA (.int j a) es 0 with
      | none => rw [hfa] at h; simp at h
      | some r0 =>
        obtain ⟨r1, hf1, hf2⟩ := findA_now hrel hfa
        have hf := run_findKey (P := P) hku hf1 w
        rw [hfa] at h
        rcases hf2 with ⟨rfl, rfl⟩ | ⟨n, v1, v2, rfl, rfl, hv2⟩
        · simp only [Option.some.injEq] at h
          subst h
          refine ⟨_, by simp [Instr.mapUpdate, run_underlying hu, run_getMap hh, run_checkKey hku, hf, run_setMap _ hh]; rfl, hR.setMap hL hg hh ?_⟩
          simp only [Array.toList_push]
          refine ⟨by simp [hrel.1], fun i e e' x y => ?_⟩
          rcases Nat.lt_or_ge i es.length with g | g
          · rw [List.getElem?_append_left g] at x
            rw [List.getElem?_append_left (by rw [← hrel.1]; exact g)] at y
            exact hrel.2 i e e' x y
          · rw [List.getElem?_append_right g] at x
            rw [List.getElem?_append_right (by rw [← hrel.1]; exact g), ← hrel.1] at y
            cases hi : i - es.length with
            | zero =>
              rw [hi] at x y
              simp at x y
              subst x; subst y
              exact ⟨rfl, .int _ _, hv⟩
            | succ q => rw [hi] at x; simp at x
        · simp only [Option.some.injEq] at h
          subst h
          obtain ⟨_, e0, he0, hek⟩ := findNow_at hf1
          simp only [Nat.sub_zero] at he0
          have he0' : es'[n]? = some e0 := by rw [← Array.getElem?_toList]; exact he0
          refine ⟨_, ?_, hR.setMap hL hg hh (es2' := es'.modify n fun e => { e with key := .int j a, val := v' }) ?_⟩
          · simp only [Instr.mapUpdate, Sem.run_bind, run_underlying hu, Result.andThen_ok, run_getMap hh, run_checkKey hku, hf, he0', Option.map_some, Option.getD_some, hek, stays, run_setMap _ hh]
          · rw [Array.toList_modify]
            exact modify_rel hrel (.int _ _) hv n
    · exact absurd h (by simp)
  · exact absurd h (by simp)

theorem ok_delete (hR : R w0 S σ ρ w) {ts : Array TypeId} {t ty : TypeId} {m m' k k' : Value} {r : Option AW} (hts : ts[0]? = some t) (h : deleteA P σ t m k = some r) (hm : VRel ρ m m') (hk : VRel ρ k k')
    (args : Array Value) (ha : args[0]? = some m') (hb : args[1]? = some k') :
    ∃ w', (Builtin.delete_ ts ty args).run P w = .ok (.tuple #[]) w' ∧ (match r with | none => R w0 S σ ρ w' | some σ' => R w0 S σ' ρ w') := by
  unfold deleteA at h
  split at h
  · rename_i kt et hu
    split at h
    · rename_i hko
      cases h
      obtain ⟨j, a, hku, rfl⟩ := keyOk_inv hko
      rw [hk.int_inv] at hb
      cases hm
      exact ⟨w, by simp [Builtin.delete_, hts, ha, hb, run_underlying hu, run_checkKey hku], hR⟩
    · exact absurd h (by simp)
  · rename_i kt et id hu
    split at h
    · rename_i es ck hg hko
      obtain ⟨j, a, hku, rfl⟩ := keyOk_inv hko
      rw [hk.int_inv] at hb
      cases hm with
      | @map _ L hL =>
      obtain ⟨es', hh, hrel⟩ := map_of hR hL hg
      cases hfa : findA (.int j a) es 0 with
      | none => rw [hfa] at h; simp at h
      | some r0 =>
        obtain ⟨r1, hf1, hf2⟩ := findA_now hrel hfa
        have hf := run_findKey (P := P) hku hf1 w
        rw [hfa] at h
        rcases hf2 with ⟨rfl, rfl⟩ | ⟨n, v1, v2, rfl, rfl, hv2⟩
        · simp only [Option.some.injEq] at h
          subst h
          exact ⟨_, by simp [Builtin.delete_, hts, ha, hb, run_underlying hu, run_getMap hh, run_checkKey hku, hf, run_setMap _ hh], hR.setMap hL hg hh hrel⟩
        · simp only [Option.some.injEq] at h
          subst h
          refine ⟨_, by simp [Builtin.delete_, hts, ha, hb, run_underlying hu, run_getMap hh, run_checkKey hku, hf, run_setMap _ hh]; rfl, hR.setMap hL hg hh ?_⟩
          have hn : n < es'.size := by
            obtain ⟨_, e0, he0, _⟩ := findNow_at hf1
            simp only [Nat.sub_zero] at he0
            rcases Nat.lt_or_ge n es'.size with g | g
            · exact g
            · rw [List.getElem?_eq_none (by simpa using g)] at he0; exact absurd he0 (by simp)
          have he : (es'.eraseIdxIfInBounds n).toList = es'.toList.eraseIdx n := by
            simp [Array.eraseIdxIfInBounds, hn]
          rw [he]
          refine ⟨?_, fun i e e' x y => ?_⟩
          · rw [List.length_eraseIdx, List.length_eraseIdx, hrel.1]
          · rw [List.getElem?_eraseIdx] at x y
            split at x
            · rename_i hin; rw [if_pos hin] at y; exact hrel.2 _ e e' x y
            · rename_i hin; rw [if_neg hin] at y; exact hrel.2 _ e e' x y
    · exact absurd h (by simp)
  · exact absurd h (by simp)

/- iterators -/
theorem getObj_iter {r : Nat} {o : Obj} (h : w.heap[r]? = some o) (hc : ∀ c e f, o ≠ .cells c e f) : (getObj r).run P w = .ok o w := by
  simp only [getObj, Sem.run, h]
  try (cases o <;> first | rfl | exact absurd rfl (hc _ _ _))

theorem setObj_iter {r : Nat} {o : Obj} (o' : Obj) (h : w.heap[r]? = some o) (hc : ∀ c e f, o ≠ .cells c e f) : (setObj r o').run P w = .ok () { w with heap := w.heap.setIfInBounds r o' } := by
  simp only [setObj, Sem.run, h]
  try (cases o <;> first | rfl | exact absurd rfl (hc _ _ _))

theorem R.setIt (hR : R w0 S σ ρ w) {id : Nat} {L : Loc} {o o2 : AObj} {p2 : Obj} (hL : ρ id = some L) (hg : σ.get id = some o) (hex : ∀ cs e k, o2 ≠ .cells cs e k) (hrel : ORel ρ L o2 (some p2)) :
    R w0 S (σ.put id o2) ρ { w with heap := w.heap.setIfInBounds L.blk p2 } := by
  refine hR.set hL hg rfl rfl rfl (by simp) (fun b hb => ?_) (fun cs e k he => (hex cs e k he).elim) ?_
  · simp only [Array.getElem?_setIfInBounds]
    rw [if_neg (Ne.symm hb)]
  · have hlt : L.blk < w.heap.size := hR.blk_lt hL hg
    simp only [Array.getElem?_setIfInBounds, if_true, hlt]
    exact hrel

theorem ok_range (hR : R w0 S σ ρ w) {t : TypeId} {x x' v : Value} {σ' : AW} (h : rangeA P σ t x = some (v, σ')) (hx : VRel ρ x x') :
    ∃ v' w' ρ', (Instr.range t x').run P w = .ok v' w' ∧ ρ.le ρ' ∧ VRel ρ' v v' ∧ R w0 S σ' ρ' w' := by
  have fin : ∀ {id : Nat} {σ1 : AW} {o : AObj} {p : Obj}, σ.new o = some (id, σ1) → (∀ cs e k, o ≠ .cells cs e k) → ORel ρ ⟨w.heap.size, 0, 0, 0, none, none⟩ o (some p) →
      ∃ ρ', ρ.le ρ' ∧ VRel ρ' (.pointer (some ⟨id, 0, none⟩)) (.pointer (some ⟨w.heap.size, 0, none⟩)) ∧ R w0 S σ1 ρ' (w.alloc p) := by
    intro id σ1 o p hn hexo ho
    obtain ⟨hid, _, _⟩ := AW.new_eq hn
    have hle : ρ.le (ρ.put id ⟨w.heap.size, 0, 0, 0, none, none⟩) := Rho.le_put (by rw [hid]; exact hR.dom _ (Nat.le_refl _))
    obtain ⟨h1, h2⟩ := hR.alloc hn (L := ⟨w.heap.size, 0, 0, 0, none, none⟩) rfl rfl rfl (fun cs e k he => (hexo cs e k he).elim) (ho.mono hle)
    exact ⟨_, h1, VRel.ptr (o := 0) (Rho.put_same _ _ _), h2⟩
  unfold rangeA at h
  split at h
  · rename_i s hu
    split at h
    · rename_i id σ1 hn
      cases h
      cases hx
      obtain ⟨ρ', a, b, c⟩ := fin (p := .stringIter s 0) hn (fun _ _ _ => by simp) ⟨rfl, rfl, rfl⟩
      exact ⟨_, _, ρ', by simp [Instr.range, run_underlying hu], a, b, c⟩
    · exact absurd h (by simp)
  · rename_i k e hu
    split at h
    · rename_i id σ1 hn
      cases h
      cases hx
      obtain ⟨ρ', a, b, c⟩ := fin (p := .mapIter none 0 #[] 0) hn (fun _ _ _ => by simp) ⟨rfl, rfl, rfl, rfl, .inl ⟨rfl, rfl⟩⟩
      exact ⟨_, _, ρ', by simp [Instr.range, run_underlying hu], a, b, c⟩
    · exact absurd h (by simp)
  · rename_i k e m hu
    split at h
    · rename_i es ck hg
      split at h
      · rename_i id σ1 hn
        cases h
        cases hx with
        | @map _ L hL =>
        obtain ⟨es', hh, hrel⟩ := map_of hR hL hg
        obtain ⟨ρ', a, b, c⟩ := fin (p := .mapIter (some L.blk) ck #[] ck) hn (fun _ _ _ => by simp) ⟨rfl, rfl, rfl, rfl, .inr ⟨m, L, rfl, hL, rfl⟩⟩
        exact ⟨_, _, ρ', by simp [Instr.range, run_underlying hu, run_getMap hh], a, b, c⟩
      · exact absurd h (by simp)
    · exact absurd h (by simp)
  · exact absurd h (by simp)

theorem iter_of (hR : R w0 S σ ρ w) {id : Nat} {L : Loc} {m : Option Nat} {since last : Nat} {seen : Array Nat} (hL : ρ id = some L) (hg : σ.get id = some (.miter m since seen last)) :
    ∃ m', L.off = 0 ∧ w.heap[L.blk]? = some (.mapIter m' since seen last) ∧ ((m = none ∧ m' = none) ∨ ∃ id M, m = some id ∧ ρ id = some M ∧ m' = some M.blk) := by
  have ho := (hR.at hL hg).2
  unfold ORel at ho
  split at ho
  · rename_i hx hy; cases hx
  · rename_i hx hy; cases hx
  · rename_i hx hy; cases hx; obtain ⟨z, rfl, rfl, rfl, h⟩ := ho; exact ⟨_, z, hy, h⟩
  · rename_i hx hy; cases hx
  · exact ho.elim

theorem siter_of (hR : R w0 S σ ρ w) {id : Nat} {L : Loc} {s : ByteArray} {p : Nat} (hL : ρ id = some L) (hg : σ.get id = some (.siter s p)) :
    L.off = 0 ∧ w.heap[L.blk]? = some (.stringIter s p) := by
  have ho := (hR.at hL hg).2
  unfold ORel at ho
  split at ho
  · rename_i hx hy; cases hx
  · rename_i hx hy; cases hx
  · rename_i hx hy; cases hx
  · rename_i hx hy; cases hx; obtain ⟨z, rfl, rfl⟩ := ho; exact ⟨z, hy⟩
  · exact ho.elim

theorem find_rel {l m : List MapEntry} (h : MRel ρ l m) (stamp : Nat) {e : MapEntry} (he : l.find? (fun e => e.born == stamp) = some e) :
    ∃ f, m.find? (fun e => e.born == stamp) = some f ∧ VRel ρ e.key f.key ∧ VRel ρ e.val f.val := by
  induction l generalizing m with
  | nil => simp at he
  | cons x l ih =>
    obtain ⟨y, m', rfl, hb, hk, hv, hm⟩ := h.of_cons
    simp only [List.find?_cons] at he ⊢
    rw [← hb]
    split at he
    · cases he; exact ⟨y, rfl, hk, hv⟩
    · exact ih hm he

theorem pair2 {a b a' b' : Value} (h1 : VRel ρ a a') (h2 : VRel ρ b b') : VRel ρ (.tuple #[a, b]) (.tuple #[a', b']) := by
  have : ARel ρ #[a, b] #[a', b'] := (LRel.cons h1 (LRel.cons h2 .nil)).toA
  exact .tuple this.1 this.2
theorem pair3 {a b c a' b' c' : Value} (h1 : VRel ρ a a') (h2 : VRel ρ b b') (h3 : VRel ρ c c') : VRel ρ (.tuple #[a, b, c]) (.tuple #[a', b', c']) := by
  have : ARel ρ #[a, b, c] #[a', b', c'] := (LRel.cons h1 (LRel.cons h2 (LRel.cons h3 .nil))).toA
  exact .tuple this.1 this.2

theorem ok_entry (hR : R w0 S σ ρ w) {x x' v : Value} (h : entryA σ x = some v) (hx : VRel ρ x x') :
    ∃ v', (Instr.entry x').run P w = .ok v' w ∧ VRel ρ v v' := by
  unfold entryA at h
  split at h
  · rename_i id
    cases hx with
    | @ptr _ _ L hL =>
    split at h
    · rename_i m since seen stepped hg
      obtain ⟨m', hoff, hh, hm⟩ := iter_of hR hL hg
      rcases hm with ⟨hm, _⟩ | ⟨id2, M, e1, hM, rfl⟩
      · simp at hm
      · cases e1
        split at h
        · rename_i stamp es ck hs hgm
          obtain ⟨es', hh2, hrel⟩ := map_of hR hM hgm
          split at h
          · rename_i hck
            subst hck
            split at h
            · rename_i e hf
              cases h
              obtain ⟨f, hf', hk, hv⟩ := find_rel hrel stamp hf
              rw [Array.find?_toList] at hf'
              refine ⟨.tuple #[f.key, f.val], ?_, pair2 hk hv⟩
              rw [hoff]
              simp only [Nat.zero_add, Instr.entry, Sem.run_bind, getObj_iter hh (by simp), hs, Result.andThen_ok, run_getMap hh2, hf', bne_self_eq_false, Bool.false_eq_true, if_false, Sem.run_pure]
            · exact absurd h (by simp)
          · exact absurd h (by simp)
        · exact absurd h (by simp)
    · exact absurd h (by simp)
  · exact absurd h (by simp)

theorem filter_rel {p : MapEntry → Bool} : ∀ {l m : List MapEntry}, MRel ρ l m → (∀ e f : MapEntry, e.born = f.born → p e = p f) → MRel ρ (l.filter p) (m.filter p)
  | [], m, h, _ => by
    have : m = [] := List.eq_nil_of_length_eq_zero h.1.symm
    subst this
    exact h
  | e :: l, m, h, hp => by
    obtain ⟨f, m', rfl, hb, hk, hv, hm⟩ := h.of_cons
    have ih := filter_rel hm hp
    simp only [List.filter_cons, hp e f hb]
    split
    · refine ⟨by simp [ih.1], fun i x y hx hy => ?_⟩
      cases i with
      | zero => simp at hx hy; subst hx; subst hy; exact ⟨hb, hk, hv⟩
      | succ i => exact ih.2 i x y (by simpa using hx) (by simpa using hy)
    · exact ih

theorem all_rel {p : MapEntry → Bool} : ∀ {l m : List MapEntry}, MRel ρ l m → (∀ e f : MapEntry, e.born = f.born → p e = p f) → l.all p = m.all p
  | [], m, h, _ => by
    have : m = [] := List.eq_nil_of_length_eq_zero h.1.symm
    subst this
    rfl
  | e :: l, m, h, hp => by
    obtain ⟨f, m', rfl, hb, hk, hv, hm⟩ := h.of_cons
    simp only [List.all_cons, hp e f hb, all_rel hm hp]

theorem MRel.isEmpty {l m : List MapEntry} (h : MRel ρ l m) : l.isEmpty = m.isEmpty := by
  have := h.1
  cases l <;> cases m <;> simp_all

theorem MRel.append {l m l2 m2 : List MapEntry} (h : MRel ρ l m) (k : MRel ρ l2 m2) : MRel ρ (l ++ l2) (m ++ m2) := by
  refine ⟨by simp [h.1, k.1], fun i v v' x y => ?_⟩
  rcases Nat.lt_or_ge i l.length with g | g
  · rw [List.getElem?_append_left g] at x
    rw [List.getElem?_append_left (by rw [← h.1]; exact g)] at y
    exact h.2 i v v' x y
  · rw [List.getElem?_append_right g] at x
    rw [List.getElem?_append_right (by rw [← h.1]; exact g), ← h.1] at y
    exact k.2 _ v v' x y

theorem MRel.one {l m : List MapEntry} {e : MapEntry} (h : MRel ρ l m) (hl : l = [e]) : ∃ f, m = [f] ∧ e.born = f.born ∧ VRel ρ e.key f.key ∧ VRel ρ e.val f.val := by
  subst hl
  obtain ⟨f, m', rfl, a, b, c, d⟩ := h.of_cons
  have : m' = [] := List.eq_nil_of_length_eq_zero d.1.symm
  subst this
  exact ⟨f, rfl, a, b, c⟩

theorem ok_next (hR : R w0 S σ ρ w) {x x' : Value} {isString : Bool} {ty : TypeId} {r : ARes} (h : nextA σ x isString = some r) (hx : VRel ρ x x') :
    ∃ v' w', (Instr.next x' isString ty).run P w = .ok v' w' ∧ ((∃ v, r = .val v ∧ VRel ρ v v' ∧ R w0 S σ ρ w') ∨ (∃ v σ', r = .eff v σ' ∧ VRel ρ v v' ∧ R w0 S σ' ρ w')) := by
  have over : VRel ρ (.tuple #[.bool false]) (.tuple #[.bool false]) := plain_rel ρ rfl
  unfold nextA at h
  split at h
  · rename_i id
    cases hx with
    | @ptr _ _ L hL =>
    split at h
    · rename_i s pos hg
      obtain ⟨hoff, hh⟩ := siter_of hR hL hg
      rw [hoff]
      split at h
      · rename_i hlt
        cases h
        refine ⟨.tuple #[.bool true, goInt pos, .int .i32 (Utf8.decode s pos).1], _, ?_, .inr ⟨_, _, rfl, plain_rel ρ rfl, hR.setIt hL hg (o2 := .siter s (pos + (Utf8.decode s pos).2)) (p2 := .stringIter s (pos + (Utf8.decode s pos).2)) (fun _ _ _ => by simp) ⟨hoff, rfl, rfl⟩⟩⟩
        simp [Instr.next, getObj_iter hh, hlt, setObj_iter _ hh]
      · rename_i hlt
        cases h
        exact ⟨_, w, by simp [Instr.next, getObj_iter hh, hlt], .inl ⟨_, rfl, over, hR⟩⟩
    · rename_i a b c hg
      obtain ⟨m', hoff, hh, hm⟩ := iter_of hR hL hg
      rw [hoff]
      cases h
      rcases hm with ⟨_, rfl⟩ | ⟨_, _, e, _⟩
      · exact ⟨_, w, by simp [Instr.next, getObj_iter hh], .inl ⟨_, rfl, over, hR⟩⟩
      · simp at e
    · rename_i m since seen last hg
      obtain ⟨m', hoff, hh, hm⟩ := iter_of hR hL hg
      rw [hoff]
      rcases hm with ⟨e, _⟩ | ⟨m2, M, e, hM, rfl⟩
      · simp at e
      · cases e
        split at h
        · rename_i es ck hgm
          obtain ⟨es', hh2, hrel⟩ := map_of hR hM hgm
          split at h
          · exact absurd h (by simp)
          · rename_i hbad
            have hleft := filter_rel (p := fun e => !seen.contains e.born) hrel (fun e f hb => by simp only [hb])
            have hold := filter_rel (p := fun e => decide (e.born < since)) hleft (fun e f hb => by simp only [hb])
            have hnew := filter_rel (p := fun e => decide (e.born ≥ since)) hleft (fun e f hb => by simp only [hb])
            have hbad' : ¬ ((!seen.isEmpty && !es'.isEmpty && es'.all fun x => decide (x.born ≥ last)) = true) := by
              have h1 : es.isEmpty = es'.isEmpty := by rw [hrel.isEmpty]; simp
              have h2 := all_rel (p := fun x => decide (x.born ≥ last)) hrel (fun e f hb => by simp only [hb])
              rw [h1, h2, Array.all_toList] at hbad
              exact hbad
            have run : ∀ c : Option MapEntry, ((if (es'.filter (fun e => !seen.contains e.born)).filter (fun e => decide (e.born < since)) |>.isEmpty then #[none] else #[]) ++ ((es'.filter (fun e => !seen.contains e.born)).filter (fun e => decide (e.born < since)) ++ (es'.filter (fun e => !seen.contains e.born)).filter (fun e => decide (e.born ≥ since))).map some) = #[c] →
                (Instr.next (.pointer (some ⟨L.blk, 0, none⟩)) false ty).run P w = (match c with
                  | some e => .ok (.tuple #[.bool true, e.key, e.val]) { w with heap := w.heap.setIfInBounds L.blk (.mapIter (some M.blk) since (seen.push e.born) ck) }
                  | none => .ok (.tuple #[.bool false]) w) := by
              intro c hc
              simp only [Instr.next, Sem.run_bind, getObj_iter hh (by simp), Result.andThen_ok, run_getMap hh2, if_neg hbad', Sem.run_ite]
              rw [hc]
              cases c with
              | none => simp [Question.forced]
              | some e => simp [Question.forced, setObj_iter _ hh]
            have harr : ((if (es'.filter (fun (e : MapEntry) => !seen.contains e.born)).filter (fun (e : MapEntry) => decide (e.born < since)) |>.isEmpty then #[none] else #[]) ++ ((es'.filter (fun (e : MapEntry) => !seen.contains e.born)).filter (fun (e : MapEntry) => decide (e.born < since)) ++ (es'.filter (fun (e : MapEntry) => !seen.contains e.born)).filter (fun (e : MapEntry) => decide (e.born ≥ since))).map some).toList =
                (if ((es'.toList.filter (fun (e : MapEntry) => !seen.contains e.born)).filter (fun (e : MapEntry) => decide (e.born < since))).isEmpty then [none] else []) ++ ((es'.toList.filter (fun (e : MapEntry) => !seen.contains e.born)).filter (fun (e : MapEntry) => decide (e.born < since)) ++ (es'.toList.filter (fun (e : MapEntry) => !seen.contains e.born)).filter (fun (e : MapEntry) => decide (e.born ≥ since))).map some := by
              simp only [Array.toList_append, Array.toList_map, Array.toList_filter]
              have hc : ((es'.filter (fun (e : MapEntry) => !seen.contains e.born)).filter (fun (e : MapEntry) => decide (e.born < since))).isEmpty = ((es'.toList.filter (fun (e : MapEntry) => !seen.contains e.born)).filter (fun (e : MapEntry) => decide (e.born < since))).isEmpty := by
                rw [← Array.toList_filter, ← Array.toList_filter, Array.isEmpty_toList]
              rw [hc]
              congr 1
              split <;> rfl
            have happ := MRel.append hold hnew
            have hemp := hold.isEmpty
            dsimp only at h
            split at h
            · rename_i e he
              cases h
              by_cases hoe : ((es.filter fun e => !seen.contains e.born).filter fun e => decide (e.born < since)).isEmpty = true
              · rw [if_pos hoe] at he
                simp at he
              · rw [if_neg hoe, List.nil_append] at he
                have he2 : ((es.filter fun e => !seen.contains e.born).filter fun e => decide (e.born < since)) ++ ((es.filter fun e => !seen.contains e.born).filter fun e => decide (e.born ≥ since)) = [e] := by
                  have := congrArg (List.map (fun o : Option MapEntry => o.getD e)) he
                  simpa [List.map_map, Function.comp_def] using this
                obtain ⟨f, hf, hb, hk, hv⟩ := happ.one he2
                have hrun := run (some f) (by
                  apply Array.ext'
                  rw [harr, ← hemp, if_neg hoe, hf]
                  rfl)
                refine ⟨_, _, hrun, .inr ⟨_, _, rfl, pair3 (.bool true) hk hv, ?_⟩⟩
                rw [hb]
                exact hR.setIt hL hg (fun _ _ _ => by simp) ⟨hoff, rfl, rfl, rfl, .inr ⟨m, M, rfl, hM, rfl⟩⟩
            · rename_i he
              cases h
              by_cases hoe : ((es.filter fun e => !seen.contains e.born).filter fun e => decide (e.born < since)).isEmpty = true
              · rw [if_pos hoe] at he
                have he2 : ((es.filter fun e => !seen.contains e.born).filter fun e => decide (e.born < since)) ++ ((es.filter fun e => !seen.contains e.born).filter fun e => decide (e.born ≥ since)) = [] := by
                  have h1 := congrArg List.length he
                  apply List.eq_nil_of_length_eq_zero
                  simpa using h1
                have he3 := List.eq_nil_of_length_eq_zero (happ.1.symm.trans (congrArg List.length he2))
                have hrun := run none (by
                  apply Array.ext'
                  rw [harr, ← hemp, if_pos hoe, he3]
                  rfl)
                exact ⟨_, w, hrun, .inl ⟨_, rfl, over, hR⟩⟩
              · rw [if_neg hoe, List.nil_append] at he
                have h1 := congrArg (fun l => l.all Option.isSome) he
                simp at h1
            · exact absurd h (by simp)
        · exact absurd h (by simp)
    · exact absurd h (by simp)
  · exact absurd h (by simp)

end
end Am
end Go
