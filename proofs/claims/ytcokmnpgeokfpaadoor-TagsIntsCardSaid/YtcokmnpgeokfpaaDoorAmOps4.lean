import Derived.Test.YtcokmnpgeokfpaaDoorAmOps3
/- The abstract machine's operations and the model's: append, together. -/
set_option linter.unusedVariables false
set_option linter.unusedSimpArgs false
namespace Go
namespace Am
section
variable {P : Program} {w0 : World} {S : Own} {σ : AW} {ρ : Rho} {w : World}

theorem grown_ge {need old : Nat} {e : TypeId} : need ≤ grownCap w need old e := grownCap_ge w need old e

/-- a new array takes the elements -/
theorem ApT.noEx [hE : NoEx P S] {ts : Array TypeId} {elem : TypeId} {i : TypeInfo} {z : Value} (T : ApT P ts elem i z) : ¬ S.exact elem := let ⟨t, _, hu, ht⟩ := T.1; hE.no t elem ht hu

theorem app_out [NoEx P S] {σ1 : AW} (hR1 : R w0 S σ1 ρ w) {ts : Array TypeId} {elem ty : TypeId} {i : TypeInfo} {z : Value} (T : ApT P ts elem i z) (hzs : z.cells.size = i.size)
    {x' : Value} {b : Option Addr} {len cap n id : Nat} {old new old' new' : List Value} {σ' : AW}
    (A : Apd P ts i z x' n new' w) (hgt : cap < len + n)
    (h3 : (Builtin.firstCells i.size len (.slice b len cap)).run P w.drew = .ok old'.toArray w.drew) (args : Array Value) (ha : args[0]? = some (.slice b len cap)) (hb : args[1]? = some x')
    (hby : (len + n) * i.bytes ≤ 2 ^ 46) (hmx : len + n ≤ 2 ^ 46) (ho : LRel ρ old old') (hn : LRel ρ new new') (hol : old.length = len * i.size) (hnl : new.length = n * i.size)
    (hnew : newCells P σ1 (old ++ new) elem = some (id, σ')) :
    ∃ v' w' ρ', (Builtin.append_ ts ty args).run P w = .ok v' w' ∧ ρ.le ρ' ∧ VRel ρ' (.slice (some ⟨id, 0, none⟩) (len + n) OPEN) v' ∧ R w0 S σ' ρ' w' := by
  have hrun := run_append_out (ty := ty) T A hgt h3 args ha hb hby hmx
  obtain ⟨k, hk, hle, hR'⟩ := ok_new hR1.drew hnew (ho.append hn) (Builtin.zeroCells z.cells (grownCap w (len + n) cap elem - (len + n))).toList (0, 0) (.inl rfl) (fun hx => (T.noEx hx).elim)
  have hki : k = i.size := by
    unfold sizeT at hk
    rw [T.hi] at hk
    simpa using hk.symm
  refine ⟨_, _, _, hrun, hle, ?_, hR'⟩
  have := VRel.sliceO (ρ := ρ.put id ⟨w.heap.size, 0, ((old' ++ new') ++ (Builtin.zeroCells z.cells (grownCap w (len + n) cap elem - (len + n))).toList).length, k, none, none⟩) (id := id) (o := 0)
    (n := len + n) (c := grownCap w (len + n) cap elem) (Rho.put_same _ _ _) grown_ge (by
      simp only [List.length_append, Array.length_toList, size_zeroCells, hzs, ← ho.1, ← hn.1, hol, hnl, hki]
      have := grown_ge (w := w) (need := len + n) (old := cap) (e := elem)
      rw [← Nat.add_mul, ← Nat.add_mul]
      simp only [Nat.zero_add]
      congr 1
      omega)
  simpa using this

/-- the elements go behind the slice's own -/
theorem app_in {ts : Array TypeId} {elem ty : TypeId} {i : TypeInfo} {z : Value} (T : ApT P ts elem i z) {x' : Value} {b o : Nat} {len cap n : Nat} {new' : List Value} {w' : World}
    (A : Apd P ts i z x' n new' w) (hle : len + n ≤ cap)
    (h3 : (storeCells ⟨b, o + len * i.size, none⟩ new').run P w = .ok () w') (args : Array Value) (ha : args[0]? = some (.slice (some ⟨b, o, none⟩) len cap)) (hb : args[1]? = some x') :
    (Builtin.append_ ts ty args).run P w = .ok (.slice (some ⟨b, o, none⟩) (len + n) cap) w' :=
  run_append_in T rfl A hle (by rw [add_none]; exact h3) args ha hb

theorem run_append_nil {ts : Array TypeId} {elem ty : TypeId} {i : TypeInfo} {z : Value} (T : ApT P ts elem i z) {x : Value} (A : Apd P ts i z x 0 [] w) (args : Array Value) (ha : args[0]? = some (.slice none 0 0)) (hb : args[1]? = some x) :
    (Builtin.append_ ts ty args).run P w = .ok (.slice none 0 0) w := by
  obtain ⟨⟨t, ht, hu, _⟩, hi, hzero⟩ := T
  cases A with
  | zeros hx hxu hv hnb hm hsz hnew =>
    subst hv
    have := wrap_i64 hm
    simp only [Int.natCast_zero] at this
    simp [Builtin.append_, ht, ha, hb, hx, run_underlying hu, run_underlying hxu, sizeOf, typeInfo, hi, asInt, asIntOf, this]
  | els hz hlen hf1 _ =>
  cases hts1 : ts[1]? with
  | none => simp [Builtin.append_, ht, ha, hb, hts1, run_underlying hu, sizeOf, typeInfo, hi, hlen, hf1]
  | some xt =>
    rw [hts1] at hz
    obtain ⟨d, hud, hne⟩ := notZeros_some hz
    cases d
    case int => exact absurd rfl (hne _)
    all_goals
      simp only [Builtin.append_, ht, ha, hb, hts1, Sem.run_bind, run_underlying hu, run_underlying hud, Result.andThen_ok, sizeOf, typeInfo, hi, run_program, Sem.run_pure, Bool.false_eq_true, if_false, hlen, Sem.run_ite,
        Bool.not_false, if_true]
      simp [hf1]

theorem sizeT_of {elem : TypeId} {i : TypeInfo} (h : P.info? elem = some i) : sizeT P elem = some i.size := by simp [sizeT, h]

theorem ok_append [NoEx P S] (hR : R w0 S σ ρ w) {ts : Array TypeId} {sT ty : TypeId} {s x s' x' : Value} {r : ARes} (hts : ts[0]? = some sT) (h : appendA P σ sT ts[1]? s x = some r)
    (hs : VRel ρ s s') (hx : VRel ρ x x') (args : Array Value) (ha : args[0]? = some s') (hb : args[1]? = some x') :
    ∃ v' w' ρ', (Builtin.append_ ts ty args).run P w = .ok v' w' ∧ ρ.le ρ' ∧
      ((∃ v, r = .val v ∧ VRel ρ' v v' ∧ R w0 S σ ρ' w') ∨ (∃ v σ', r = .eff v σ' ∧ VRel ρ' v v' ∧ R w0 S σ' ρ' w')) := by
  unfold appendA at h
  split at h
  · rename_i elem hu
    split at h
    · exact absurd h (by simp)
    · rename_i i hi
      split at h
      · exact absurd h (by simp)
      · rename_i z hzero
        split at h
        · rename_i hb0
          simp only [Bool.and_eq_true] at hb0
          have h1i := ble_t hb0.1.1
          have hzs := beq_t hb0.1.2
          have T : ApT P ts elem i z := ⟨⟨sT, hts, hu, blt_t hb0.2⟩, hi, hzero⟩
          split at h
          · exact absurd h (by simp)
          · rename_i n new hel
            obtain ⟨new', hnr, hnl, A⟩ := ok_more (P := P) hR hzs hel hx
            split at h
            · rename_i hb1
              simp only [Bool.and_eq_true, Bool.not_eq_true'] at hb1
              obtain ⟨⟨hby, hmx⟩, hone⟩ := hb1
              replace hby := ble_t hby
              replace hmx := ble_t hmx
              unfold appendTo at h
              split at h
              · cases hs
                simp only [lenOfA] at hby hmx
                split at h
                · cases h
                  simp only [Nat.zero_mul] at hnl
                  have : new' = [] := List.eq_nil_of_length_eq_zero (by rw [← hnr.1]; exact hnl)
                  subst this
                  refine ⟨.slice none 0 0, w, ρ, ?_, ρ.le_refl, .inl ⟨_, rfl, .slice0, hR⟩⟩
                  exact run_append_nil T A args ha hb
                · split at h
                  · rename_i id σ' hnew
                    cases h
                    have hn0 : n ≠ 0 := by assumption
                    obtain ⟨v', w', ρ', a, b, c, d⟩ := app_out (ty := ty) hR T hzs (b := none) (len := 0) (cap := 0) (old := []) (old' := []) A (by omega)
                      (by simp [Builtin.firstCells]) args ha hb hby hmx .nil hnr (by simp) hnl (by simpa using hnew)
                    simp only [Nat.zero_add] at c
                    exact ⟨v', w', ρ', a, b, .inr ⟨_, _, rfl, c, d⟩⟩
                  · exact absurd h (by simp)
              · rename_i id off len cap
                simp only [lenOfA] at hby hmx
                split at h
                · cases h
                  simp only [Nat.zero_mul] at hnl
                  have : new' = [] := List.eq_nil_of_length_eq_zero (by rw [← hnr.1]; exact hnl)
                  subst this
                  have run0 : ∀ b o c, len ≤ c → args[0]? = some (.slice (some ⟨b, o, none⟩) len c) → (Builtin.append_ ts ty args).run P w = .ok (.slice (some ⟨b, o, none⟩) len c) w := by
                    intro b o c hc ha
                    exact app_in (n := 0) T A (by omega) (by simp [storeCells]) args ha hb
                  cases hs with
                  | sliceX hL hc hn => exact ⟨_, w, ρ, run0 _ _ _ hn ha, ρ.le_refl, .inl ⟨_, rfl, .sliceX hL hc hn, hR⟩⟩
                  | sliceO hL hn hc => exact ⟨_, w, ρ, run0 _ _ _ hn ha, ρ.le_refl, .inl ⟨_, rfl, .sliceO hL hn hc, hR⟩⟩
                  | sliceE hL hc => exact ⟨_, w, ρ, run0 _ _ _ (Nat.zero_le _) ha, ρ.le_refl, .inl ⟨_, rfl, .sliceE hL hc, hR⟩⟩
                · have hn0 : n ≠ 0 := by assumption
                  split at h
                  · rename_i cs ce k' hg
                    split at h
                    · rename_i hk hcap
                      have hke := hk
                      simp only [Bool.and_eq_true] at hke
                      have hk := beq_t hke.1
                      have hce := beq_t hke.2
                      have hcap := ble_t hcap
                      cases hs with
                      | sliceO hL hn hc => exact absurd hcap open_big
                      | sliceE hL hc => exact absurd hcap empty_big
                      | @sliceX _ _ _ _ L hL hc hn =>
                        split at h
                        · rename_i hroom
                          have hroom := ble_t hroom
                          split at h
                          · rename_i σ' hw
                            cases h
                            obtain ⟨w', hst, hR'⟩ := ok_wr (P := P) hR hw hL hnr hone
                            exact ⟨_, w', ρ, app_in T A hroom (by rw [Nat.add_assoc]; exact hst) args ha hb, ρ.le_refl, .inr ⟨_, _, rfl, .sliceX hL hc hroom, hR'⟩⟩
                          · exact absurd h (by simp)
                        · rename_i hroom
                          have hroom := ble_f hroom
                          split at h
                          · rename_i old hrd
                            split at h
                            · rename_i id' σ' hnew
                              cases h
                              obtain ⟨old', ho, hrun, hcl⟩ := run_rd (P := P) hR hrd hL
                              have hf3 : (Builtin.firstCells i.size len (.slice (some ⟨L.blk, L.off + off, none⟩) len cap)).run P w.drew = .ok old'.toArray w.drew := by
                                simp only [Builtin.firstCells]
                                rw [← rd_len hrd, ho.1]
                                exact run_loadCells_list w.drew _ old' (by simpa using hcl)
                              obtain ⟨v', w', ρ', a, b, c, d⟩ := app_out (ty := ty) hR T hzs A (by omega) hf3 args ha hb hby hmx ho hnr (rd_len hrd) hnl hnew
                              exact ⟨v', w', ρ', a, b, .inr ⟨_, _, rfl, c, d⟩⟩
                            · exact absurd h (by simp)
                          · exact absurd h (by simp)
                    · rename_i hk hcap
                      have hke := hk
                      simp only [Bool.and_eq_true] at hke
                      have hk := beq_t hke.1
                      have hce := beq_t hke.2
                      have hcap := ble_f hcap
                      subst hk
                      split at h
                      · rename_i hopen
                        have hopen := beq_t hopen
                        cases hs with
                        | sliceX hL hc hn => omega
                        | sliceE hL hc => exact absurd hopen (Ne.symm open_empty)
                        | @sliceO _ _ _ c L hL hn hc =>
                          obtain ⟨ca, ce', fr, hh, d1, d2, d3, d4, d5⟩ := cells_of hR hL hg
                          split at h
                          · rename_i hroom
                            have hroom := ble_t hroom
                            have hroom' : len + n ≤ c := by
                              rw [d2] at hc
                              have : (len + n) * i.size ≤ c * i.size := by omega
                              exact Nat.le_of_mul_le_mul_right this (by omega)
                            split at h
                            · rename_i σ' hw
                              cases h
                              obtain ⟨w', hst, hR'⟩ := ok_wr (P := P) hR hw hL hnr hone
                              exact ⟨_, w', ρ, app_in T A hroom' (by rw [Nat.add_assoc]; exact hst) args ha hb, ρ.le_refl, .inr ⟨_, _, rfl, .sliceO hL hroom' hc, hR'⟩⟩
                            · exact absurd h (by simp)
                          · rename_i hroom
                            have hroom := ble_f hroom
                            split at h
                            · rename_i old hrd
                              split at h
                              · rename_i id' σ' hnew
                                cases h
                                obtain ⟨old', ho, hrun, hcl⟩ := run_rd (P := P) hR hrd hL
                                have hol := rd_len hrd
                                by_cases hroom' : len + n ≤ c
                                · have hlt := hR.lt hL
                                  have hdrop := hR.drop id hlt
                                  have hcells : (storeCells ⟨L.blk, L.off + off + len * i.size, none⟩ new').run P w = .ok () (w.setRow L.blk (ca.toList.take (L.off + off + len * i.size) ++ new' ++ ca.toList.drop (L.off + off + len * i.size + new'.length)).toArray) := by
                                    refine run_storeFr (P := P) L.blk (L.off + off + len * i.size) ce' fr new' 0 ca w hh d4 ?_ (hnr.cell hone)
                                    rw [← hnr.1, hnl, d1, ← hc, d2, Nat.add_zero, Nat.add_assoc _ (len * i.size), ← Nat.add_mul]
                                    have := Nat.mul_le_mul_right i.size hroom'
                                    omega
                                  have hrun2 := app_in (ty := ty) T A hroom' hcells args ha hb
                                  have hsz : L.off + off + (len + n) * i.size ≤ L.size := by
                                    rw [← hc, d2]
                                    have := Nat.mul_le_mul_right i.size hroom'
                                    omega
                                  have hsum : (old ++ new).length = (len + n) * i.size := by rw [List.length_append, hol, hnl, Nat.add_mul]
                                  unfold newCells at hnew
                                  rw [sizeT_of T.hi] at hnew
                                  simp only at hnew
                                  obtain ⟨hid, _, _⟩ := AW.new_eq hnew
                                  have hle : ρ.le (ρ.put id' ⟨L.blk, L.off + off, L.size, i.size, none, none⟩) := Rho.le_put (by rw [hid]; exact hR.dom _ (Nat.le_refl _))
                                  obtain ⟨_, hR'⟩ := hdrop.bind hnew (L := ⟨L.blk, L.off + off, L.size, i.size, none, none⟩) rfl rfl (fun j M p e1 e2 e => hR.pinApart j M p id _ L e1 e2 hlt hg hL e.symm) (hR.at hL hg).1 (by
                                      intro j p M hj e1 e2 e
                                      have hne : id ≠ j := by
                                        intro e'
                                        subst e'
                                        rw [get_drop (by have := hR.lim; omega) (by have := hR.lim; omega), if_pos rfl] at e1
                                        exact absurd e1 (by simp)
                                      rw [get_drop (by have := hR.lim; omega) (by have := hR.lim; have : j < σ.next := hj; omega), if_neg hne] at e1
                                      exact hne (hR.apart id j _ _ L M hlt hj hg e1 hL e2 e.symm))
                                    (w' := w.setRow L.blk (ca.toList.take (L.off + off + len * i.size) ++ new' ++ ca.toList.drop (L.off + off + len * i.size + new'.length)).toArray)
                                    rfl rfl rfl (by simp) (fun b hb' _ => setRow_other w _ _ _ hb') (fun b hb' hge => by rw [setRow_other w _ _ _ hb']; exact Array.getElem?_eq_none hge) (fun cs2 e2 k2 he hx => by cases he; exact (T.noEx hx).elim) (by
                                      rw [setRow_heap w L.blk ca _ ce' fr hh]
                                      have hn1 := hnr.1
                                      have hrow : (ca.toList.take (L.off + off + len * i.size) ++ new' ++ ca.toList.drop (L.off + off + len * i.size + new'.length)).toArray.size = L.size := by
                                        rw [Nat.add_mul] at hsz
                                        simp
                                        omega
                                      refine ⟨(cells_ty hR hL hg hh).trans hce, hrow, rfl, ?_, ?_, ?_⟩
                                      · rw [hrow, hsum]; exact hsz
                                      · rcases d4 with e | e
                                        · exact .inl e
                                        · right; rw [hrow, ← d1]; exact e
                                      · intro j v hj
                                        rw [Nat.add_mul] at hsz
                                        have htk : (ca.toList.take (L.off + off + len * i.size)).length = L.off + off + len * i.size := by rw [List.length_take, Array.length_toList]; omega
                                        rcases Nat.lt_or_ge j old.length with g | g
                                        · rw [List.getElem?_append_left g] at hj
                                          have hgl : j < old'.length := by rw [← ho.1]; exact g
                                          refine ⟨old'[j], ?_, (ho.2 j v _ hj (List.getElem?_eq_getElem hgl)).mono hle⟩
                                          have hcj := hcl j old'[j] (List.getElem?_eq_getElem hgl)
                                          rw [add_none, cell_at hh] at hcj
                                          simp only [List.getElem?_toArray, List.append_assoc]
                                          rw [List.getElem?_append_left (by rw [htk]; show L.off + off + j < _; omega), List.getElem?_take, if_pos (by show L.off + off + j < _; omega), Array.getElem?_toList]
                                          exact hcj
                                        · rw [List.getElem?_append_right g] at hj
                                          have hgl : j - old.length < new'.length := by
                                            rw [← hn1]
                                            rcases Nat.lt_or_ge (j - old.length) new.length with g2 | g2
                                            · exact g2
                                            · rw [List.getElem?_eq_none g2] at hj; exact absurd hj (by simp)
                                          refine ⟨new'[j - old.length], ?_, (hnr.2 _ v _ hj (List.getElem?_eq_getElem hgl)).mono hle⟩
                                          simp only [List.getElem?_toArray, List.append_assoc]
                                          rw [List.getElem?_append_right (by rw [htk]; omega), htk, List.getElem?_append_left (by omega)]
                                          have e : L.off + off + j - (L.off + off + len * i.size) = j - old.length := by omega
                                          rw [e]
                                          exact List.getElem?_eq_getElem hgl)
                                  refine ⟨_, _, _, hrun2, hle, .inr ⟨_, _, rfl, ?_, hR'⟩⟩
                                  have := VRel.sliceO (ρ := ρ.put id' ⟨L.blk, L.off + off, L.size, i.size, none, none⟩) (id := id') (o := 0) (n := len + n) (c := c) (Rho.put_same _ _ _) hroom' (by
                                    show L.off + off + 0 + c * i.size = L.size
                                    rw [← hc, d2, Nat.add_zero])
                                  exact this
                                · have hf3 : (Builtin.firstCells i.size len (.slice (some ⟨L.blk, L.off + off, none⟩) len c)).run P w.drew = .ok old'.toArray w.drew := by
                                    simp only [Builtin.firstCells]
                                    rw [← rd_len hrd, ho.1]
                                    exact run_loadCells_list w.drew _ old' (by simpa using hcl)
                                  obtain ⟨v', w', ρ', a, b, c, d⟩ := app_out (ty := ty) (hR.drop id (hR.lt hL)) T hzs A (by omega) hf3 args ha hb hby hmx ho hnr (rd_len hrd) hnl hnew
                                  exact ⟨v', w', ρ', a, b, .inr ⟨_, _, rfl, c, d⟩⟩
                              · exact absurd h (by simp)
                            · exact absurd h (by simp)
                      · rename_i hopen
                        have hopen := beq_f hopen
                        cases hs with
                        | sliceX hL hc hn => omega
                        | sliceO hL hn hc => exact absurd rfl hopen
                        | @sliceE _ L o c hL hc =>
                          obtain ⟨ca, ce', fr, hh, d1, d2, d3, d4, d5⟩ := cells_of hR hL hg
                          split at h
                          · rename_i id' σ' hnew
                            cases h
                            simp only [Nat.zero_add] at hby hmx
                            by_cases hroom' : 0 + n ≤ c
                            · have hc : o + c * i.size = L.size := by
                                rcases hc with hc | hc
                                · omega
                                · rw [d2] at hc; exact hc
                              have hlt := hR.lt hL
                              have hdrop := hR.drop id hlt
                              have hn1 := hnr.1
                              have hsz : o + n * i.size ≤ L.size := by
                                rw [← hc]
                                have := Nat.mul_le_mul_right i.size hroom'
                                simp only [Nat.zero_add] at this
                                omega
                              have hcells : (storeCells ⟨L.blk, o + 0 * i.size, none⟩ new').run P w = .ok () (w.setRow L.blk (ca.toList.take o ++ new' ++ ca.toList.drop (o + new'.length)).toArray) := by
                                have := run_storeFr (P := P) L.blk o ce' fr new' 0 ca w hh d4 (by rw [← hnr.1, hnl, d1]; omega) (hnr.cell hone)
                                simpa using this
                              have hrun2 := app_in (ty := ty) T A hroom' hcells args ha hb
                              unfold newCells at hnew
                              rw [sizeT_of T.hi] at hnew
                              simp only at hnew
                              obtain ⟨hid, _, _⟩ := AW.new_eq hnew
                              have hle : ρ.le (ρ.put id' ⟨L.blk, o, L.size, i.size, none, none⟩) := Rho.le_put (by rw [hid]; exact hR.dom _ (Nat.le_refl _))
                              have htk : (ca.toList.take o).length = o := by rw [List.length_take, Array.length_toList]; omega
                              have hrow : (ca.toList.take o ++ new' ++ ca.toList.drop (o + new'.length)).toArray.size = L.size := by
                                have hnl' : new'.length = n * i.size := by rw [← hn1]; exact hnl
                                show (ca.toList.take o ++ new' ++ ca.toList.drop (o + new'.length)).length = L.size
                                rw [List.length_append, List.length_append, htk, List.length_drop, Array.length_toList (xs := ca)]
                                omega
                              obtain ⟨_, hR'⟩ := hdrop.bind hnew (L := ⟨L.blk, o, L.size, i.size, none, none⟩) rfl rfl (fun j M p e1 e2 e => hR.pinApart j M p id _ L e1 e2 hlt hg hL e.symm) (hR.at hL hg).1 (by
                                  intro j p M hj e1 e2 e
                                  have hne : id ≠ j := by
                                    intro e'
                                    subst e'
                                    rw [get_drop (by have := hR.lim; omega) (by have := hR.lim; omega), if_pos rfl] at e1
                                    exact absurd e1 (by simp)
                                  rw [get_drop (by have := hR.lim; omega) (by have := hR.lim; have : j < σ.next := hj; omega), if_neg hne] at e1
                                  exact hne (hR.apart id j _ _ L M hlt hj hg e1 hL e2 e.symm))
                                (w' := w.setRow L.blk (ca.toList.take o ++ new' ++ ca.toList.drop (o + new'.length)).toArray)
                                rfl rfl rfl (by simp) (fun b hb' _ => setRow_other w _ _ _ hb') (fun b hb' hge => by rw [setRow_other w _ _ _ hb']; exact Array.getElem?_eq_none hge) (fun cs2 e2 k2 he hx => by cases he; exact (T.noEx hx).elim) (by
                                  rw [setRow_heap w L.blk ca _ ce' fr hh]
                                  refine ⟨(cells_ty hR hL hg hh).trans hce, hrow, rfl, ?_, ?_, ?_⟩
                                  · rw [hrow]; show o + new.length ≤ L.size; rw [hnl]; exact hsz
                                  · rcases d4 with e | e
                                    · exact .inl e
                                    · right; rw [hrow, ← d1]; exact e
                                  · intro j v hj
                                    have hgl : j < new'.length := by
                                      rw [← hn1]
                                      rcases Nat.lt_or_ge j new.length with g2 | g2
                                      · exact g2
                                      · rw [List.getElem?_eq_none g2] at hj; exact absurd hj (by simp)
                                    refine ⟨new'[j], ?_, (hnr.2 _ v _ hj (List.getElem?_eq_getElem hgl)).mono hle⟩
                                    simp only [List.getElem?_toArray, List.append_assoc]
                                    rw [List.getElem?_append_right (by rw [htk]; show o ≤ o + j; omega), htk, List.getElem?_append_left (by show o + j - o < new'.length; omega)]
                                    have e : o + j - o = j := by omega
                                    rw [e]
                                    exact List.getElem?_eq_getElem hgl)
                              refine ⟨_, _, _, hrun2, hle, .inr ⟨_, _, rfl, ?_, hR'⟩⟩
                              have := VRel.sliceO (ρ := ρ.put id' ⟨L.blk, o, L.size, i.size, none, none⟩) (id := id') (o := 0) (n := 0 + n) (c := c) (Rho.put_same _ _ _) hroom' (by
                                show o + 0 + c * i.size = L.size
                                rw [← hc, Nat.add_zero])
                              simp only [Nat.zero_add] at this ⊢
                              exact this
                            · obtain ⟨v', w', ρ', a, b, c, d⟩ := app_out (ty := ty) (hR.drop id (hR.lt hL)) T hzs (b := some ⟨L.blk, o, none⟩) (len := 0) (cap := c) (old := []) (old' := []) A (by omega)
                                (by simp [Builtin.firstCells, loadCells, loadCellsFrom]) args ha hb (by simpa using hby) (by simpa using hmx) .nil hnr (by simp) hnl (by simpa using hnew)
                              simp only [Nat.zero_add] at c
                              exact ⟨v', w', ρ', a, b, .inr ⟨_, _, rfl, c, d⟩⟩
                          · exact absurd h (by simp)
                    · exact absurd h (by simp)
                  · exact absurd h (by simp)
              · exact absurd h (by simp)
            · exact absurd h (by simp)
        · exact absurd h (by simp)
  · exact absurd h (by simp)

end
end Am
end Go
