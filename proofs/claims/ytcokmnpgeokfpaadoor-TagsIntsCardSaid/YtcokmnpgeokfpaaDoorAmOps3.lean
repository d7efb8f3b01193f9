import Derived.Test.YtcokmnpgeokfpaaDoorAmOps2
/- The abstract machine's operations and the model's: append. -/
set_option linter.unusedVariables false
set_option linter.unusedSimpArgs false
namespace Go
namespace Am
section
variable {P : Program} {w0 : World} {S : Own} {σ : AW} {ρ : Rho} {w : World}

theorem ok_elem (hR : R w0 S σ ρ w) {k n : Nat} {x x' : Value} {new : List Value} (h : elemCells σ k x = some (n, new)) (hx : VRel ρ x x') :
    ∃ new', LRel ρ new new' ∧ new.length = n * k ∧ (Builtin.lenOf x').run P w = .ok n w ∧ (Builtin.firstCells k n x').run P w = .ok new'.toArray w ∧
      (Builtin.firstCells k n x').run P w.drew = .ok new'.toArray w.drew := by
  unfold elemCells at h
  split at h
  · cases h
    refine ⟨[], .nil, by simp, ?_⟩
    cases hx
    simp [Builtin.lenOf, Builtin.firstCells]
  · rename_i id off m c
    cases hrd : rdCells σ id off (m * k) with
    | none => rw [hrd] at h; exact absurd h (by simp)
    | some l =>
      rw [hrd] at h
      simp only [Option.map_some, Option.some.injEq, Prod.mk.injEq] at h
      obtain ⟨rfl, rfl⟩ := h
      have main : ∀ (L : Loc), ρ id = some L → ∃ new', LRel ρ l new' ∧ l.length = m * k ∧ (loadCells ⟨L.blk, L.off + off, none⟩ (m * k)).run P w = .ok new'.toArray w ∧
          (loadCells ⟨L.blk, L.off + off, none⟩ (m * k)).run P w.drew = .ok new'.toArray w.drew := by
        intro L hL
        obtain ⟨l', hl, hrun, hc⟩ := run_rd (P := P) hR hrd hL
        refine ⟨l', hl, rd_len hrd, hrun, ?_⟩
        rw [← rd_len hrd, hl.1]
        exact run_loadCells_list w.drew _ l' (by simpa using hc)
      cases hx with
      | sliceX hL _ _ =>
        obtain ⟨new', a, b, c1, d⟩ := main _ hL
        exact ⟨new', a, b, by simp [Builtin.lenOf], by simpa [Builtin.firstCells] using c1, by simpa [Builtin.firstCells] using d⟩
      | sliceO hL _ _ =>
        obtain ⟨new', a, b, c1, d⟩ := main _ hL
        exact ⟨new', a, b, by simp [Builtin.lenOf], by simpa [Builtin.firstCells] using c1, by simpa [Builtin.firstCells] using d⟩
      | sliceE hL _ =>
        have : l = [] := by have := rd_len hrd; simpa using this
        subst this
        refine ⟨[], .nil, by simp, by simp [Builtin.lenOf], ?_, ?_⟩ <;> simp [Builtin.firstCells, loadCells, loadCellsFrom]
  · rename_i s
    split at h
    · rename_i hk
      subst hk
      simp only [Option.some.injEq, Prod.mk.injEq] at h
      obtain ⟨rfl, rfl⟩ := h
      cases hx
      have hs : (s.extract 0 s.size).data.map (fun b => Value.int .u8 b.toNat) = (s.data.toList.map fun b => Value.int .u8 b.toNat).toArray := by
        rw [ByteArray.data_extract]
        apply Array.ext'
        have h2 : s.data.extract 0 s.size = s.data := by show s.data.extract 0 s.data.size = s.data; simp
        rw [h2]
        simp
      refine ⟨_, .plain ?_, ?_, by simp [Builtin.lenOf], ?_, ?_⟩
      · intro v hv
        simp at hv
        obtain ⟨b, _, rfl⟩ := hv
        rfl
      · rw [List.length_map, Array.length_toList, Nat.mul_one]; rfl
      · simp only [Builtin.firstCells, hs]; rfl
      · simp only [Builtin.firstCells, hs]; rfl
    · exact absurd h (by simp)
  · exact absurd h (by simp)

/-- what append needs of its operation's types -/
structure ApT (P : Program) (ts : Array TypeId) (elem : TypeId) (i : TypeInfo) (z : Value) : Prop where
  hs : ∃ t, ts[0]? = some t ∧ P.underlying t = some (.slice elem) ∧ t < TB
  hi : P.info? elem = some i
  hzero : i.zero = some z

theorem notZeros_some {xt : TypeId} (h : notZeros P (some xt) = true) : ∃ d, P.underlying xt = some d ∧ ∀ k, d ≠ .int k := by
  unfold notZeros at h
  cases hu : P.underlying xt with
  | none => simp [hu] at h
  | some d =>
    refine ⟨d, rfl, fun k e => ?_⟩
    subst e
    simp [hu] at h

/-- what is appended -/
inductive Apd (P : Program) (ts : Array TypeId) (i : TypeInfo) (z x : Value) (n : Nat) (new' : List Value) (w : World) : Prop
  | els (hz : notZeros P ts[1]? = true) (h1 : (Builtin.lenOf x).run P w = .ok n w) (h2 : (Builtin.firstCells i.size n x).run P w = .ok new'.toArray w) (h3 : (Builtin.firstCells i.size n x).run P w.drew = .ok new'.toArray w.drew)
  | zeros {xt : TypeId} {k : IntKind} (hx : ts[1]? = some xt) (hu : P.underlying xt = some (.int k)) (hv : x = .int .i64 n) (hn : n * i.bytes ≤ 2 ^ 46) (hm : n ≤ 65536) (hsz : z.cells.size = i.size) (hnew : new' = (Builtin.zeroCells z.cells n).toList)

theorem ok_more (hR : R w0 S σ ρ w) {ts : Array TypeId} {i : TypeInfo} {z x x' : Value} {n : Nat} {new : List Value} (hzs : z.cells.size = i.size) (h : moreOf P σ ts[1]? i z x = some (n, new)) (hx : VRel ρ x x') :
    ∃ new', LRel ρ new new' ∧ new.length = n * i.size ∧ Apd P ts i z x' n new' w := by
  unfold moreOf at h
  split at h
  · rename_i hz
    obtain ⟨new', a, b, c, d, e⟩ := ok_elem (P := P) hR h hx
    exact ⟨new', a, b, .els hz c d e⟩
  · unfold zerosOf at h
    split at h
    · rename_i t m ht
      split at h
      · rename_i k hu
        split at h
        · rename_i hb
          simp only [Bool.and_eq_true, List.all_eq_true] at hb
          simp only [Option.some.injEq, Prod.mk.injEq] at h
          obtain ⟨rfl, rfl⟩ := h
          refine ⟨_, .plain ?_, ?_, .zeros ht hu (by cases hx; rfl) (ble_t hb.1.2) (ble_t hb.1.1) hzs rfl⟩
          · intro v hv
            simp only [Builtin.zeroCells, Array.toList_map, List.mem_map] at hv
            obtain ⟨j, hj, rfl⟩ := hv
            have hj : j < m * z.cells.size := by simpa using hj
            have hpos : 0 < z.cells.size := by
              rcases Nat.eq_zero_or_pos z.cells.size with e | e
              · rw [e] at hj; omega
              · exact e
            have hlt := Nat.mod_lt j hpos
            rw [getElem!_pos z.cells _ hlt]
            exact hb.2 _ (by simp)
          · rw [Array.length_toList, size_zeroCells, hzs]
        · exact absurd h (by simp)
      · exact absurd h (by simp)
    · exact absurd h (by simp)

theorem wrap_i64 {n : Nat} (h : n ≤ 65536) : IntKind.i64.wrap (n : Int) = n := by
  simp [IntKind.wrap, IntKind.signed, IntKind.bits]
  omega

theorem run_append_in {ts : Array TypeId} {elem ty : TypeId} {i : TypeInfo} {z : Value} (T : ApT P ts elem i z) {s x : Value} {a : Addr} {len cap n : Nat} {new' : List Value} {w' : World}
    (hs : s = .slice (some a) len cap) (A : Apd P ts i z x n new' w) (hle : len + n ≤ cap)
    (h3 : (storeCells (a.add (len * i.size)) new').run P w = .ok () w') (args : Array Value) (ha : args[0]? = some s) (hb : args[1]? = some x) :
    (Builtin.append_ ts ty args).run P w = .ok (.slice (some a) (len + n) cap) w' := by
  obtain ⟨⟨t, ht, hu, _⟩, hi, hzero⟩ := T
  subst hs
  cases A with
  | zeros hx hxu hv hnb hm hsz hnew =>
    subst hv; subst hnew
    have hneg : ¬ ((n : Int) < 0) := by omega
    have h48 : ¬ (281474976710656 < (n : Int) * i.bytes) := by
      have : ((n * i.bytes : Nat) : Int) = (n : Int) * i.bytes := by simp
      omega
    by_cases h0 : n * i.size = 0
    · have he : (Builtin.zeroCells z.cells n).toList = [] := by
        apply List.eq_nil_of_length_eq_zero
        rw [Array.length_toList, size_zeroCells, hsz, h0]
      rw [he] at h3
      simp [Builtin.append_, ht, ha, hb, hx, run_underlying hu, run_underlying hxu, sizeOf, typeInfo, hi, asInt, asIntOf, wrap_i64 hm, hneg, h48, hle, h0, h3]
    · simp [Builtin.append_, ht, ha, hb, hx, run_underlying hu, run_underlying hxu, sizeOf, typeInfo, hi, asInt, asIntOf, wrap_i64 hm, hneg, h48, hle, h0, h3, zeroValue, hzero]
  | els hz h1 h2 _ =>
  cases hts : ts[1]? with
  | none => simp [Builtin.append_, ht, ha, hb, hts, run_underlying hu, sizeOf, typeInfo, hi, h1, hle, h2, h3]
  | some xt =>
    rw [hts] at hz
    obtain ⟨d, hud, hne⟩ := notZeros_some hz
    cases d
    case int => exact absurd rfl (hne _)
    all_goals
      simp only [Builtin.append_, ht, ha, hb, hts, Sem.run_bind, run_underlying hu, run_underlying hud, Result.andThen_ok, sizeOf, typeInfo, hi, run_program, Sem.run_pure, Bool.false_eq_true, if_false, h1, if_pos hle, Sem.run_ite,
        Bool.not_false, if_true]
      simp [h2, h3]

theorem run_append_out {ts : Array TypeId} {elem ty : TypeId} {i : TypeInfo} {z : Value} (T : ApT P ts elem i z) {x : Value} {b : Option Addr} {len cap n : Nat} {old' new' : List Value}
    (A : Apd P ts i z x n new' w) (hgt : cap < len + n)
    (h3 : (Builtin.firstCells i.size len (.slice b len cap)).run P w.drew = .ok old'.toArray w.drew) (args : Array Value) (ha : args[0]? = some (.slice b len cap)) (hb : args[1]? = some x)
    (hby : (len + n) * i.bytes ≤ 2 ^ 46) (hmx : len + n ≤ 2 ^ 46) :
    (Builtin.append_ ts ty args).run P w = .ok (.slice (some ⟨w.heap.size, 0, none⟩) (len + n) (grownCap w (len + n) cap elem))
      (w.drew.alloc (.cells ((old' ++ new') ++ (Builtin.zeroCells z.cells (grownCap w (len + n) cap elem - (len + n))).toList).toArray elem)) := by
  obtain ⟨⟨t, ht, hu, _⟩, hi, hzero⟩ := T
  have hn : ¬ (len + n ≤ cap) := by omega
  have h63 : ¬ (((len + n : Nat) : Int) > IntKind.i64.max) := by
    have : IntKind.i64.max = 9223372036854775807 := by decide
    rw [this]; omega
  have h48 : ¬ (Builtin.nextslicecap (len + n) cap * i.bytes > 2 ^ 48) := by
    have h1 : Builtin.nextslicecap (len + n) cap * i.bytes ≤ 2 * (len + n) * i.bytes := Nat.mul_le_mul_right _ (nextslicecap_le (by omega))
    rw [Nat.mul_assoc] at h1
    omega
  have harr : ∀ Z : Array Value, old'.toArray ++ new'.toArray ++ Z = ((old' ++ new') ++ Z.toList).toArray := by intro Z; apply Array.ext'; simp
  cases A with
  | zeros hx hxu hv hnb hm hsz hnew =>
    subst hv; subst hnew
    have hneg : ¬ ((n : Int) < 0) := by omega
    have h48i : ¬ (281474976710656 < (n : Int) * i.bytes) := by
      have : ((n * i.bytes : Nat) : Int) = (n : Int) * i.bytes := by simp
      omega
    have h48' : ¬ (281474976710656 < Builtin.nextslicecap (len + n) cap * i.bytes) := by omega
    have h63' : ¬ (9223372036854775807 < (len : Int) + (n : Int)) := by omega
    by_cases h0 : n * i.size = 0
    · have he : Builtin.zeroCells z.cells n = #[] := by
        apply Array.eq_empty_of_size_eq_zero
        rw [size_zeroCells, hsz, h0]
      rw [he]
      simp [Builtin.append_, ht, ha, hb, hx, run_underlying hu, run_underlying hxu, sizeOf, typeInfo, hi, asInt, asIntOf, wrap_i64 hm, hneg, h48i, hn, h63', h48', h0, run_choose, Question.forced, run_askRoom, h3, zeroValue, hzero, newRow, run_newObj, grownCap]
      congr 2
      apply Array.ext'
      simp
    · simp [Builtin.append_, ht, ha, hb, hx, run_underlying hu, run_underlying hxu, sizeOf, typeInfo, hi, asInt, asIntOf, wrap_i64 hm, hneg, h48i, hn, h63', h48', h0, run_choose, Question.forced, run_askRoom, h3, zeroValue, hzero, newRow, run_newObj, grownCap]
      congr 2
      apply Array.ext'
      simp
  | els hz h1 _ h2 =>
  cases hts : ts[1]? with
  | none =>
    simp only [Builtin.append_, ht, ha, hb, hts, Sem.run_bind, run_underlying hu, Result.andThen_ok, sizeOf, typeInfo, hi, run_program, Sem.run_pure, Bool.false_eq_true, if_false, h1, if_neg hn, h63, h48, false_and,
      run_choose, Question.forced, run_askRoom, Sem.run_ite]
    have e3 : (Builtin.firstCells i.size len (.slice b len cap)).run P { w with drawn := w.drawn + 1 } = .ok old'.toArray { w with drawn := w.drawn + 1 } := h3
    have e2 : (Builtin.firstCells i.size n x).run P { w with drawn := w.drawn + 1 } = .ok new'.toArray { w with drawn := w.drawn + 1 } := h2
    simp only [e3, e2, Result.andThen_ok, zeroValue, typeInfo, Sem.run_bind, run_program, hi, Sem.run_pure, hzero, newRow, run_newObj, Bool.not_false, if_true]
    rw [harr]
    rfl
  | some xt =>
    rw [hts] at hz
    obtain ⟨d, hud, hne⟩ := notZeros_some hz
    cases d
    case int => exact absurd rfl (hne _)
    all_goals
      simp only [Builtin.append_, ht, ha, hb, hts, Sem.run_bind, run_underlying hu, run_underlying hud, Result.andThen_ok, sizeOf, typeInfo, hi, run_program, Sem.run_pure, Bool.false_eq_true, if_false, h1, if_neg hn, h63, h48, false_and,
        run_choose, Question.forced, run_askRoom, Sem.run_ite]
      have e3 : (Builtin.firstCells i.size len (.slice b len cap)).run P { w with drawn := w.drawn + 1 } = .ok old'.toArray { w with drawn := w.drawn + 1 } := h3
      have e2 : (Builtin.firstCells i.size n x).run P { w with drawn := w.drawn + 1 } = .ok new'.toArray { w with drawn := w.drawn + 1 } := h2
      simp only [e3, e2, Result.andThen_ok, zeroValue, typeInfo, Sem.run_bind, run_program, hi, Sem.run_pure, hzero, newRow, run_newObj, Bool.not_false, if_true]
      rw [harr]
      rfl

end
end Am
end Go
