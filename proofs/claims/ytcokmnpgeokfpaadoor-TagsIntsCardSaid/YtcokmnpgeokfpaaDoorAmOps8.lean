import Derived.Laws.Externs
import Derived.Test.YtcokmnpgeokfpaaDoorAmOps7
import Derived.Laws.Build
/- The abstract machine's operations and the model's: every operation. -/
set_option linter.unusedVariables false
set_option linter.unusedSimpArgs false
namespace Go
namespace Am
section
variable {P : Program} {w0 : World} {S : Own} {σ : AW} {ρ : Rho} {w : World}

/-- what is said of named values is so -/
def Says (S : Own) (ρ : Rho) : Prop := S.base.le ρ ∧ ∀ i L v, ρ i = some L → L.val = some v → S.spec i L

structure FactsOk (P : Program) (X : Facts) (S : Own) : Prop where
  bin : ∀ op x y r, (op, x, y, r) ∈ X.bin → ∀ ρ, Says S ρ → ∀ t xo yo x' y' w, VRel ρ x x' → VRel ρ y y' → ∃ r', (do eqGuard op t xo yo x' y'; binOp op t x' y' : Sem Value).run P w = .ok r' w ∧ VRel ρ r r'
  un : ∀ op x r, (op, x, r) ∈ X.un → ∀ ρ, Says S ρ → ∀ x' w, VRel ρ x x' → ∃ r', (Op.unary op x').run P w = .ok r' w ∧ VRel ρ r r'
  conv : ∀ s d x r, (s, d, x, r) ∈ X.conv → ∀ ρ, Says S ρ → ∀ x' w, VRel ρ x x' → ∃ r', (convert s d x').run P w = .ok r' w ∧ VRel ρ r r'
  len : ∀ t x r, (t, x, r) ∈ X.len → ∀ ρ, Says S ρ → ∀ (ts : Array TypeId) ty (args : Array Value) x' w, ts[0]? = some t → args[0]? = some x' → VRel ρ x x' → ∃ r', (Builtin.len_ ts ty args).run P w = .ok r' w ∧ VRel ρ r r'
  made : ∀ t l i, (t, l, i) ∈ X.made → ∀ ρ, Says S ρ → ∀ l' w, VRel ρ l l' → ∃ (n : Nat) (o : Obj), l' = .int .i64 n ∧ S.spec i ⟨w.heap.size, 0, 0, 0, some (.slice (some ⟨w.heap.size, 0, none⟩) n n), some o⟩ ∧ (Instr.makeSlice t l' l').run P w = .ok (.slice (some ⟨w.heap.size, 0, none⟩) n n) (w.alloc o)
  keys : ∀ kt k ns, (kt, k, ns) ∈ X.keys → ∀ ρ, Says S ρ → ∀ k' j, VRel ρ k k' → P.underlying kt = some (.int j) → ∃ a, k' = .int j a ∧ ∀ n ∈ ns, a ≠ n

theorem FactsOk.none (P : Program) (S : Own) : FactsOk P .none S :=
  ⟨fun _ _ _ _ h => by simp [Facts.none] at h, fun _ _ _ h => by simp [Facts.none] at h, fun _ _ _ _ h => by simp [Facts.none] at h, fun _ _ _ h => by simp [Facts.none] at h, fun _ _ _ h => by simp [Facts.none] at h, fun _ _ _ h => by simp [Facts.none] at h⟩

theorem R.says {σ : AW} {ρ : Rho} {w : World} (h : R w0 S σ ρ w) : Says S ρ := ⟨h.base, h.spec⟩

theorem lookBin_mem {op : BinOp} {x y r : Value} : ∀ {l : List (BinOp × Value × Value × Value)}, lookBin op x y l = some r → (op, x, y, r) ∈ l
  | [], h => by simp [lookBin] at h
  | (op', x', y', r') :: l, h => by
    unfold lookBin at h
    split at h
    · rename_i hb
      simp only [Bool.and_eq_true, decide_eq_true_eq] at hb
      obtain ⟨⟨h1, h2⟩, h3⟩ := hb
      cases h
      rw [h1, ← sameN_eq _ _ _ h2, ← sameN_eq _ _ _ h3]
      simp
    · exact List.mem_cons_of_mem _ (lookBin_mem h)
theorem lookUn_mem {op : UnOp} {x r : Value} : ∀ {l : List (UnOp × Value × Value)}, lookUn op x l = some r → (op, x, r) ∈ l
  | [], h => by simp [lookUn] at h
  | (op', x', r') :: l, h => by
    unfold lookUn at h
    split at h
    · rename_i hb
      simp only [Bool.and_eq_true, decide_eq_true_eq] at hb
      cases h
      rw [hb.1, ← sameN_eq _ _ _ hb.2]
      simp
    · exact List.mem_cons_of_mem _ (lookUn_mem h)
theorem lookConv_mem {s d : TypeId} {x r : Value} : ∀ {l : List (TypeId × TypeId × Value × Value)}, lookConv s d x l = some r → (s, d, x, r) ∈ l
  | [], h => by simp [lookConv] at h
  | (s', d', x', r') :: l, h => by
    unfold lookConv at h
    split at h
    · rename_i hb
      simp only [Bool.and_eq_true] at hb
      cases h
      rw [beq_t hb.1.1, beq_t hb.1.2, ← sameN_eq _ _ _ hb.2]
      simp
    · exact List.mem_cons_of_mem _ (lookConv_mem h)
theorem lookLen_mem {t : TypeId} {x r : Value} : ∀ {l : List (TypeId × Value × Value)}, lookLen t x l = some r → (t, x, r) ∈ l
  | [], h => by simp [lookLen] at h
  | (t', x', r') :: l, h => by
    unfold lookLen at h
    split at h
    · rename_i hb
      simp only [Bool.and_eq_true] at hb
      cases h
      rw [beq_t hb.1, ← sameN_eq _ _ _ hb.2]
      simp
    · exact List.mem_cons_of_mem _ (lookLen_mem h)

theorem lookMk_mem {t : TypeId} {x : Value} {i : Nat} : ∀ {l : List (TypeId × Value × Nat)}, lookMk t x i l = true → (t, x, i) ∈ l
  | [], h => by simp [lookMk] at h
  | (t', x', i') :: l, h => by
    unfold lookMk at h
    split at h
    · rename_i hb
      simp only [Bool.and_eq_true] at hb
      rw [beq_t hb.1.1, ← sameN_eq _ _ _ hb.1.2, beq_t hb.2]
      simp
    · exact List.mem_cons_of_mem _ (lookMk_mem h)

theorem lookKey_mem {kt : TypeId} {k : Value} {ns : List Int} : ∀ {l : List (TypeId × Value × List Int)}, lookKey kt k l = some ns → (kt, k, ns) ∈ l
  | [], h => by simp [lookKey] at h
  | (t', x', ns') :: l, h => by
    unfold lookKey at h
    split at h
    · rename_i hb
      simp only [Bool.and_eq_true] at hb
      cases h
      rw [beq_t hb.1, ← sameN_eq _ _ _ hb.2]
      simp
    · exact List.mem_cons_of_mem _ (lookKey_mem h)

theorem otherKeys_now {j : IntKind} {a : Int} {ns : List Int} (hns : ∀ n ∈ ns, a ≠ n) : ∀ {l m : List MapEntry} {i : Nat}, MRel ρ l m → otherKeys j ns l = true → Instr.findNow (.int j) (.int j a) m i = some none
  | [], m, i, h, _ => by
    have : m = [] := List.eq_nil_of_length_eq_zero h.1.symm
    subst this
    rfl
  | e :: l, m, i, h, ho => by
    obtain ⟨f, m', rfl, hb, hk, hv, hm⟩ := h.of_cons
    unfold otherKeys at ho
    split at ho
    · rename_i j' b he
      simp only [Bool.and_eq_true, decide_eq_true_eq, List.any_eq_true] at ho
      obtain ⟨⟨h1, n, hn, h2⟩, h3⟩ := ho
      subst h1
      rw [he] at hk
      have hfk := hk.int_inv
      have hne : (a == b) = false := by
        have := hns n hn
        rw [h2] at this
        simpa using this
      simp only [Instr.findNow, hfk, Instr.sameNow, if_true, hne]
      exact otherKeys_now hns hm h3
    · exact absurd ho (by simp)

theorem ok_lookupK (hR : R w0 S σ ρ w) {X : Facts} (hX : FactsOk P X S) {t : TypeId} {m m' k k' v : Value} {ok : Bool} (h : lookupK P X σ t m k ok = some v) (hm : VRel ρ m m') (hk : VRel ρ k k') :
    ∃ v', (Instr.lookup t m' k' ok).run P w = .ok v' w ∧ VRel ρ v v' := by
  unfold lookupK at h
  split at h
  · rename_i kt et hu
    split at h
    · rename_i es ck ns j hmo hkf hku
      obtain ⟨a, rfl, hns⟩ := hX.keys _ _ _ (lookKey_mem hkf) ρ hR.says k' j hk hku
      split at h
      · rename_i z ho hz
        simp only [Option.some.injEq] at h
        subst h
        have two : VRel ρ (if ok then .tuple #[z, .bool false] else z) (if ok then .tuple #[z, .bool false] else z) := by
          have hzz := plain_rel ρ (zeroT_plain hz)
          split
          · have : ARel ρ #[z, .bool false] #[z, .bool false] := (LRel.cons hzz (LRel.cons (.bool false) .nil)).toA
            exact .tuple this.1 this.2
          · exact hzz
        refine ⟨if ok then .tuple #[z, .bool false] else z, ?_, two⟩
        rcases ok_mapOf hR hmo hm with ⟨rfl, rfl⟩ | ⟨r, es', rfl, hh, hrel⟩
        · have hf : (Instr.findKey kt (.int j a) []).run P w = .ok none w := run_findKey hku rfl w
          simp [Instr.lookup, run_underlying hu, run_checkKey hku, hf, run_zeroT hz]
        · have hf := run_findKey (P := P) hku (otherKeys_now (i := 0) hns hrel ho) w
          simp [Instr.lookup, run_underlying hu, run_checkKey hku, hf, run_zeroT hz, run_getMap hh]
      · exact absurd h (by simp)
    · exact absurd h (by simp)
  · exact absurd h (by simp)

theorem ok_intBin {op : BinOp} {x y x' y' v : Value} (h : intBin op x y = some v) (hx : VRel ρ x x') (hy : VRel ρ y y') (t : TypeId) (xo yo : Operand) :
    (do eqGuard op t xo yo x' y'; binOp op t x' y' : Sem Value).run P w = .ok v w ∧ VRel ρ v v := by
  unfold intBin at h
  split at h
  · rename_i k a k' b
    rw [hx.int_inv, hy.int_inv]
    split at h
    · rename_i hk
      have hk : k = k' := by simpa using hk
      subst hk
      split at h
      case h_10 => exact absurd h (by simp)
      all_goals
        simp only [Option.some.injEq] at h
        subst h
        refine ⟨?_, ?_⟩
        · simp [eqGuard, binOp, Op.intArith, Op.intCmp]
          try rfl
        · first | exact .int _ _ | exact .bool _
    · exact absurd h (by simp)
  · exact absurd h (by simp)

theorem ok_len (hR : R w0 S σ ρ w) {ts : Array TypeId} {t ty : TypeId} {x x' v : Value} (hts : ts[0]? = some t) (h : lenA P σ t x = some v) (hx : VRel ρ x x') (args : Array Value) (ha : args[0]? = some x') :
    (Builtin.len_ ts ty args).run P w = .ok v w ∧ VRel ρ v v := by
  unfold lenA at h
  split at h
  · rename_i s hu
    cases h; cases hx
    exact ⟨by simp [Builtin.len_, hts, ha, run_underlying hu], plain_rel ρ rfl⟩
  · rename_i n e hu
    cases h
    exact ⟨by simp [Builtin.len_, hts, ha, run_underlying hu], plain_rel ρ rfl⟩
  · rename_i e a n c hu
    cases h
    cases hx <;> exact ⟨by simp [Builtin.len_, hts, ha, run_underlying hu], plain_rel ρ rfl⟩
  · rename_i m _ _ k e hu
    cases hmo : mapOf σ m with
    | none => rw [hmo] at h; simp at h
    | some p =>
      obtain ⟨es, ck⟩ := p
      rw [hmo] at h
      simp only [Option.map_some, Option.some.injEq] at h
      subst h
      refine ⟨?_, plain_rel ρ rfl⟩
      rcases ok_mapOf hR hmo hx with ⟨rfl, rfl⟩ | ⟨r, es', rfl, hh, hrel⟩
      · simp [Builtin.len_, hts, ha, run_underlying hu]
      · have : es'.size = es.length := by rw [hrel.1]; simp
        simp [Builtin.len_, hts, ha, run_underlying hu, run_getMap hh, this]
  · rename_i hu
    split at h
    · rename_i n e hu2
      cases h
      exact ⟨by simp [Builtin.len_, hts, ha, run_underlying hu, run_underlying hu2], plain_rel ρ rfl⟩
    · exact absurd h (by simp)
  · exact absurd h (by simp)

theorem ok_cap {ts : Array TypeId} {t ty : TypeId} {x x' v : Value} (hts : ts[0]? = some t) (h : capA P t x = some v) (hx : VRel ρ x x') (args : Array Value) (ha : args[0]? = some x') :
    (Builtin.cap_ ts ty args).run P w = .ok v w ∧ VRel ρ v v := by
  unfold capA at h
  split at h
  · rename_i e a n c hu
    split at h
    · rename_i hc
      have hc := ble_t hc
      cases h
      cases hx with
      | slice0 => exact ⟨by simp [Builtin.cap_, hts, ha, run_underlying hu], plain_rel ρ rfl⟩
      | sliceX hL _ _ => exact ⟨by simp [Builtin.cap_, hts, ha, run_underlying hu], plain_rel ρ rfl⟩
      | sliceO hL _ _ => exact absurd hc open_big
      | sliceE hL _ => exact absurd hc empty_big
    · exact absurd h (by simp)
  · rename_i hu
    cases h
    exact ⟨by simp [Builtin.cap_, hts, ha, run_underlying hu], plain_rel ρ rfl⟩
  · exact absurd h (by simp)

/-- what an operation comes to -/
inductive Out (w0 : World) (S : Own) (σ : AW) (ρ : Rho) : ARes → Result Next → Prop
  | val {v v' : Value} {w' : World} {ρ' : Rho} (hle : ρ.le ρ') (hv : VRel ρ' v v') (hR : R w0 S σ ρ' w') : Out w0 S σ ρ (.val v) (.ok (.value v') w')
  | eff {v v' : Value} {σ' : AW} {w' : World} {ρ' : Rho} (hle : ρ.le ρ') (hv : VRel ρ' v v') (hR : R w0 S σ' ρ' w') : Out w0 S σ ρ (.eff v σ') (.ok (.value v') w')
  | skip {σ' : AW} {w' : World} {ρ' : Rho} (hle : ρ.le ρ') (hR : R w0 S σ' ρ' w') : Out w0 S σ ρ (.eff undef σ') (.ok .skip w')
  | call {f : FuncId} {args args' : Array Value} {w' : World} (ha : ARel ρ args args') (hR : R w0 S σ ρ w') : Out w0 S σ ρ (.call f args) (.ok (.enter f args') w')
  | pan {v v' : Value} {w' : World} (hv : VRel ρ v v') (hR : R w0 S σ ρ w') : Out w0 S σ ρ (.pan v) (.halt (.panic v') w')
  | defer {f : FuncId} {c c' x x' : Array Value} {w' : World} (hc : ARel ρ c c') (hx : ARel ρ x x') (hR : R w0 S σ ρ w') :
      Out w0 S σ ρ (.defer { target := .fn (.func f) c, args := x }) (.ok (.defer { target := .fn (.func f) c', args := x' }) w')
  | recover {w' : World} (hR : R w0 S σ ρ w') : Out w0 S σ ρ .recover (.ok .recover w')

theorem ARel.map {ev e' : Operand → Value} {xs : Array Operand} (h : ∀ x ∈ xs, VRel ρ (ev x) (e' x)) : ARel ρ (xs.map ev) (xs.map e') := by
  refine ⟨by simp, fun i v v' x y => ?_⟩
  rw [Array.getElem?_map] at x y
  cases hx : xs[i]? with
  | none => rw [hx] at x; simp at x
  | some o =>
    rw [hx] at x y
    simp at x y
    subst x; subst y
    exact h o (Array.mem_of_getElem? hx)

theorem ARel.append {a b c d : Array Value} (h : ARel ρ a b) (k : ARel ρ c d) : ARel ρ (a ++ c) (b ++ d) := by
  have := (LRel.append h.toL k.toL).toA
  have e : ∀ x y : Array Value, (x.toList ++ y.toList).toArray = x ++ y := fun x y => by apply Array.ext'; simp
  rw [e, e] at this
  exact this

theorem all_same {ev e' : Operand → Value} {xs : Array Operand} (h : ∀ x ∈ xs, VRel ρ (ev x) (e' x)) (hp : xs.toList.all (fun x => plain (ev x)) = true) : ∀ x ∈ xs, ev x = e' x := by
  intro x hx
  rw [List.all_eq_true] at hp
  exact plain_eq (h x hx) (hp x (by rw [Array.mem_toList_iff]; exact hx))

/-- an operation that asks nothing of memory, on operands without an address -/
theorem ok_pure (hR : R w0 S σ ρ w) {ev e' : Operand → Value} {o : Oper} {r : ARes} (hs : ∀ cs b, o.op ≠ .select cs b) (h : pureVal P (execOp ev o) = some r) (hev : ∀ x ∈ o.op.operands, ev x = e' x) :
    Out w0 S σ ρ r ((execOp e' o).run P w) := by
  unfold pureVal at h
  split at h
  · rename_i v hp
    split at h
    · rename_i hpl
      cases h
      rw [← execOp_congr o hs hev, run_pureOf _ _ hp w]
      exact .val ρ.le_refl (plain_rel ρ hpl) hR
    · exact absurd h (by simp)
  · exact absurd h (by simp)


theorem run_noEscape {P : Program} {f : FuncId} {fn : Func} (hf : P.funcs[f]? = some fn) (h1 : (fn.name == "internal/abi.NoEscape") = true) (h2 : (fn.origin == "") = true) (h3 : fn.body.isNone = true) (v : Value) (w : World) :
    (callFunc f #[v]).run P w = .ok (.value v) w := by
  have e1 : fn.name = "internal/abi.NoEscape" := by simpa using h1
  have e2 : fn.origin = "" := by simpa using h2
  rw [run_callFunc_extern (e := Extern.AbiNoEscape.same) hf (by rw [e1]; decide +kernel) h3 (by unfold Extern.findNext; rw [e1, e2]; rfl) (by unfold Extern.find; rw [e1, e2]; rfl)]
  rfl

theorem aop_sound [NoEx P S] (hR : R w0 S σ ρ w) {ev e' : Operand → Value} {o : Oper} {r : ARes} {X : Facts} (hX : FactsOk P X S) (h : aop P X ev o σ = some r) (hev : ∀ x ∈ o.op.operands, VRel ρ (ev x) (e' x)) :
    Out w0 S σ ρ r ((execOp e' o).run P w) := by
  obtain ⟨dst, op, type, pos, after, guard⟩ := o
  cases op <;> simp only [aop] at h <;> simp only [Op.operands] at hev
  case move x => cases h; exact .val ρ.le_refl (hev x (by simp)) hR
  case assign x => cases h; exact .val ρ.le_refl (hev x (by simp)) hR
  case pick c a b =>
    unfold pickA at h
    have h1 := hev c (by simp)
    split at h
    · rename_i hc
      cases h
      rw [hc] at h1
      have h2 : e' c = .bool true := (plain_eq h1 rfl).symm
      simp only [execOp, Sem.run_bind, h2, asBool, Sem.run_pure, Result.andThen_ok]
      exact .val ρ.le_refl (hev a (by simp)) hR
    · rename_i hc
      cases h
      rw [hc] at h1
      have h2 : e' c = .bool false := (plain_eq h1 rfl).symm
      simp only [execOp, Sem.run_bind, h2, asBool, Sem.run_pure, Result.andThen_ok]
      exact .val ρ.le_refl (hev b (by simp)) hR
    · exact absurd h (by simp)
  case extract t i =>
    unfold extractA at h
    split at h
    · rename_i vs ht
      split at h
      · rename_i v hv
        cases h
        have h1 := hev t (by simp)
        rw [ht] at h1
        generalize hq : e' t = q at h1
        cases h1 with
        | tuple a b =>
          obtain ⟨v', hv', hrel⟩ := ARel.get ⟨a, b⟩ hv
          simp only [execOp, Sem.run_bind, hq, Instr.extract, hv', Sem.run_pure, Result.andThen_ok]
          exact .val ρ.le_refl hrel hR
      · exact absurd h (by simp)
    · exact absurd h (by simp)
  case alloc e =>
    unfold allocA at h
    split at h
    · rename_i z hz
      unfold boxA at h
      split at h
      · rename_i id σ' hn
        cases h
        obtain ⟨ρ', a, b, c⟩ := ok_var hR hn (plain_cells (zeroT_plain hz))
        have : (execOp e' { dst := dst, op := .alloc e, type := type, pos := pos, after := after, guard := guard }).run P w = .ok (.value (.pointer (some ⟨w.heap.size, 0, none⟩))) (w.alloc (.cells z.cells e)) := by
          simp [execOp, Instr.alloc, run_zeroT hz, newVar, newRow]
        rw [this]
        exact .eff a b c
      · exact absurd h (by simp)
    · exact absurd h (by simp)
  case box e x =>
    unfold boxA at h
    split at h
    · rename_i id σ' hn
      cases h
      obtain ⟨ρ', a, b, c⟩ := ok_var hR hn (hev x (by simp)).cellsA
      have : (execOp e' { dst := dst, op := .box e x, type := type, pos := pos, after := after, guard := guard }).run P w = .ok (.value (.pointer (some ⟨w.heap.size, 0, none⟩))) (w.alloc (.cells (e' x).cells e)) := by
        simp [execOp, Instr.box, newVar, newRow]
      rw [this]
      exact .eff a b c
    · exact absurd h (by simp)
  case build t parts =>
    cases hb : buildA P t (parts.map fun (i, x) => (i, ev x)) with
    | none => rw [hb] at h; simp [valOf] at h
    | some v =>
      rw [hb] at h
      simp only [valOf, Option.some.injEq] at h
      subst h
      have hp : PRel ρ (parts.map fun (i, x) => (i, ev x)).toList (parts.map fun (i, x) => (i, e' x)).toList := by
        refine ⟨by simp, fun i x y hx hy => ?_⟩
        simp only [Array.toList_map, List.getElem?_map] at hx hy
        cases hq : parts.toList[i]? with
        | none => rw [hq] at hx; simp at hx
        | some q =>
          rw [hq] at hx hy
          simp at hx hy
          subst hx; subst hy
          exact ⟨rfl, hev q.2 (by simp; exact ⟨q.1, by rw [← Array.mem_toList_iff]; exact List.mem_of_getElem? hq⟩)⟩
      obtain ⟨v', hrun, hrel⟩ := ok_build (w := w) hb hp
      simp only [execOp, Sem.run_bind, hrun, Result.andThen_ok, Sem.run_pure]
      exact .val ρ.le_refl hrel hR
  case buildSlice t len parts =>
    unfold buildSliceA at h
    split at h
    · rename_i elem hu
      split at h
      · rename_i k z hk hz
        split at h
        · rename_i hb
          simp only [Bool.and_eq_true] at hb
          obtain ⟨⟨b1, b2⟩, b3⟩ := hb
          have b1 := ble_t b1; have b2 := ble_t b2; have b3 := beq_t b3
          split at h
          · rename_i cs hf
            split at h
            · rename_i id σ' hn
              cases h
              have hp : PRel ρ (parts.map fun (i, x) => (i, ev x)).toList (parts.map fun (i, x) => (i, e' x)).toList := by
                refine ⟨by simp, fun i x y hx hy => ?_⟩
                simp only [Array.toList_map, List.getElem?_map] at hx hy
                cases hq : parts.toList[i]? with
                | none => rw [hq] at hx; simp at hx
                | some q =>
                  rw [hq] at hx hy
                  simp at hx hy
                  subst hx; subst hy
                  exact ⟨rfl, hev q.2 (by simp; exact ⟨q.1, by rw [← Array.mem_toList_iff]; exact List.mem_of_getElem? hq⟩)⟩
              obtain ⟨cs', hf', hrel⟩ := fill_rel _ _ _ _ _ _ hp (madeRow_rel (plain_cells (zeroT_plain hz)) (len * k) (by omega)) hf
              obtain ⟨ρ', a, b, c⟩ := ok_row hR hn hrel (Nat.le_refl len) (by
                have : len * 1 ≤ len * k := Nat.mul_le_mul_left _ b2
                omega)
              have : (execOp e' { dst := dst, op := .buildSlice t len parts, type := type, pos := pos, after := after, guard := guard }).run P w = .ok (.value (.slice (some ⟨w.heap.size, 0, none⟩) len len)) (w.alloc (.cells cs' elem)) := by
                have hnot : ¬ (len * k > 2 ^ 24) := by omega
                by_cases h0 : len * k = 0
                · have hrow : madeRow z.cells (len * k) = (Array.range (len * k)).map ((#[] : Array Value)[· % (#[] : Array Value).size]!) := by
                    rw [h0]; simp [madeRow, Array.range_zero']
                  rw [hrow] at hf'
                  simp only [execOp, Instr.buildSlice, Sem.run_bind, run_underlying hu, Result.andThen_ok, run_sizeT hk, Sem.run_ite, if_neg hnot, if_pos h0, Sem.run_pure, hf', newRow, run_newObj]
                  rfl
                · have hf2 : Instr.fill (fun i => some (i * k, k)) ((Array.range (len * k)).map (z.cells[· % z.cells.size]!)) (parts.map fun (i, x) => (i, e' x)).toList = some cs' := hf'
                  simp only [execOp, Instr.buildSlice, Sem.run_bind, run_underlying hu, Result.andThen_ok, run_sizeT hk, Sem.run_ite, if_neg hnot, if_neg h0, run_zeroT hz, Sem.run_pure, hf2, newRow, run_newObj]
                  rfl
              rw [this]
              exact .eff a b c
            · exact absurd h (by simp)
          · exact absurd h (by simp)
        · exact absurd h (by simp)
      · exact absurd h (by simp)
    · exact absurd h (by simp)
  case load t a =>
    cases hl : loadA P σ t (ev a) with
    | none => rw [hl] at h; simp [valOf, skipOf] at h
    | some v =>
      rw [hl] at h
      simp only [valOf, Option.some.injEq] at h
      subst h
      obtain ⟨v', hrun, hrel⟩ := ok_load (P := P) hR hl (hev a (by simp))
      simp only [execOp, Sem.run_bind, hrun, Result.andThen_ok, Sem.run_pure]
      exact .val ρ.le_refl hrel hR
  case store t a x =>
    cases hl : storeA P σ t (ev a) (ev x) with
    | none => rw [hl] at h; simp [valOf, skipOf] at h
    | some σ' =>
      rw [hl] at h
      simp only [skipOf, Option.some.injEq] at h
      subst h
      obtain ⟨w', hrun, hR'⟩ := ok_store (P := P) hR hl (hev a (by simp)) (hev x (by simp))
      simp only [execOp, Sem.run_bind, hrun, Result.andThen_ok, Sem.run_pure]
      exact .skip ρ.le_refl hR'
  case nilCheck x =>
    have h1 := hev x (by simp)
    generalize hq : e' x = q at h1
    unfold nilCheckA at h
    split at h
    · rename_i a he
      cases h
      rw [he] at h1
      cases h1 with
      | ptr hL =>
        simp only [execOp, hq]
        exact .val ρ.le_refl (.ptr hL) hR
    · rename_i f a c he
      cases h
      rw [he] at h1
      cases h1 with
      | func p1 p2 p3 p4 =>
        simp only [execOp, hq]
        exact .val ρ.le_refl (.func p1 p2 p3 p4) hR
    · rename_i t v he
      cases h
      rw [he] at h1
      cases h1 with
      | iface p =>
        simp only [execOp, hq]
        exact .val ρ.le_refl (.iface p) hR
    · exact absurd h (by simp)
  case binOp op t x y yt =>
    unfold binA at h
    split at h
    · rename_i v hv
      cases h
      obtain ⟨hrun, hvv⟩ := ok_intBin (P := P) (w := w) hv (hev x (by simp)) (hev y (by simp)) t x y
      simp only [execOp, Sem.run_bind] at hrun ⊢
      rw [hrun]
      exact .val ρ.le_refl hvv hR
    · split at h
      · rename_i v hv
        cases h
        unfold eqBin at hv
        split at hv
        · split at hv
          · rename_i b hb
            cases hv
            have := ok_eqNil (w := w) hb (hev x (by simp)) (hev y (by simp)) .eql x y (.inl rfl)
            simp only [execOp, Sem.run_bind] at this ⊢
            rw [this]
            exact .val ρ.le_refl (.bool _) hR
          · exact absurd hv (by simp)
        · split at hv
          · rename_i b hb
            cases hv
            have := ok_eqNil (w := w) hb (hev x (by simp)) (hev y (by simp)) .neq x y (.inr rfl)
            simp only [execOp, Sem.run_bind] at this ⊢
            rw [this]
            exact .val ρ.le_refl (.bool _) hR
          · exact absurd hv (by simp)
        · exact absurd hv (by simp)
      · split at h
        · rename_i hp
          simp only [Bool.and_eq_true] at hp
          refine ok_pure hR (by simp) h ?_
          intro u hu
          simp only [Op.operands] at hu
          simp at hu
          rcases hu with rfl | rfl
          · exact plain_eq (hev _ (by simp)) hp.1
          · exact plain_eq (hev _ (by simp)) hp.2
        · cases hl : lookBin op (ev x) (ev y) X.bin with
          | none => rw [hl] at h; simp at h
          | some v =>
            rw [hl] at h
            simp only [Option.map_some, Option.some.injEq] at h
            subst h
            obtain ⟨r', hrun, hrel⟩ := hX.bin _ _ _ _ (lookBin_mem hl) ρ hR.says t x y _ _ w (hev x (by simp)) (hev y (by simp))
            simp only [execOp, Sem.run_bind] at hrun ⊢
            rw [hrun]
            exact .val ρ.le_refl hrel hR
  case unOp op t x =>
    unfold unA at h
    split at h
    · rename_i v hv
      cases h
      unfold notA at hv
      split at hv
      · rename_i b hb
        cases hv
        have h1 := hev x (by simp)
        rw [hb] at h1
        have h2 : e' x = .bool b := (plain_eq h1 rfl).symm
        simp only [execOp, Sem.run_bind, h2, Op.unary, Sem.run_pure, Result.andThen_ok]
        exact .val ρ.le_refl (.bool _) hR
      · exact absurd hv (by simp)
    · split at h
      · rename_i hp
        refine ok_pure hR (by simp) h ?_
        intro u hu
        simp only [Op.operands] at hu
        simp at hu
        subst hu
        exact plain_eq (hev _ (by simp)) hp
      · cases hl : lookUn op (ev x) X.un with
        | none => rw [hl] at h; simp at h
        | some v =>
          rw [hl] at h
          simp only [Option.map_some, Option.some.injEq] at h
          subst h
          obtain ⟨r', hrun, hrel⟩ := hX.un _ _ _ (lookUn_mem hl) ρ hR.says _ w (hev x (by simp))
          simp only [execOp, Sem.run_bind] at hrun ⊢
          rw [hrun]
          exact .val ρ.le_refl hrel hR
  case index t x i =>
    unfold indexA at h
    split at h
    · rename_i hp
      simp only [Bool.and_eq_true] at hp
      refine ok_pure hR (by simp) h ?_
      intro u hu
      simp only [Op.operands] at hu
      simp at hu
      rcases hu with rfl | rfl
      · exact plain_eq (hev _ (by simp)) hp.1
      · exact plain_eq (hev _ (by simp)) hp.2
    · exact absurd h (by simp)
  case convert s d x =>
    unfold convA at h
    split at h
    · rename_i v hv
      cases h
      unfold intConv at hv
      split at hv
      · rename_i k n hx
        have h1 := hev x (by simp)
        rw [hx] at h1
        have h2 := h1.int_inv
        split at hv
        · rename_i ds k' hs hd
          cases hv
          simp only [execOp, Sem.run_bind, h2, convert, run_underlying hs, run_underlying hd, Result.andThen_ok, Conv.intToInt, Sem.run_pure]
          exact .val ρ.le_refl (.int _ _) hR
        · exact absurd hv (by simp)
      · exact absurd hv (by simp)
    · split at h
      · rename_i r' hc
        cases h
        obtain ⟨v', w', ρ', hrun, hle, hr⟩ := ok_convert (P := P) hR hc (hev x (by simp))
        simp only [execOp, Sem.run_bind, hrun, Result.andThen_ok, Sem.run_pure]
        rcases hr with ⟨v, rfl, hv, hR'⟩ | ⟨v, σ', rfl, hv, hR'⟩
        · exact .val hle hv hR'
        · exact .eff hle hv hR'
      · split at h
        · rename_i hp
          refine ok_pure hR (by simp) h ?_
          intro u hu
          simp only [Op.operands] at hu
          simp at hu
          subst hu
          exact plain_eq (hev _ (by simp)) hp
        · cases hl : lookConv s d (ev x) X.conv with
          | none => rw [hl] at h; simp at h
          | some v =>
            rw [hl] at h
            simp only [Option.map_some, Option.some.injEq] at h
            subst h
            obtain ⟨r', hrun, hrel⟩ := hX.conv _ _ _ _ (lookConv_mem hl) ρ hR.says _ w (hev x (by simp))
            simp only [execOp, Sem.run_bind, hrun, Result.andThen_ok, Sem.run_pure]
            exact .val ρ.le_refl hrel hR
  case makeInterface t x =>
    unfold makeIfaceA at h
    split at h
    · exact absurd h (by simp)
    · exact absurd h (by simp)
    · rename_i d hne hu
      cases h
      have hcon : P.concrete t = true := by
        unfold Program.concrete
        rw [hu]
        cases d <;> first | rfl | exact (hne _ rfl).elim
      simp only [execOp, Sem.run_bind, run_makeInterface w t (e' x) hcon, Result.andThen_ok, Sem.run_pure]
      exact .val ρ.le_refl (.iface (hev x (by simp))) hR
  case makeFunc fn first captured =>
    cases h
    have h1 := ARel.map (ρ := ρ) (xs := first) (ev := ev) (e' := e') fun x hx => hev x (by simp [hx])
    have h2 := ARel.map (ρ := ρ) (xs := captured) (ev := ev) (e' := e') fun x hx => hev x (by simp [hx])
    simp only [execOp, Instr.makeFunc, Sem.run_bind, Sem.run_pure, Result.andThen_ok]
    exact .val ρ.le_refl (.func h1.1 h1.2 h2.1 h2.2) hR
  case makeMap t r0 =>
    unfold makeMapA at h
    split at h
    · rename_i id σ' hn
      cases h
      obtain ⟨hid, _, _⟩ := AW.new_eq hn
      have hle : ρ.le (ρ.put id ⟨w.heap.size, 0, 0, 0, none, none⟩) := Rho.le_put (by rw [hid]; exact hR.dom _ (Nat.le_refl _))
      obtain ⟨h1, h2⟩ := hR.alloc hn (L := ⟨w.heap.size, 0, 0, 0, none, none⟩) (p := .map #[] 0) rfl rfl rfl (fun _ _ _ e => by cases e) ⟨rfl, rfl, fun i e e' x => by simp at x⟩
      have : (execOp e' { dst := dst, op := .makeMap t none, type := type, pos := pos, after := after, guard := guard }).run P w = .ok (.value (.map (some w.heap.size))) (w.alloc (.map #[] 0)) := by
        simp [execOp, Instr.makeMap]
      rw [this]
      exact .eff h1 (.map (Rho.put_same _ _ _)) h2
    · exact absurd h (by simp)
  case makeSlice t l c =>
    unfold mkA at h
    split at h
    · rename_i hmk
      simp only [Bool.and_eq_true] at hmk
      obtain ⟨⟨hm1, hm2⟩, hm3⟩ := hmk
      cases h
      have hlc : ev l = ev c := sameN_eq _ _ _ hm2
      have h1 := hev l (by simp)
      have h2 := hev c (by simp)
      rw [← hlc] at h2
      obtain ⟨n, o, hl', hspec, hrun⟩ := hX.made _ _ _ (lookMk_mem hm1) ρ hR.says (e' l) w h1
      have hcl : e' c = e' l := by
        rw [hl'] at h1
        generalize hq : ev l = q at h1 h2
        cases h1 with
        | int => rw [hl']; exact h2.int_inv
        | @sym id L v ha hb hc =>
          generalize hq2 : e' c = q2 at h2
          cases h2 with
          | @sym id2 L2 v2 ha2 hb2 hc2 =>
            rw [ha] at ha2
            cases ha2
            rw [hb] at hb2
            cases hb2
            rw [hl']
      obtain ⟨hle, hR'⟩ := hR.name (L := ⟨w.heap.size, 0, 0, 0, some (.slice (some ⟨w.heap.size, 0, none⟩) n n), some o⟩) (fun _ _ => hspec) (blt_t hm3) (w' := w.alloc o) rfl rfl rfl (by show w.heap.size ≤ (w.heap.push o).size; rw [Array.size_push]; omega)
        (fun b hb => heap_alloc_old w o b hb) (fun o' e => by cases e; exact ⟨heap_alloc_new w o, Nat.le_refl _⟩)
      simp only [execOp, Sem.run_bind, hcl, hrun, Result.andThen_ok, Sem.run_pure]
      exact .eff hle (.sym (Rho.put_same _ _ _) rfl rfl) hR'
    unfold makeSliceA at h
    split at h
    · rename_i elem kl l kc c hu hl hc
      split at h
      · rename_i i z hi hz
        split at h
        · rename_i hb
          simp only [Bool.and_eq_true] at hb
          obtain ⟨⟨⟨⟨b1, b2⟩, b3⟩, b4⟩, b5⟩ := hb
          have b1 := ble_t b1; have b2 := ble_t b2; have b3 := ble_t b3; have b4 := beq_t b4; have b5 := ble_t b5
          split at h
          · rename_i id σ' hn
            cases h
            have e1 : e' _ = _ := (hl ▸ hev _ (by simp)).int_inv
            have e2 : e' _ = _ := (hc ▸ hev _ (by simp)).int_inv
            have hzr : i.zero = some z := by
              unfold zeroT at hz
              rw [hi] at hz
              simp only [Option.bind_some] at hz
              split at hz
              · rename_i z' hz'
                split at hz
                · cases hz; exact hz'
                · exact absurd hz (by simp)
              · exact absurd hz (by simp)
            obtain ⟨ρ', a, b, cR⟩ := ok_row hR hn (madeRow_rel (plain_cells (zeroT_plain hz)) (c * i.size) (by omega)) b1 (by omega)
            have hm := run_make (P := P) w t elem i z hu hi hzr kl kc (Int.ofNat l) (Int.ofNat c) (Int.natCast_nonneg _) (by show (l : Int) ≤ (c : Int); omega)
              (by show (i.bytes : Int) * (c : Int) ≤ _; have : ((i.bytes * c : Nat) : Int) ≤ 281474976710656 := by omega
                  rwa [Int.natCast_mul] at this) (by show (c : Int) ≤ _; omega)
            simp only [execOp, Sem.run_bind, e1, e2, hm, Result.andThen_ok, Sem.run_pure]
            exact .eff a b cR
          · exact absurd h (by simp)
        · exact absurd h (by simp)
      · exact absurd h (by simp)
    · exact absurd h (by simp)
  case slice t x lo hi mx =>
    have opr : ∀ y : Option Operand, (∀ u, y = some u → VRel ρ (ev u) (e' u)) → OpRel ρ (y.map ev) (y.map e') := by
      intro y hy
      cases y with
      | none => exact trivial
      | some u => exact hy u rfl
    unfold slcA at h
    split at h
    · rename_i s hs
      split at h
      · rename_i hp
        refine ok_pure hR (by simp) h ?_
        exact all_same hev hp
      · exact absurd h (by simp)
    · obtain ⟨v, v', rfl, hrun, hrel⟩ := ok_slice (P := P) hR h (hev x (by simp)) (opr lo fun u hu => hev u (by simp [hu])) (opr hi fun u hu => hev u (by simp [hu])) (opr mx fun u hu => hev u (by simp [hu]))
      simp only [execOp, Sem.run_bind, hrun, Result.andThen_ok, Sem.run_pure]
      exact .val ρ.le_refl hrel hR
  case fieldAddr s x f =>
    cases hl : fieldAddrA P s (ev x) f with
    | none => rw [hl] at h; simp [valOf, skipOf] at h
    | some v =>
      rw [hl] at h
      simp only [valOf, Option.some.injEq] at h
      subst h
      obtain ⟨v', hrun, hrel⟩ := ok_field (P := P) (w := w) hl (hev x (by simp))
      simp only [execOp, Sem.run_bind, hrun, Result.andThen_ok, Sem.run_pure]
      exact .val ρ.le_refl hrel hR
  case field t x f =>
    cases hl : fieldA P t (ev x) f with
    | none => rw [hl] at h; simp [valOf, skipOf] at h
    | some v =>
      rw [hl] at h
      simp only [valOf, Option.some.injEq] at h
      subst h
      obtain ⟨v', hrun, hrel⟩ := ok_fieldv (P := P) (w := w) hl (hev x (by simp))
      simp only [execOp, Sem.run_bind, hrun, Result.andThen_ok, Sem.run_pure]
      exact .val ρ.le_refl hrel hR
  case indexAddr t x i =>
    cases hl : indexAddrA P t (ev x) (ev i) with
    | none => rw [hl] at h; simp [valOf, skipOf] at h
    | some v =>
      rw [hl] at h
      simp only [valOf, Option.some.injEq] at h
      subst h
      obtain ⟨v', hrun, hrel⟩ := ok_indexAddr (P := P) (w := w) hl (hev x (by simp)) (hev i (by simp))
      simp only [execOp, Sem.run_bind, hrun, Result.andThen_ok, Sem.run_pure]
      exact .val ρ.le_refl hrel hR
  case lookup t x i ok =>
    unfold lookupR at h
    split at h
    · rename_i v hl
      cases h
      obtain ⟨v', hrun, hrel⟩ := ok_lookup (P := P) hR hl (hev x (by simp)) (hev i (by simp))
      simp only [execOp, Sem.run_bind, hrun, Result.andThen_ok, Sem.run_pure]
      exact .val ρ.le_refl hrel hR
    · cases hl : lookupK P X σ t (ev x) (ev i) ok with
      | none => rw [hl] at h; simp [lookupR.valOfK] at h
      | some v =>
        rw [hl] at h
        simp only [lookupR.valOfK, Option.some.injEq] at h
        subst h
        obtain ⟨v', hrun, hrel⟩ := ok_lookupK (P := P) hR hX hl (hev x (by simp)) (hev i (by simp))
        simp only [execOp, Sem.run_bind, hrun, Result.andThen_ok, Sem.run_pure]
        exact .val ρ.le_refl hrel hR
  case mapUpdate t m k v =>
    cases hl : mapUpdateA P σ t (ev m) (ev k) (ev v) with
    | none => rw [hl] at h; simp [valOf, skipOf] at h
    | some σ' =>
      rw [hl] at h
      simp only [skipOf, Option.some.injEq] at h
      subst h
      obtain ⟨w', hrun, hR'⟩ := ok_update (P := P) hR hl (hev m (by simp)) (hev k (by simp)) (hev v (by simp))
      simp only [execOp, Sem.run_bind, hrun, Result.andThen_ok, Sem.run_pure]
      exact .skip ρ.le_refl hR'
  case insert t m k v =>
    cases hl : mapUpdateA P σ t (ev m) (ev k) (ev v) with
    | none => rw [hl] at h; simp [valOf, skipOf] at h
    | some σ' =>
      rw [hl] at h
      simp only [skipOf, Option.some.injEq] at h
      subst h
      obtain ⟨w', hrun, hR'⟩ := ok_update (P := P) hR hl (hev m (by simp)) (hev k (by simp)) (hev v (by simp))
      simp only [execOp, Sem.run_bind, hrun, Result.andThen_ok, Sem.run_pure]
      exact .skip ρ.le_refl hR'
  case range t x =>
    unfold rangeR at h
    split at h
    · rename_i v σ' hl
      cases h
      obtain ⟨v', w', ρ', hrun, hle, hrel, hR'⟩ := ok_range (P := P) hR hl (hev x (by simp))
      simp only [execOp, Sem.run_bind, hrun, Result.andThen_ok, Sem.run_pure]
      exact .eff hle hrel hR'
    · exact absurd h (by simp)
  case next it s =>
    obtain ⟨v', w', hrun, hr⟩ := ok_next (P := P) (ty := type) hR h (hev it (by simp))
    simp only [execOp, Sem.run_bind, hrun, Result.andThen_ok, Sem.run_pure]
    rcases hr with ⟨v, rfl, hv, hR'⟩ | ⟨v, σ', rfl, hv, hR'⟩
    · exact .val ρ.le_refl hv hR'
    · exact .eff ρ.le_refl hv hR'
  case entry it =>
    cases hl : entryA σ (ev it) with
    | none => rw [hl] at h; simp [valOf, skipOf] at h
    | some v =>
      rw [hl] at h
      simp only [valOf, Option.some.injEq] at h
      subst h
      obtain ⟨v', hrun, hrel⟩ := ok_entry (P := P) hR hl (hev it (by simp))
      simp only [execOp, Sem.run_bind, hrun, Result.andThen_ok, Sem.run_pure]
      exact .val ρ.le_refl hrel hR
  case typeAssert x xt t ok =>
    unfold assertA at h
    have h1 := hev x (by simp)
    split at h
    · exact absurd h (by simp)
    · exact absurd h (by simp)
    · rename_i d t' v hne hu hx
      rw [hx] at h1
      generalize hq : e' x = q at h1
      cases h1 with
      | iface p =>
        rename_i v'
        have hd : ∀ is, d ≠ .interface is := fun is e => hne is e
        split at h
        · rename_i ht
          have ht : t' = t := Nat.eq_of_beq_eq_true ht
          cases h
          have : (Instr.typeAssert (.iface t' v') xt t ok).run P w = .ok (if ok then .tuple #[v', .bool true] else v') w := by
            cases d <;> first | exact absurd rfl (hd _) | simp [Instr.typeAssert, run_underlying hu, ht]
          simp only [execOp, Sem.run_bind, hq, this, Result.andThen_ok, Sem.run_pure]
          refine .val ρ.le_refl ?_ hR
          cases ok
          · exact p
          · exact .tuple rfl (fun i a b x y => match i, x, y with
              | 0, x, y => by simp at x y; subst x; subst y; exact p
              | 1, x, y => by simp at x y; subst x; subst y; exact .bool _
              | i + 2, x, _ => by simp at x)
        · rename_i ht
          have ht : ¬ t' = t := fun e => by subst e; simp at ht
          split at h
          · rename_i z hz
            cases h
            have : (Instr.typeAssert (.iface t' v') xt t true).run P w = .ok (.tuple #[z, .bool false]) w := by
              cases d <;> first | exact absurd rfl (hd _) | simp [Instr.typeAssert, run_underlying hu, ht, run_zeroT hz]
            simp only [execOp, Sem.run_bind, hq, this, Result.andThen_ok, Sem.run_pure]
            refine .val ρ.le_refl (.tuple rfl fun i a b x y => match i, x, y with
              | 0, x, y => by simp at x y; subst x; subst y; exact plain_rel ρ (zeroT_plain hz)
              | 1, x, y => by simp at x y; subst x; subst y; exact .bool _
              | i + 2, x, _ => by simp at x) hR
          · exact absurd h (by simp)
    · rename_i d hne hu hx
      rw [hx] at h1
      have hq : e' x = .nilIface := (plain_eq h1 rfl).symm
      have hd : ∀ is, d ≠ .interface is := fun is e => hne is e
      split at h
      · rename_i z hz
        cases h
        have : (Instr.typeAssert .nilIface xt t true).run P w = .ok (.tuple #[z, .bool false]) w := by
          cases d <;> first | exact absurd rfl (hd _) | simp [Instr.typeAssert, run_underlying hu, run_zeroT hz]
        simp only [execOp, Sem.run_bind, hq, this, Result.andThen_ok, Sem.run_pure]
        refine .val ρ.le_refl (.tuple rfl fun i a b x y => match i, x, y with
          | 0, x, y => by simp at x y; subst x; subst y; exact plain_rel ρ (zeroT_plain hz)
          | 1, x, y => by simp at x y; subst x; subst y; exact .bool _
          | i + 2, x, _ => by simp at x) hR
      · exact absurd h (by simp)
    · exact absurd h (by simp)
  case panic x =>
    unfold panicA at h
    split at h
    · rename_i t v hx
      cases h
      have h1 := hev x (by simp)
      rw [hx] at h1
      generalize hq : e' x = q at h1
      cases h1 with
      | iface p =>
        simp only [execOp, Sem.run_bind, hq, Instr.panic, run_goPanic, Result.andThen_halt]
        exact .pan (.iface p) hR
    · exact absurd h (by simp)
  case defer c =>
    unfold deferA at h
    obtain ⟨callee, args, ats⟩ := c
    cases callee with
    | invoke a b => exact absurd h (by simp)
    | builtin b => exact absurd h (by simp)
    | value f =>
      simp only at h
      have h1 := hev f (by simp [Call.operands])
      have h2 := ARel.map (ρ := ρ) (xs := args) (ev := ev) (e' := e') fun x hx => hev x (by simp [Call.operands, hx])
      generalize hq : e' f = q at h1
      split at h
      · rename_i fid first captured hf
        rw [hf] at h1
        cases h1 with
        | @func _ _ b _ d p1 p2 p3 p4 =>
        cases h
        have : (execOp e' { dst := dst, op := .defer ⟨.value f, args, ats⟩, type := type, pos := pos, after := after, guard := guard }).run P w = .ok (.defer { target := .fn (.func fid) d, args := b ++ args.map e' }) w := by
          simp [execOp, resolve, hq, Deferred.ofValue]
        rw [this]
        exact .defer ⟨p3, p4⟩ (ARel.append ⟨p1, p2⟩ h2) hR
      · exact absurd h (by simp)
  case call c =>
    unfold callA at h
    obtain ⟨callee, args, ats⟩ := c
    cases callee with
    | invoke a b => exact absurd h (by simp)
    | value f =>
      simp only at h
      have h1 := hev f (by simp [Call.operands])
      have h2 := ARel.map (ρ := ρ) (xs := args) (ev := ev) (e' := e') fun x hx => hev x (by simp [Call.operands, hx])
      cases hfo : funcOf P (ev f) (args.map ev) with
      | some r0 =>
        rw [hfo] at h
        cases h
        unfold funcOf at hfo
        generalize hq : e' f = q at h1
        split at hfo
        · rename_i fid first captured hf
          rw [hf] at h1
          cases h1 with
          | @func _ _ b _ d p1 p2 p3 p4 =>
          split at hfo
          · rename_i fn hfn
            split at hfo
            · exact absurd hfo (by simp)
            · rename_i hc
              cases hfo
              simp only [Bool.or_eq_true, not_or, Bool.not_eq_true] at hc
              obtain ⟨hc1, hc2⟩ := hc
              have hc3 : ¬ fn.name = "runtime.NumGoroutine" := by simpa using hc1
              have hc4 : ¬ fn.body = none := by intro e; rw [e] at hc2; simp at hc2
              have : (execOp e' { dst := dst, op := .call ⟨.value f, args, ats⟩, type := type, pos := pos, after := after, guard := guard }).run P w = .ok (.enter fid ((b ++ args.map e') ++ d)) w := by
                simp [execOp, resolve, hq, Deferred.ofValue, invoke, callFunc, hfn, hc3, hc4]
              rw [this]
              exact .call (ARel.append (ARel.append ⟨p1, p2⟩ h2) ⟨p3, p4⟩) hR
          · exact absurd hfo (by simp)
        · exact absurd hfo (by simp)
      | none =>
        rw [hfo] at h
        simp only at h
        split at h
        · rename_i hp
          exact ok_pure hR (by simp) h (all_same hev hp)
        · unfold noEscA at h
          generalize hq : e' f = q at h1
          split at h
          · rename_i fid first captured v hf hargs
            rw [hf] at h1
            cases h1 with
            | @func _ _ b _ d p1 p2 p3 p4 =>
            split at h
            · rename_i fn hfn hfi hca
              split at h
              · rename_i hc
                cases h
                simp only [Bool.and_eq_true] at hc
                obtain ⟨⟨hc1, hc2⟩, hc3⟩ := hc
                have hb0 : b = #[] := by
                  have : first = #[] := by apply Array.ext'; simpa using hfi
                  rw [this] at p1
                  exact Array.eq_empty_of_size_eq_zero p1.symm
                have hd0 : d = #[] := by
                  have : captured = #[] := by apply Array.ext'; simpa using hca
                  rw [this] at p3
                  exact Array.eq_empty_of_size_eq_zero p3.symm
                subst hb0; subst hd0
                obtain ⟨v', hv', hvr⟩ : ∃ v', args.map e' = #[v'] ∧ VRel ρ v v' := by
                  have e1 : args.map ev = #[v] := by apply Array.ext'; simpa using hargs
                  rw [e1] at h2
                  generalize hm : args.map e' = m at h2
                  obtain ⟨l⟩ := m
                  have hsz := h2.1
                  match l, hsz, h2 with
                  | [v'], _, h2 => exact ⟨v', rfl, h2.2 0 v v' rfl rfl⟩
                have hext := run_noEscape (P := P) hfn hc1 hc2 hc3 v' w
                have : (execOp e' { dst := dst, op := .call ⟨.value f, args, ats⟩, type := type, pos := pos, after := after, guard := guard }).run P w = .ok (.value v') w := by
                  rw [← hext]
                  simp [execOp, resolve, hq, Deferred.ofValue, invoke, hv']
                rw [this]
                exact .val ρ.le_refl hvr hR
              · exact absurd h (by simp)
            · exact absurd h (by simp)
          · exact absurd h (by simp)
    | builtin b =>
      have h2 := ARel.map (ρ := ρ) (xs := args) (ev := ev) (e' := e') fun x hx => hev x (by simp [Call.operands, hx])
      have run : (execOp e' { dst := dst, op := .call ⟨.builtin b, args, ats⟩, type := type, pos := pos, after := after, guard := guard }).run P w =
          (builtin b ats type (args.map fun | .const _ => true | _ => false) (args.map e')).run P w := rfl
      simp only at h
      unfold builtinR at h
      split at h
      · cases h
        rw [run]
        exact .recover hR
      · split at h
        · rename_i hp
          exact ok_pure hR (by simp) h (all_same hev hp)
        · exact absurd h (by simp)
      · split at h
        · rename_i hp
          exact ok_pure hR (by simp) h (all_same hev hp)
        · exact absurd h (by simp)
      · rw [run]
        split at h
        · rename_i t x hs ha
          obtain ⟨x', hx', hxr⟩ := h2.get ha
          split at h
          · rename_i v hl
            cases h
            obtain ⟨hrun, hv⟩ := ok_len (P := P) (ty := type) hR hs hl hxr _ hx'
            simp only [builtin, Sem.run_bind, hrun, Result.andThen_ok, Sem.run_pure]
            exact .val ρ.le_refl hv hR
          · cases hl : lookLen t x X.len with
            | none => rw [hl] at h; simp at h
            | some v =>
              rw [hl] at h
              simp only [Option.map_some, Option.some.injEq] at h
              subst h
              obtain ⟨r', hrun, hrel⟩ := hX.len _ _ _ (lookLen_mem hl) ρ hR.says ats type _ _ w hs hx' hxr
              simp only [builtin, Sem.run_bind, hrun, Result.andThen_ok, Sem.run_pure]
              exact .val ρ.le_refl hrel hR
        · exact absurd h (by simp)
      · rw [run]
        unfold builtinA at h
        split at h
        · split at h
          · rename_i sT s x hs ha hb
            obtain ⟨s', hs', hsr⟩ := h2.get ha
            obtain ⟨x', hx', hxr⟩ := h2.get hb
            obtain ⟨v', w', ρ', hrun, hle, hr⟩ := ok_append (P := P) (ty := type) hR hs h hsr hxr _ hs' hx'
            simp only [builtin, Sem.run_bind, hrun, Result.andThen_ok, Sem.run_pure]
            rcases hr with ⟨v, rfl, hv, hR'⟩ | ⟨v, σ', rfl, hv, hR'⟩
            · exact .val hle hv hR'
            · exact .eff hle hv hR'
          · exact absurd h (by simp)
        · split at h
          · rename_i t x hs ha
            obtain ⟨x', hx', hxr⟩ := h2.get ha
            cases hl : capA P t x with
            | none => rw [hl] at h; simp [valOf, skipOf] at h
            | some v =>
              rw [hl] at h
              simp only [Option.map_some, Option.some.injEq] at h
              subst h
              obtain ⟨hrun, hv⟩ := ok_cap (P := P) (w := w) (ty := type) hs hl hxr _ hx'
              simp only [builtin, Sem.run_bind, hrun, Result.andThen_ok, Sem.run_pure]
              exact .val ρ.le_refl hv hR
          · exact absurd h (by simp)
        · split at h
          · rename_i t m k hs ha hb
            obtain ⟨m', hm', hmr⟩ := h2.get ha
            obtain ⟨k', hk', hkr⟩ := h2.get hb
            cases hl : deleteA P σ t m k with
            | none => rw [hl] at h; simp [valOf, skipOf] at h
            | some q =>
              rw [hl] at h
              simp only [Option.map_some, Option.some.injEq] at h
              obtain ⟨w', hrun, hR'⟩ := ok_delete (P := P) (ty := type) hR hs hl hmr hkr _ hm' hk'
              simp only [builtin, Sem.run_bind, hrun, Result.andThen_ok, Sem.run_pure]
              cases q with
              | none => simp only at h; subst h; exact .val ρ.le_refl (plain_rel ρ rfl) hR'
              | some σ' => simp only at h; subst h; exact .eff ρ.le_refl (plain_rel ρ rfl) hR'
          · exact absurd h (by simp)
        · exact absurd h (by simp)
  all_goals exact absurd h (by simp)


end
end Am
end Go
