import Derived.Test.YtcokmnpgeokfpaaDoorAmRun2
/- The abstract machine's runs and the model's: a region that draws its order. -/
set_option linter.unusedVariables false
set_option linter.unusedSimpArgs false
namespace Go
namespace Am

/- the order -/
theorem bsets_spec : ∀ (l : List Oper) (acc : List Nat), (bsets l acc).length = acc.length + l.length ∧ (bsets l acc).take acc.length = acc ∧
    ∀ i o, l[i]? = some o → (bsets l acc).getD (acc.length + i) 0 = bset ((bsets l acc).take (acc.length + i)) o
  | [], acc => ⟨by simp [bsets], by simp [bsets], fun i o h => by simp at h⟩
  | o :: l, acc => by
    obtain ⟨h1, h2, h3⟩ := bsets_spec l (acc ++ [bset acc o])
    simp only [bsets]
    have e1 : (acc ++ [bset acc o]).length = acc.length + 1 := by simp
    refine ⟨by rw [h1]; simp; omega, ?_, fun i p hp => ?_⟩
    · have := congrArg (List.take acc.length) h2
      rw [List.take_take, e1] at this
      simpa using this
    · cases i with
      | zero =>
        simp at hp
        subst hp
        simp only [Nat.add_zero]
        have h4 : (bsets l (acc ++ [bset acc o]))[acc.length]? = some (bset acc o) := by
          have := congrArg (fun x => x[acc.length]?) h2
          simp only [List.getElem?_take, e1] at this
          rw [if_pos (by omega)] at this
          rw [this]
          simp
        have h5 : (bsets l (acc ++ [bset acc o])).take acc.length = acc := by
          have := congrArg (List.take acc.length) h2
          rw [List.take_take, e1] at this
          simpa using this
        rw [h5, List.getD_eq_getElem?_getD, h4]
        rfl
      | succ i =>
        have := h3 i p (by simpa using hp)
        rw [e1] at this
        rw [show acc.length + (i + 1) = acc.length + 1 + i by omega]
        exact this

theorem bset_bit {bs : List Nat} {i : Nat} : ∀ {l : List Edge}, Nat.testBit (l.foldr (fun e s => match binds e with | true => (2 ^ e.on ||| bs.getD e.on 0) ||| s | false => s) 0) i = true →
    ∃ e ∈ l, binds e = true ∧ (e.on = i ∨ Nat.testBit (bs.getD e.on 0) i = true)
  | [], h => by simp at h
  | e :: l, h => by
    simp only [List.foldr_cons] at h
    split at h
    · rename_i hb
      rw [Nat.testBit_or, Nat.testBit_or, Bool.or_eq_true, Bool.or_eq_true, Nat.testBit_two_pow] at h
      rcases h with (h | h) | h
      · exact ⟨e, by simp, hb, .inl (by simpa using h)⟩
      · exact ⟨e, by simp, hb, .inr h⟩
      · obtain ⟨f, hf, h1, h2⟩ := bset_bit h
        exact ⟨f, by simp [hf], h1, h2⟩
    · obtain ⟨f, hf, h1, h2⟩ := bset_bit h
      exact ⟨f, by simp [hf], h1, h2⟩

theorem ahead_inv {L : List Oper} {i j : Nat} (h : ahead (bsets L []) i j = true) : ∃ o, L[j]? = some o ∧ ∃ e ∈ o.after.toList, binds e = true ∧ (e.on = i ∨ (e.on < j ∧ ahead (bsets L []) i e.on = true)) := by
  obtain ⟨h1, _, h3⟩ := bsets_spec L []
  unfold ahead at h
  cases ho : L[j]? with
  | none =>
    have hj : L.length ≤ j := by simpa using ho
    have : (bsets L []).getD j 0 = 0 := by
      rw [List.getD_eq_getElem?_getD, List.getElem?_eq_none (by rw [h1]; simpa using hj)]; rfl
    rw [this] at h
    simp at h
  | some o =>
    refine ⟨o, rfl, ?_⟩
    have := h3 j o ho
    simp only [List.length_nil, Nat.zero_add] at this
    rw [this] at h
    obtain ⟨e, he, hb, hx⟩ := bset_bit h
    refine ⟨e, he, hb, ?_⟩
    rcases hx with hx | hx
    · exact .inl hx
    · right
      rw [List.getD_eq_getElem?_getD, List.getElem?_take] at hx
      split at hx
      · rename_i hlt
        exact ⟨hlt, by rw [← List.getD_eq_getElem?_getD] at hx; exact hx⟩
      · simp at hx

/-- closed under the edges -/
def Closed (L : List Oper) (D : Nat → Bool) : Prop := ∀ j o, D j = true → L[j]? = some o → ∀ e ∈ o.after.toList, binds e = true → D e.on = true

theorem Closed.ahead {L : List Oper} {D : Nat → Bool} (h : Closed L D) {i : Nat} : ∀ j, D j = true → Am.ahead (bsets L []) i j = true → D i = true := by
  intro j
  induction j using Nat.strongRecOn with
  | _ j ih =>
    intro hj ha
    obtain ⟨o, ho, e, he, hb, hx⟩ := ahead_inv ha
    have hd := h j o hj ho e he hb
    rcases hx with hx | ⟨h1, h2⟩
    · rw [← hx]; exact hd
    · exact ih e.on h1 hd h2

theorem okRegion_at {ops : Array Oper} {bs : List Nat} : ∀ {l : List Oper} {i0 : Nat}, okRegion ops bs l i0 = true → ∀ i o, l[i]? = some o → okEdges (i0 + i) o = true ∧
    ∀ j p, i < j → l[j]? = some p → Am.ahead bs (i0 + i) (i0 + j) = true ∨ Oper.apart ops o p = true
  | [], i0, _, i, o, h => by simp at h
  | q :: l, i0, h, i, o, ho => by
    simp only [okRegion, Bool.and_eq_true] at h
    obtain ⟨⟨h1, h2⟩, h3⟩ := h
    cases i with
    | zero =>
      simp at ho
      subst ho
      refine ⟨h1, fun j p hj hp => ?_⟩
      have pairs : ∀ (l : List Oper) (k : Nat), okPairs ops bs q i0 l k = true → ∀ m p, l[m]? = some p → Am.ahead bs i0 (k + m) = true ∨ Oper.apart ops q p = true := by
        intro l
        induction l with
        | nil => intro k _ m p hm; simp at hm
        | cons x l ih =>
          intro k hk m p hm
          simp only [okPairs, Bool.and_eq_true, Bool.or_eq_true] at hk
          cases m with
          | zero => simp at hm; subst hm; exact hk.1
          | succ m =>
            have := ih (k + 1) hk.2 m p (by simpa using hm)
            rw [show k + (m + 1) = k + 1 + m by omega]
            exact this
      cases j with
      | zero => omega
      | succ j =>
        have := pairs l (i0 + 1) h2 j p (by simpa using hp)
        rw [show i0 + (j + 1) = i0 + 1 + j by omega]
        exact this
    | succ i =>
      obtain ⟨a, b⟩ := okRegion_at h3 i o (by simpa using ho)
      refine ⟨by rw [show i0 + (i + 1) = i0 + 1 + i by omega]; exact a, fun j p hj hp => ?_⟩
      cases j with
      | zero => omega
      | succ j =>
        have := b j p (by omega) (by simpa using hp)
        rw [show i0 + (i + 1) = i0 + 1 + i by omega, show i0 + (j + 1) = i0 + 1 + j by omega]
        exact this

theorem ahead_lt {ops : Array Oper} {i j : Nat} (hok : okRegion ops (bsets ops.toList []) ops.toList 0 = true) : Am.ahead (bsets ops.toList []) i j = true → i < j := by
  induction j using Nat.strongRecOn with
  | _ j ih =>
    intro h
    obtain ⟨o, ho, e, he, hb, hx⟩ := ahead_inv h
    have hed := (okRegion_at hok j o ho).1
    simp only [okEdges, List.all_eq_true, Nat.zero_add] at hed
    have hlt : e.on < j := by
      have := hed e he
      rw [hb] at this
      exact blt_t (by simpa using this)
    rcases hx with hx | ⟨_, h2⟩
    · omega
    · have := ih e.on hlt h2; omega

/- the run in the order of the text, place by place -/
def tseq : List Oper → List Ent → Tm → Nat → Tm
  | o :: ops, n :: ns, t, i + 1 => tseq ops ns (putT t o.dst n.value) i
  | _, _, t, _ => t

def Ent.behind : Ent → AW → AW
  | .eff _ _ σ', _ => σ'
  | _, σ => σ

def sseq : List Ent → AW → Nat → AW
  | n :: ns, σ, i + 1 => sseq ns (n.behind σ) i
  | _, σ, _ => σ

def StepOk (P : Program) (X : Facts) (call : FuncId → Array Value → AW → Res (AEnd × AW)) (ops : Array Oper) (t : Tm) (σ : AW) (o : Oper) : Ent → Prop
  | .skip => wantedA ops t o = some false
  | .val v => wantedA ops t o = some true ∧ aop P X (ev t) o σ = some (.val v)
  | .eff σ1 v σ' => σ1 = σ ∧ wantedA ops t o = some true ∧ (aop P X (ev t) o σ = some (.eff v σ') ∨ ∃ f args, aop P X (ev t) o σ = some (.call f args) ∧ call f args σ = .ok (.returned v, σ'))

theorem tseq_zero (l : List Oper) (ns : List Ent) (t : Tm) : tseq l ns t 0 = t := by cases l <;> cases ns <;> rfl
theorem sseq_zero (ns : List Ent) (σ : AW) : sseq ns σ 0 = σ := by cases ns <;> rfl

theorem tseq_succ : ∀ {l : List Oper} {ns : List Ent} {t : Tm} {i : Nat} {o : Oper} {n : Ent}, l[i]? = some o → ns[i]? = some n → tseq l ns t (i + 1) = putT (tseq l ns t i) o.dst n.value
  | [], ns, t, i, o, n, h, _ => by simp at h
  | _ :: _, [], t, i, o, n, _, h => by simp at h
  | p :: l, m :: ns, t, 0, o, n, h, k => by
    simp at h k; subst h; subst k
    simp only [tseq, tseq_zero]
  | p :: l, m :: ns, t, i + 1, o, n, h, k => by
    simp only [tseq]
    exact tseq_succ (by simpa using h) (by simpa using k)

theorem sseq_succ : ∀ {ns : List Ent} {σ : AW} {i : Nat} {n : Ent}, ns[i]? = some n → sseq ns σ (i + 1) = n.behind (sseq ns σ i)
  | [], σ, i, n, h => by simp at h
  | m :: ns, σ, 0, n, h => by simp at h; subst h; simp only [sseq, sseq_zero]
  | m :: ns, σ, i + 1, n, h => by
    simp only [sseq]
    exact sseq_succ (by simpa using h)

theorem runDraw_spec {P : Program} {X : Facts} {call : FuncId → Array Value → AW → Res (AEnd × AW)} {ops : Array Oper} : ∀ {l : List Oper} {t : Tm} {σ : AW} {ns : List Ent} {t' : Tm} {σ' : AW},
    runDraw P X call ops l t σ = .ok (ns, t', σ') → ns.length = l.length ∧ tseq l ns t l.length = t' ∧ sseq ns σ l.length = σ' ∧
      ∀ i o, l[i]? = some o → ∃ n, ns[i]? = some n ∧ StepOk P X call ops (tseq l ns t i) (sseq ns σ i) o n
  | [], t, σ, ns, t', σ', h => by
    simp only [runDraw, Res.ok.injEq, Prod.mk.injEq] at h
    obtain ⟨rfl, rfl, rfl⟩ := h
    exact ⟨rfl, rfl, rfl, fun i o h => by simp at h⟩
  | p :: l, t, σ, ns, t', σ', h => by
    have fin : ∀ (n : Ent) (rest : List Ent), runDraw P X call ops l (putT t p.dst n.value) (n.behind σ) = .ok (rest, t', σ') → StepOk P X call ops t σ p n →
        (n :: rest).length = (p :: l).length ∧ tseq (p :: l) (n :: rest) t (p :: l).length = t' ∧ sseq (n :: rest) σ (p :: l).length = σ' ∧
        ∀ i o, (p :: l)[i]? = some o → ∃ m, (n :: rest)[i]? = some m ∧ StepOk P X call ops (tseq (p :: l) (n :: rest) t i) (sseq (n :: rest) σ i) o m := by
      intro n rest hr hs
      obtain ⟨a, b, c, d⟩ := runDraw_spec hr
      refine ⟨by simp [a], b, c, fun i o ho => ?_⟩
      cases i with
      | zero =>
        simp at ho
        subst ho
        exact ⟨n, rfl, by rw [tseq_zero, sseq_zero]; exact hs⟩
      | succ i =>
        obtain ⟨m, hm, hs'⟩ := d i o (by simpa using ho)
        exact ⟨m, by simpa using hm, hs'⟩
    unfold runDraw at h
    split at h
    · exact absurd h (by simp)
    · rename_i hw
      split at h
      · rename_i v hv
        split at h
        · rename_i r1 r2 hr
          cases h
          exact fin (.val v) _ hr ⟨hw, hv⟩
        · exact absurd h (by simp)
      · rename_i v σ1 hv
        split at h
        · rename_i r1 r2 hr
          cases h
          exact fin (.eff σ v σ1) _ hr ⟨rfl, hw, .inl hv⟩
        · exact absurd h (by simp)
      · rename_i f args hv
        split at h
        · rename_i v σ1 hc
          split at h
          · rename_i r1 r2 hr
            cases h
            exact fin (.eff σ v σ1) _ hr ⟨rfl, hw, .inr ⟨f, args, hv, hc⟩⟩
          · exact absurd h (by simp)
        · exact absurd h (by simp)
        · exact absurd h (by simp)
      · exact absurd h (by simp)
    · rename_i hw
      split at h
      · rename_i r1 r2 hr
        cases h
        exact fin .skip _ hr hw
      · exact absurd h (by simp)

theorem okEff_at {P : Program} {X : Facts} {bs : List Nat} {e : Nat} {σ σ' : AW} : ∀ {l : List Oper} {ns : List Ent} {t : Tm} {j0 : Nat}, okEff P X bs e σ σ' l ns t j0 = true → ∀ i o n, l[i]? = some o → ns[i]? = some n →
    e = j0 + i ∨ Am.ahead bs e (j0 + i) = true ∨ Am.ahead bs (j0 + i) e = true ∨
      (match n with | .val v => again P X (tseq l ns t i) o v (match Nat.blt e (j0 + i) with | true => σ | false => σ') | .skip => true | .eff _ _ _ => false) = true
  | [], ns, t, j0, _, i, o, n, h, _ => by simp at h
  | _ :: _, [], t, j0, _, i, o, n, _, h => by simp at h
  | p :: l, m :: ns, t, j0, h, i, o, n, ho, hn => by
    simp only [okEff, Bool.and_eq_true, Bool.or_eq_true] at h
    cases i with
    | zero =>
      simp at ho hn
      subst ho; subst hn
      rw [tseq_zero, Nat.add_zero]
      rcases h.1 with ((a | a) | a) | a
      · exact .inl (beq_t a)
      · exact .inr (.inl a)
      · exact .inr (.inr (.inl a))
      · exact .inr (.inr (.inr a))
    | succ i =>
      have := okEff_at h.2 i o n (by simpa using ho) (by simpa using hn)
      rw [show j0 + (i + 1) = j0 + 1 + i by omega]
      exact this

theorem okEffs_at {P : Program} {X : Facts} {bs : List Nat} {L : List Oper} {ns : List Ent} {t : Tm} : ∀ {l : List Ent} {e0 : Nat}, okEffs P X bs L ns t l e0 = true → ∀ i σ v σ', l[i]? = some (.eff σ v σ') → okEff P X bs (e0 + i) σ σ' L ns t 0 = true
  | [], e0, _, i, σ, v, σ', h => by simp at h
  | m :: l, e0, h, i, σ, v, σ', hi => by
    cases i with
    | zero =>
      simp at hi
      subst hi
      simp only [okEffs, Bool.and_eq_true] at h
      exact h.1
    | succ i =>
      have h2 : okEffs P X bs L ns t l (e0 + 1) = true := by
        cases m with
        | val v => exact h
        | skip => exact h
        | eff a b c => simp only [okEffs, Bool.and_eq_true] at h; exact h.2
      rw [show e0 + (i + 1) = e0 + 1 + i by omega]
      exact okEffs_at h2 i σ v σ' (by simpa using hi)

theorem looks_congr {P : Program} {X : Facts} {evx : Operand → Value} {o : Oper} (h : looks o.op = false) (σ σ' : AW) : aop P X evx o σ = aop P X evx o σ' := by
  obtain ⟨dst, op, type, pos, after, guard⟩ := o
  cases op <;> first | rfl | (simp [looks] at h; done)

theorem again_eq {P : Program} {X : Facts} {t : Tm} {o : Oper} {v : Value} {σ σ0 : AW} (h : again P X t o v σ = true) (h0 : aop P X (ev t) o σ0 = some (.val v)) : aop P X (ev t) o σ = some (.val v) := by
  unfold again at h
  split at h
  · rename_i hl
    rw [looks_congr hl σ σ0]; exact h0
  · split at h
    · rename_i u hu
      rw [hu, sameN_eq _ _ _ h]
    · exact absurd h (by simp)

/- what has been done -/
/-- the slots behind the operations of D among the first k -/
def TD (L : List Oper) (ns : List Ent) (t : Tm) (D : Nat → Bool) : Nat → Tm
  | 0 => t
  | k + 1 => match D k, L[k]?, ns[k]? with
    | true, some o, some n => putT (TD L ns t D k) o.dst n.value
    | _, _, _ => TD L ns t D k

def SD (ns : List Ent) (σ : AW) (D : Nat → Bool) : Nat → AW
  | 0 => σ
  | k + 1 => match D k, ns[k]? with
    | true, some n => n.behind (SD ns σ D k)
    | _, _ => SD ns σ D k

def isEff (ns : List Ent) (k : Nat) : Prop := ∃ σ v σ', ns[k]? = some (.eff σ v σ')

theorem SD_congr {ns : List Ent} {σ : AW} {D D' : Nat → Bool} : ∀ {k : Nat}, (∀ j, j < k → isEff ns j → D j = D' j) → SD ns σ D k = SD ns σ D' k
  | 0, _ => rfl
  | k + 1, h => by
    have ih := SD_congr (σ := σ) (k := k) fun j hj he => h j (by omega) he
    simp only [SD]
    cases hn : ns[k]? with
    | none => cases D k <;> cases D' k <;> exact ih
    | some n =>
      cases n with
      | val v => cases D k <;> cases D' k <;> simp [Ent.behind, ih]
      | skip => cases D k <;> cases D' k <;> simp [Ent.behind, ih]
      | eff a b c =>
        have := h k (by omega) ⟨a, b, c, hn⟩
        rw [this]
        cases D' k <;> simp [Ent.behind, ih]

theorem SD_seq {ns : List Ent} {σ : AW} {D : Nat → Bool} : ∀ {k : Nat}, k ≤ ns.length → (∀ j, j < k → isEff ns j → D j = true) → SD ns σ D k = sseq ns σ k
  | 0, _, _ => (sseq_zero ns σ).symm
  | k + 1, hk, h => by
    have ih := SD_seq (ns := ns) (σ := σ) (D := D) (k := k) (by omega) fun j hj he => h j (by omega) he
    have hlt : k < ns.length := by omega
    have hn : ns[k]? = some ns[k] := List.getElem?_eq_getElem hlt
    rw [sseq_succ hn]
    simp only [SD, hn, ← ih]
    cases he : ns[k] with
    | val v => cases D k <;> rfl
    | skip => cases D k <;> rfl
    | eff a b c =>
      rw [h k (by omega) ⟨a, b, c, by rw [hn, he]⟩]

/-- nothing is turned from k on -/
theorem SD_upto {ns : List Ent} {σ : AW} {D : Nat → Bool} : ∀ {k n : Nat}, k ≤ n → (∀ j, k ≤ j → j < n → isEff ns j → D j = false) → SD ns σ D n = SD ns σ D k := by
  intro k n hkn h
  obtain ⟨m, rfl⟩ : ∃ m, n = k + m := ⟨n - k, by omega⟩
  clear hkn
  induction m with
  | zero => rfl
  | succ m ih =>
    rw [← ih fun j a b => h j a (by omega)]
    show SD ns σ D (k + m + 1) = _
    simp only [SD]
    cases hn : ns[k + m]? with
    | none => cases D (k + m) <;> rfl
    | some n =>
      cases n with
      | val v => cases D (k + m) <;> rfl
      | skip => cases D (k + m) <;> rfl
      | eff a b c => rw [h (k + m) (by omega) (by omega) ⟨a, b, c, hn⟩]

theorem sseq_upto {ns : List Ent} {σ : AW} {k n : Nat} (hkn : k ≤ n) (hn : n ≤ ns.length) (h : ∀ j, k ≤ j → j < n → ¬ isEff ns j) : sseq ns σ n = sseq ns σ k := by
  have h1 := SD_seq (ns := ns) (σ := σ) (D := fun _ => true) hn (fun _ _ _ => rfl)
  have h2 := SD_seq (ns := ns) (σ := σ) (D := fun _ => true) (k := k) (by omega) (fun _ _ _ => rfl)
  rw [← h1, ← h2]
  exact SD_upto hkn fun j a b c => absurd c (h j a b)

/-- a slot behind D: its writers alone count -/
theorem TD_congr {L : List Oper} {ns : List Ent} {t : Tm} {D D' : Nat → Bool} {x : Nat} {nt : Nat} (hL : L.all (okOp nt) = true) :
    ∀ {k : Nat}, (∀ j o, j < k → L[j]? = some o → o.dst = some x → D j = D' j) → (TD L ns t D k).get x = (TD L ns t D' k).get x
  | 0, _ => rfl
  | k + 1, h => by
    have ih := TD_congr (L := L) (ns := ns) (t := t) (D := D) (D' := D') hL (k := k) fun j o hj => h j o (by omega)
    have key : ∀ o n, L[k]? = some o → ns[k]? = some n → o.dst ≠ some x → ∀ t0 : Tm, (putT t0 o.dst n.value).get x = t0.get x := by
      intro o n ho hn hne t0
      cases hd : o.dst with
      | none => rfl
      | some d =>
        have hok : okOp nt o = true := by
          rw [List.all_eq_true] at hL
          exact hL o (List.mem_of_getElem? ho)
        have hdn := okOp_dst hok
        rw [hd] at hdn hne
        have hdn : d < nt := blt_t hdn
        simp only [putT]
        exact Tm.put_other _ _ (fun e => hne (by rw [e]))
    simp only [TD]
    cases hL1 : L[k]? with
    | none => cases D k <;> cases D' k <;> exact ih
    | some o =>
      cases hn : ns[k]? with
      | none => cases D k <;> cases D' k <;> exact ih
      | some n =>
        by_cases hd : o.dst = some x
        · rw [h k o (by omega) hL1 hd]
          cases D' k
          · exact ih
          · simp only [hd, putT, Tm.put_same]
        · cases D k <;> cases D' k <;> simp only [key o n hL1 hn hd, ih]

theorem TD_seq {L : List Oper} {ns : List Ent} {t : Tm} (hlen : ns.length = L.length) {i : Nat} : ∀ {k : Nat}, k ≤ L.length → TD L ns t (fun j => decide (j < i)) k = tseq L ns t (min i k)
  | 0, _ => by rw [Nat.min_zero, tseq_zero]; rfl
  | k + 1, hk => by
    have ih := TD_seq hlen (t := t) (i := i) (k := k) (by omega)
    have hL : L[k]? = some L[k] := List.getElem?_eq_getElem (by omega)
    have hn : ns[k]? = some ns[k] := List.getElem?_eq_getElem (by omega)
    simp only [TD, hL, hn]
    by_cases h : k < i
    · simp only [h, decide_true]
      rw [ih, Nat.min_eq_right (by omega), Nat.min_eq_right (by omega), tseq_succ hL hn]
    · simp only [h, decide_false]
      rw [ih, Nat.min_eq_left (by omega), Nat.min_eq_left (by omega)]

def addD (D : Nat → Bool) (i : Nat) : Nat → Bool := fun j => if j = i then true else D j

/-- one more is done: as if it had come last -/
theorem TD_add {L : List Oper} {ns : List Ent} {t : Tm} {D : Nat → Bool} {i x nt : Nat} {o : Oper} {n : Ent} (hL : L.all (okOp nt) = true) (ho : L[i]? = some o) (hn : ns[i]? = some n)
    (hlast : ∀ j p d, i < j → L[j]? = some p → o.dst = some d → p.dst = some d → D j = false) {k : Nat} (hik : i < k) :
    (TD L ns t (addD D i) k).get x = (putT (TD L ns t D k) o.dst n.value).get x := by
  have hok : okOp nt o = true := by
    rw [List.all_eq_true] at hL
    exact hL o (List.mem_of_getElem? ho)
  by_cases hd : o.dst = some x
  · rw [hd]
    simp only [putT, Tm.put_same]
    obtain ⟨m, rfl⟩ : ∃ m, k = i + 1 + m := ⟨k - (i + 1), by omega⟩
    clear hik
    induction m with
    | zero =>
      show (TD L ns t (addD D i) (i + 1)).get x = _
      simp only [TD, ho, hn, addD, if_true, hd, putT, Tm.put_same]
    | succ m ih =>
      rw [← ih]
      show (TD L ns t (addD D i) (i + 1 + m + 1)).get x = _
      simp only [TD]
      cases hL1 : L[i + 1 + m]? with
      | none => cases addD D i (i + 1 + m) <;> rfl
      | some p =>
        cases hn1 : ns[i + 1 + m]? with
        | none => cases addD D i (i + 1 + m) <;> rfl
        | some q =>
          by_cases hp : p.dst = some x
          · have : addD D i (i + 1 + m) = false := by
              unfold addD
              rw [if_neg (by omega)]
              exact hlast _ p x (by omega) hL1 hd hp
            rw [this]
          · cases addD D i (i + 1 + m)
            · rfl
            · simp only
              cases hpd : p.dst with
              | none => rfl
              | some d =>
                have hokp : okOp nt p = true := by
                  rw [List.all_eq_true] at hL
                  exact hL p (List.mem_of_getElem? hL1)
                have hdn := okOp_dst hokp
                rw [hpd] at hdn hp
                have hdn : d < nt := blt_t hdn
                simp only [putT]
                exact Tm.put_other _ _ (fun e => hp (by rw [e]))
  · have h1 : (TD L ns t (addD D i) k).get x = (TD L ns t D k).get x := by
      refine TD_congr hL fun j p hj hp hpd => ?_
      unfold addD
      split
      · rename_i e
        subst e
        rw [ho] at hp
        cases hp
        exact absurd hpd hd
      · rfl
    rw [h1]
    cases hod : o.dst with
    | none => rfl
    | some d =>
      have hdn := okOp_dst hok
      rw [hod] at hdn hd
      have hdn : d < nt := blt_t hdn
      simp only [putT]
      exact (Tm.put_other _ _ (fun e => hd (by rw [e]))).symm

end Am
end Go
