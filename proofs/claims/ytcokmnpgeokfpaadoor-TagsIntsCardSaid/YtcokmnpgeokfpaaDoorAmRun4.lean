import Derived.Test.YtcokmnpgeokfpaaDoorAmRun3
/- The abstract machine's runs and the model's: a region that draws its order, together. -/
set_option linter.unusedVariables false
set_option linter.unusedSimpArgs false
namespace Go
namespace Am
section
variable {P : Program} {w0 : World} {S : Own} [NoEx P S]

/-- what a region that draws its order has been found to be -/
structure Drawn (P : Program) (X : Facts) (call : FuncId → Array Value → AW → Res (AEnd × AW)) (nt : Nat) (ops : Array Oper) (ns : List Ent) (t0 : Tm) (σ0 : AW) : Prop where
  ok : okRegion ops (bsets ops.toList []) ops.toList 0 = true
  all : ops.toList.all (okOp nt) = true
  len : ns.length = ops.toList.length
  step : ∀ i o, ops.toList[i]? = some o → ∃ n, ns[i]? = some n ∧ StepOk P X call ops (tseq ops.toList ns t0 i) (sseq ns σ0 i) o n
  effs : okEffs P X (bsets ops.toList []) ops.toList ns t0 ns 0 = true

variable {X : Facts} {call : FuncId → Array Value → AW → Res (AEnd × AW)} {nt : Nat} {ops : Array Oper} {ns : List Ent} {t0 : Tm} {σ0 : AW}

theorem Drawn.apart_or (H : Drawn P X call nt ops ns t0 σ0) {i j : Nat} {o p : Oper} (hi : ops.toList[i]? = some o) (hj : ops.toList[j]? = some p) (h : i < j) :
    ahead (bsets ops.toList []) i j = true ∨ Oper.apart ops o p = true := by
  have := (okRegion_at H.ok i o hi).2 j p h hj
  simpa using this

/-- the readiness of i at D -/
structure Ready (L : List Oper) (D : Nat → Bool) (i : Nat) : Prop where
  closed : Closed L D
  notIn : D i = false
  edges : ∀ o, L[i]? = some o → ∀ e ∈ o.after.toList, binds e = true → D e.on = true

theorem Ready.closed' {L : List Oper} {D : Nat → Bool} {i : Nat} (h : Ready L D i) : Closed L (addD D i) := by
  intro j o hj ho e he hb
  unfold addD at hj ⊢
  split
  · rfl
  · split at hj
    · rename_i e1; subst e1; exact h.edges o ho e he hb
    · exact h.closed j o hj ho e he hb

theorem Ready.before {L : List Oper} {D : Nat → Bool} {i j : Nat} (h : Ready L D i) (hne : j ≠ i) (ha : ahead (bsets L []) j i = true) : D j = true := by
  have := h.closed'.ahead i (by simp [addD]) ha
  unfold addD at this
  rw [if_neg hne] at this
  exact this

theorem Ready.behind {L : List Oper} {D : Nat → Bool} {i j : Nat} (h : Ready L D i) (ha : ahead (bsets L []) i j = true) : D j = false := by
  cases hj : D j with
  | false => rfl
  | true =>
    have := h.closed.ahead j hj ha
    rw [h.notIn] at this
    exact absurd this (by simp)

/-- the slots that an operation looks at are those of the run in the order of the text -/
theorem Drawn.slot (H : Drawn P X call nt ops ns t0 σ0) {D : Nat → Bool} {i : Nat} {o : Oper} (hi : ops.toList[i]? = some o) (hr : Ready ops.toList D i) {x : Nat} (hx : x < nt) (hlook : x ∈ o.looksAt ops) :
    (TD ops.toList ns t0 D ops.toList.length).get x = (tseq ops.toList ns t0 i).get x := by
  have hil : i < ops.toList.length := by
    rcases Nat.lt_or_ge i ops.toList.length with g | g
    · exact g
    · rw [List.getElem?_eq_none g] at hi; exact absurd hi (by simp)
  have h1 := TD_seq H.len (t := t0) (i := i) (k := ops.toList.length) (Nat.le_refl _)
  rw [Nat.min_eq_left (by omega)] at h1
  rw [← h1]
  refine TD_congr H.all fun j p hj hp hpd => ?_
  rcases Nat.lt_trichotomy j i with h | h | h
  · have ha : ahead (bsets ops.toList []) j i = true := by
      rcases H.apart_or hp hi h with a | a
      · exact a
      · exact absurd hlook ((Oper.apart_spec a).1 x hpd)
    rw [hr.before (by omega) ha]
    simp [h]
  · subst h
    rw [hr.notIn]
    simp
  · have ha : ahead (bsets ops.toList []) i j = true := by
      rcases H.apart_or hi hp h with a | a
      · exact a
      · exact absurd hlook ((Oper.apart_spec a).2.2 x hpd)
    rw [hr.behind ha]
    have : ¬ j < i := by omega
    simp [this]

theorem operand_looks {o : Oper} {x : Nat} (h : Operand.tmp x ∈ o.op.operands) : x ∈ o.looksAt ops := by
  unfold Oper.looksAt
  refine List.mem_append.2 (.inl ?_)
  rw [List.mem_filterMap]
  exact ⟨.tmp x, by rw [Array.mem_toList_iff]; exact h, rfl⟩

theorem Drawn.evs (H : Drawn P X call nt ops ns t0 σ0) {D : Nat → Bool} {i : Nat} {o : Oper} (hi : ops.toList[i]? = some o) (hr : Ready ops.toList D i) {x : Operand} (hx : x ∈ o.op.operands) :
    ev (TD ops.toList ns t0 D ops.toList.length) x = ev (tseq ops.toList ns t0 i) x := by
  cases x with
  | tmp y =>
    have hok : okOp nt o = true := by
      have := H.all
      rw [List.all_eq_true] at this
      exact this o (List.mem_of_getElem? hi)
    simp only [okOp, Bool.and_eq_true, List.all_eq_true] at hok
    have hy : y < nt := blt_t (hok.1 (.tmp y) (by rw [Array.mem_toList_iff]; exact hx))
    simp only [ev]
    rw [H.slot hi hr hy (operand_looks hx)]
  | const v => rfl
  | global g => rfl
  | func f => rfl

theorem Drawn.wanted (H : Drawn P X call nt ops ns t0 σ0) {D : Nat → Bool} {i : Nat} {o : Oper} (hi : ops.toList[i]? = some o) (hr : Ready ops.toList D i) :
    wantedA ops (TD ops.toList ns t0 D ops.toList.length) o = wantedA ops (tseq ops.toList ns t0 i) o := by
  unfold wantedA
  cases hg : o.guard with
  | none => rfl
  | some q =>
    obtain ⟨j, want⟩ := q
    simp only
    cases hd : (ops[j]?).bind (·.dst) with
    | none => rfl
    | some d =>
      have hdn : d < nt := by
        cases hj : ops[j]? with
        | none => rw [hj] at hd; simp at hd
        | some p =>
          rw [hj] at hd
          simp only [Option.bind_some] at hd
          have hokp : okOp nt p = true := by
            have := H.all
            rw [List.all_eq_true] at this
            exact this p (by rw [Array.mem_toList_iff]; exact Array.mem_of_getElem? hj)
          have := okOp_dst hokp
          rw [hd] at this
          exact blt_t this
      have hlook : d ∈ o.looksAt ops := by
        unfold Oper.looksAt
        refine List.mem_append.2 (.inr ?_)
        rw [hg]
        simp only [hd]
        simp
      simp only
      rw [H.slot hi hr hdn hlook]

/-- two effects are in order -/
theorem Drawn.eff_order (H : Drawn P X call nt ops ns t0 σ0) {e f : Nat} (he : isEff ns e) (hf : isEff ns f) (h : e < f) : ahead (bsets ops.toList []) e f = true := by
  obtain ⟨a, b, c, hne⟩ := he
  obtain ⟨a2, b2, c2, hnf⟩ := hf
  have h1 := okEffs_at H.effs e a b c hne
  have hlf : f < ops.toList.length := by
    rw [← H.len]
    rcases Nat.lt_or_ge f ns.length with g | g
    · exact g
    · rw [List.getElem?_eq_none g] at hnf; exact absurd hnf (by simp)
  have h2 := okEff_at h1 f _ _ (List.getElem?_eq_getElem hlf) hnf
  simp only [Nat.zero_add] at h2
  rcases h2 with h2 | h2 | h2 | h2
  · omega
  · exact h2
  · have := ahead_lt H.ok h2; omega
  · simp at h2

theorem Drawn.state (H : Drawn P X call nt ops ns t0 σ0) {i : Nat} {a v c} (hn : ns[i]? = some (.eff a v c)) : a = sseq ns σ0 i ∧ sseq ns σ0 (i + 1) = c := by
  have hil : i < ops.toList.length := by
    rw [← H.len]
    rcases Nat.lt_or_ge i ns.length with g | g
    · exact g
    · rw [List.getElem?_eq_none g] at hn; exact absurd hn (by simp)
  obtain ⟨n, hn', hs⟩ := H.step i _ (List.getElem?_eq_getElem hil)
  rw [hn] at hn'
  cases hn'
  refine ⟨hs.1, ?_⟩
  rw [sseq_succ hn]
  rfl

/-- an effect meets the memory of the run in the order of the text -/
theorem Drawn.sd_eff (H : Drawn P X call nt ops ns t0 σ0) {D : Nat → Bool} {i : Nat} (he : isEff ns i) (hr : Ready ops.toList D i) (hil : i < ops.toList.length) :
    SD ns σ0 D ops.toList.length = sseq ns σ0 i ∧ ∀ c, (∃ a v, ns[i]? = some (.eff a v c)) → SD ns σ0 (addD D i) ops.toList.length = c := by
  have before : ∀ j, j < i → isEff ns j → D j = true := fun j hj hje => hr.before (by omega) (H.eff_order hje he hj)
  have after : ∀ j, i < j → isEff ns j → D j = false := fun j hj hje => hr.behind (H.eff_order he hje hj)
  constructor
  · rw [SD_upto (k := i) (by omega) fun j a _ c => by
      rcases Nat.eq_or_lt_of_le a with e | e
      · rw [← e]; exact hr.notIn
      · exact after j e c]
    exact SD_seq (by rw [H.len]; omega) before
  · rintro c ⟨a, v, hn⟩
    rw [SD_upto (k := i + 1) (by omega) fun j a _ c => by
      unfold addD
      rw [if_neg (by omega)]
      exact after j (by omega) c]
    rw [SD_seq (by rw [H.len]; omega) fun j a c => by
      unfold addD
      split
      · rfl
      · exact before j (by omega) c]
    exact (H.state hn).2

/-- a reading gives the same at whatever memory it meets -/
theorem Drawn.sd_val (H : Drawn P X call nt ops ns t0 σ0) {D : Nat → Bool} {i : Nat} {o : Oper} {v : Value} (hi : ops.toList[i]? = some o) (hn : ns[i]? = some (.val v)) (hr : Ready ops.toList D i) :
    aop P X (ev (tseq ops.toList ns t0 i)) o (SD ns σ0 D ops.toList.length) = some (.val v) := by
  have hil : i < ops.toList.length := by
    rcases Nat.lt_or_ge i ops.toList.length with g | g
    · exact g
    · rw [List.getElem?_eq_none g] at hi; exact absurd hi (by simp)
  obtain ⟨n', hn', hs⟩ := H.step i o hi
  rw [hn] at hn'
  cases hn'
  have h0 := hs.2
  have noti : ¬ isEff ns i := by rintro ⟨a, b, c, h⟩; rw [hn] at h; simp at h
  -- the check of the effect e against i
  have chk : ∀ e a b c, ns[e]? = some (.eff a b c) → ahead (bsets ops.toList []) e i = false → ahead (bsets ops.toList []) i e = false →
      again P X (tseq ops.toList ns t0 i) o v (if e < i then sseq ns σ0 e else sseq ns σ0 (e + 1)) = true := by
    intro e a b c he h1 h2
    have g := okEff_at (okEffs_at H.effs e a b c he) i o _ hi hn
    simp only [Nat.zero_add] at g
    obtain ⟨s1, s2⟩ := H.state he
    rcases g with g | g | g | g
    · subst g; rw [hn] at he; simp at he
    · rw [h1] at g; simp at g
    · rw [h2] at g; simp at g
    · split
      · rename_i hlt
        have : Nat.blt e i = true := Nat.ble_eq_true_of_le hlt
        rw [this] at g
        rw [← s1]; exact g
      · rename_i hlt
        have : Nat.blt e i = false := by
          cases hb : Nat.blt e i with
          | false => rfl
          | true => exact absurd (blt_t hb) hlt
        rw [this] at g
        rw [s2]; exact g
  -- is there an effect ahead of i that is not done?
  by_cases hA : ∃ e, e < i ∧ isEff ns e ∧ D e = false
  · -- the least one
    have least : ∃ e, e < i ∧ isEff ns e ∧ D e = false ∧ ∀ f, f < e → isEff ns f → D f = true := by
      obtain ⟨e, h1, h2, h3⟩ := hA
      induction e using Nat.strongRecOn with
      | _ e ih =>
        by_cases hf : ∃ f, f < e ∧ isEff ns f ∧ D f = false
        · obtain ⟨f, f1, f2, f3⟩ := hf
          exact ih f f1 (by omega) f2 f3
        · refine ⟨e, h1, h2, h3, fun f g1 g2 => ?_⟩
          cases hfd : D f with
          | true => rfl
          | false => exact absurd ⟨f, g1, g2, hfd⟩ hf
    obtain ⟨e, e1, e2, e3, e4⟩ := least
    have after : ∀ j, e < j → isEff ns j → D j = false := by
      intro j hj hje
      cases hd : D j with
      | false => rfl
      | true =>
        have := hr.closed.ahead j hd (H.eff_order e2 hje hj)
        rw [e3] at this
        exact absurd this (by simp)
    have hsd : SD ns σ0 D ops.toList.length = sseq ns σ0 e := by
      rw [SD_upto (k := e) (by omega) fun j a _ c => by
        rcases Nat.eq_or_lt_of_le a with q | q
        · rw [← q]; exact e3
        · exact after j q c]
      exact SD_seq (by rw [H.len]; omega) e4
    rw [hsd]
    obtain ⟨a, b, c, he⟩ := e2
    have h1 : ahead (bsets ops.toList []) e i = false := by
      cases hh : ahead (bsets ops.toList []) e i with
      | false => rfl
      | true => have := hr.before (by omega) hh; rw [e3] at this; exact absurd this (by simp)
    have h2 : ahead (bsets ops.toList []) i e = false := by
      cases hh : ahead (bsets ops.toList []) i e with
      | false => rfl
      | true => have := ahead_lt H.ok hh; omega
    have := chk e a b c he h1 h2
    rw [if_pos e1] at this
    exact again_eq this h0
  · have before : ∀ j, j < i → isEff ns j → D j = true := by
      intro j hj hje
      cases hd : D j with
      | true => rfl
      | false => exact absurd ⟨j, hj, hje, hd⟩ hA
    by_cases hB : ∃ e, i < e ∧ e < ops.toList.length ∧ isEff ns e ∧ D e = true
    · -- the last one
      have last : ∃ e, i < e ∧ e < ops.toList.length ∧ isEff ns e ∧ D e = true ∧ ∀ f, e < f → f < ops.toList.length → isEff ns f → D f = false := by
        obtain ⟨e, h1, h2, h3, h4⟩ := hB
        obtain ⟨m, hm⟩ : ∃ m, m = ops.toList.length - e := ⟨_, rfl⟩
        induction m using Nat.strongRecOn generalizing e with
        | _ m ih =>
          by_cases hf : ∃ f, e < f ∧ f < ops.toList.length ∧ isEff ns f ∧ D f = true
          · obtain ⟨f, f1, f2, f3, f4⟩ := hf
            exact ih (ops.toList.length - f) (by omega) f (by omega) f2 f3 f4 rfl
          · refine ⟨e, h1, h2, h3, h4, fun f g1 g2 g3 => ?_⟩
            cases hfd : D f with
            | false => rfl
            | true => exact absurd ⟨f, g1, g2, g3, hfd⟩ hf
      obtain ⟨e, e1, e2, e3, e4, e5⟩ := last
      have upto : ∀ j, j < e + 1 → isEff ns j → D j = true := by
        intro j hj hje
        rcases Nat.eq_or_lt_of_le (Nat.le_of_lt_succ hj) with q | q
        · rw [q]; exact e4
        · exact hr.closed.ahead e e4 (H.eff_order hje e3 q)
      have hsd : SD ns σ0 D ops.toList.length = sseq ns σ0 (e + 1) := by
        rw [SD_upto (k := e + 1) (by omega) fun j a b c => e5 j (by omega) b c]
        exact SD_seq (by rw [H.len]; omega) upto
      rw [hsd]
      obtain ⟨a, b, c, he⟩ := e3
      have h1 : ahead (bsets ops.toList []) e i = false := by
        cases hh : ahead (bsets ops.toList []) e i with
        | false => rfl
        | true => have := ahead_lt H.ok hh; omega
      have h2 : ahead (bsets ops.toList []) i e = false := by
        cases hh : ahead (bsets ops.toList []) i e with
        | false => rfl
        | true => have := hr.behind hh; rw [e4] at this; exact absurd this (by simp)
      have := chk e a b c he h1 h2
      rw [if_neg (by omega)] at this
      exact again_eq this h0
    · have hsd : SD ns σ0 D ops.toList.length = sseq ns σ0 i := by
        rw [SD_upto (k := i) (by omega) fun j a b c => by
          rcases Nat.eq_or_lt_of_le a with q | q
          · rw [← q]; exact hr.notIn
          · cases hd : D j with
            | false => rfl
            | true => exact absurd ⟨j, q, b, c, hd⟩ hB]
        exact SD_seq (by rw [H.len]; omega) before
      rw [hsd]
      exact h0

theorem Drawn.hlast (H : Drawn P X call nt ops ns t0 σ0) {D : Nat → Bool} {i : Nat} {o : Oper} (hi : ops.toList[i]? = some o) (hr : Ready ops.toList D i) :
    ∀ j p d, i < j → ops.toList[j]? = some p → o.dst = some d → p.dst = some d → D j = false := by
  intro j p d hj hp hd hpd
  rcases H.apart_or hi hp hj with a | a
  · exact hr.behind a
  · exact absurd hpd ((Oper.apart_spec a).2.1 d hd)

/-- what holds when the operations of D have been done -/
structure Inv (w0 : World) (S : Own) (nt : Nat) (ops : Array Oper) (ns : List Ent) (t0 : Tm) (σ0 : AW) (s : St) (ρ : Rho) (D : Nat → Bool) (a : Act) (w : World) : Prop where
  closed : Closed ops.toList D
  rel : ∃ ρ', ρ.le ρ' ∧ R w0 S (SD ns σ0 D ops.toList.length) ρ' w ∧ TRel ρ' nt (TD ops.toList ns t0 D ops.toList.length) a.tmps ∧ DsRel ρ' s.defers a.defers

theorem Drawn.one (H : Drawn P X call nt ops ns t0 σ0) (hc : CallsOk P w0 S call) (hX : FactsOk P X S) {s : St} {ρ : Rho} {D : Nat → Bool} {a : Act} {w : World} (hI : Inv w0 S nt ops ns t0 σ0 s ρ D a w) {i : Nat} (hil : i < ops.toList.length)
    (hr : Ready ops.toList D i) {K : Act → World → Prop} {Q : Exit → Act → World → Prop} (hK : ∀ a w, Inv w0 S nt ops ns t0 σ0 s ρ (addD D i) a w → K a w) : wpOp P ops Q i K a w := by
  have hi : ops.toList[i]? = some ops.toList[i] := List.getElem?_eq_getElem hil
  generalize ops.toList[i] = o at hi
  have hi' : ops[i]? = some o := by rw [← Array.getElem?_toList]; exact hi
  obtain ⟨n, hn, hs⟩ := H.step i o hi
  obtain ⟨_, ρ', hle, hR, hT, hD⟩ := hI
  have hok : okOp nt o = true := by
    have := H.all
    rw [List.all_eq_true] at this
    exact this o (List.mem_of_getElem? hi)
  have hdst := okOp_dst hok
  have hwant : ∀ b, wantedA ops (tseq ops.toList ns t0 i) o = some b → Region.wanted o (yielded ops a.tmps) = b := fun b hb => wanted_eq hT H.all ((H.wanted hi hr).trans hb)
  have hev : ∀ x ∈ o.op.operands, VRel ρ' (ev (tseq ops.toList ns t0 i) x) (a.eval x) := by
    intro x hx
    rw [← H.evs hi hr hx]
    exact ev_rels hT hok x hx
  -- the slots behind it
  have slots : ∀ {ρ2 : Rho} {v' : Value}, ρ'.le ρ2 → VRel ρ2 n.value v' → TRel ρ2 nt (TD ops.toList ns t0 (addD D i) ops.toList.length) (a.put o.dst v').tmps := by
    intro ρ2 v' hle2 hv
    have h1 := put_rel (hT.mono hle2) hdst hv
    refine ⟨h1.size, fun x hx => ?_⟩
    rw [TD_add H.all hi hn (H.hlast hi hr) hil]
    exact h1.at_ x hx
  have mk : ∀ {ρ2 : Rho} {v' : Value} {w' : World}, ρ'.le ρ2 → VRel ρ2 n.value v' → R w0 S (SD ns σ0 (addD D i) ops.toList.length) ρ2 w' → K (a.put o.dst v') w' := by
    intro ρ2 v' w' hle2 hv hR2
    exact hK _ _ ⟨hr.closed', ρ2, Rho.le_trans hle hle2, hR2, slots hle2 hv, by rw [put_defers]; exact hD.mono hle2⟩
  unfold wpOp
  rw [hi']
  simp only
  cases n with
  | skip =>
    rw [hwant false hs]
    simp only [Bool.false_eq_true, if_false]
    refine mk ρ'.le_refl (undef_rel _) ?_
    rw [SD_congr (D' := D) fun j hj he => by
      unfold addD
      split
      · rename_i e; subst e; obtain ⟨x, y, z, h⟩ := he; rw [hn] at h; simp at h
      · rfl]
    exact hR
  | val v =>
    obtain ⟨hw1, _⟩ := hs
    rw [hwant true hw1]
    simp only [if_true]
    refine .inl ?_
    unfold Oper.wp
    have hsd := H.sd_val hi hn hr
    have hout := aop_sound hR hX hsd (e' := a.eval) hev
    generalize (execOp a.eval o).run P w = res at hout
    cases hout with
    | val hle2 hv hR2 =>
      refine mk hle2 hv ?_
      rw [SD_congr (D' := D) fun j hj he => by
        unfold addD
        split
        · rename_i e; subst e; obtain ⟨x, y, z, h⟩ := he; rw [hn] at h; simp at h
        · rfl]
      exact hR2
  | eff σ1 v σ2 =>
    obtain ⟨rfl, hw1, hop⟩ := hs
    rw [hwant true hw1]
    simp only [if_true]
    refine .inl ?_
    unfold Oper.wp
    obtain ⟨hsd1, hsd2⟩ := H.sd_eff ⟨_, _, _, hn⟩ hr hil
    have hsd2 := hsd2 σ2 ⟨_, _, hn⟩
    rw [hsd1] at hR
    rcases hop with hop | ⟨f, args, hop, hcall⟩
    · have hout := aop_sound hR hX hop (e' := a.eval) hev
      generalize (execOp a.eval o).run P w = res at hout
      cases hout with
      | eff hle2 hv hR2 => exact mk hle2 hv (by rw [hsd2]; exact hR2)
      | skip hle2 hR2 => exact mk hle2 (undef_rel _) (by rw [hsd2]; exact hR2)
    · have hout := aop_sound hR hX hop (e' := a.eval) hev
      generalize (execOp a.eval o).run P w = res at hout
      cases hout with
      | call ha hR2 =>
        refine Calls.mono (hc _ _ _ _ _ hcall _ _ _ ha hR2) ?_
        rintro e w' ⟨ρ2, hle2, he, hR3⟩
        cases e with
        | returned v' => exact mk hle2 he (by rw [hsd2]; exact hR3)
        | panicked ch => exact he.elim
        | outgrown => exact he.elim

def ofArr (listed : Array Bool) : Nat → Bool := fun i => listed.getD i false

theorem mem_ready {listed : Array Bool} (hsz : listed.size = ops.size) {i : Nat} (h : i ∈ Region.ready .any ops listed) : i < ops.toList.length ∧ ofArr listed i = false ∧
    ∀ o, ops.toList[i]? = some o → ∀ e ∈ o.after.toList, binds e = true → ofArr listed e.on = true := by
  unfold Region.ready at h
  rw [List.mem_filter, List.mem_range] at h
  obtain ⟨hi, h⟩ := h
  simp only [Bool.and_eq_true, Bool.not_eq_true'] at h
  have hil : i < listed.size := by omega
  refine ⟨by simpa using hi, ?_, fun o ho e he hb => ?_⟩
  · have := h.1
    rw [Array.getD_eq_getD_getElem?, Array.getElem?_eq_getElem hil] at this
    unfold ofArr
    rw [Array.getD_eq_getD_getElem?, Array.getElem?_eq_getElem hil]
    exact this
  · rw [Array.getElem?_toList] at ho
    have h2 := h.2
    rw [ho] at h2
    simp only [Option.map_some, Option.getD_some, Array.all_eq_true] at h2
    obtain ⟨k, hk, rfl⟩ := List.getElem_of_mem he
    have := h2 k (by simpa using hk)
    simp only [Array.getElem_toList] at hb ⊢
    unfold binds at hb
    rw [hb] at this
    simpa [ofArr] using this

theorem none_ready (hok : okRegion ops (bsets ops.toList []) ops.toList 0 = true) {listed : Array Bool} (hsz : listed.size = ops.size) (h : Region.ready .any ops listed = []) : ∀ i, i < ops.toList.length → ofArr listed i = true := by
  intro i
  induction i using Nat.strongRecOn with
  | _ i ih =>
    intro hil
    cases hd : ofArr listed i with
    | true => rfl
    | false =>
      exfalso
      have his : i < ops.size := by simpa using hil
      have : i ∈ Region.ready .any ops listed := by
        unfold Region.ready
        rw [List.mem_filter, List.mem_range]
        refine ⟨his, ?_⟩
        simp only [Bool.and_eq_true, Bool.not_eq_true']
        constructor
        · unfold ofArr at hd
          rw [Array.getD_eq_getD_getElem?, Array.getElem?_eq_getElem (by omega)] at hd ⊢
          exact hd
        · rw [Array.getElem?_eq_getElem his]
          simp only [Option.map_some, Option.getD_some, Array.all_eq_true]
          intro k hk
          cases hb : Region.binds .any (ops[i].after[k]) with
          | false => rfl
          | true =>
            have hed := (okRegion_at hok i _ (List.getElem?_eq_getElem hil)).1
            simp only [okEdges, List.all_eq_true] at hed
            have hm : ops[i].after[k] ∈ (ops.toList[i]).after.toList := by
              rw [Array.mem_toList_iff]
              simp
            have h1 := hed _ hm
            have hb' : binds (ops[i].after[k]) = true := hb
            rw [hb'] at h1
            have hlt : (ops[i].after[k]).on < 0 + i := blt_t (by simpa using h1)
            have h2 := ih (ops[i].after[k]).on (by omega) (by omega)
            simpa [ofArr] using h2
      rw [h] at this
      simp at this

def undone (listed : Array Bool) : Nat := (listed.toList.filter (!·)).length

theorem undone_set {listed : Array Bool} {i : Nat} (hi : i < listed.size) (h : ofArr listed i = false) : undone (listed.setIfInBounds i true) + 1 = undone listed := by
  unfold undone ofArr at *
  rw [Array.toList_setIfInBounds]
  have hl : i < listed.toList.length := by simpa using hi
  have hv : listed.toList[i] = false := by
    rw [Array.getD_eq_getD_getElem?, Array.getElem?_eq_getElem hi] at h
    simpa using h
  generalize listed.toList = l at hl hv
  clear h hi
  induction l generalizing i with
  | nil => simp at hl
  | cons x l ih =>
    cases i with
    | zero =>
      simp at hv
      subst hv
      simp
    | succ i =>
      have := ih (i := i) (by simpa using hl) (by simpa using hv)
      simp only [List.set_cons_succ, List.filter_cons]
      split
      · simp only [List.length_cons]; omega
      · exact this

theorem ofArr_set {listed : Array Bool} {i : Nat} (hi : i < listed.size) : ofArr (listed.setIfInBounds i true) = addD (ofArr listed) i := by
  funext j
  unfold ofArr addD
  rw [Array.getD_eq_getD_getElem?, Array.getElem?_setIfInBounds]
  by_cases e : i = j
  · subst e
    simp [hi]
  · rw [if_neg e, if_neg (Ne.symm e)]
    exact (Array.getD_eq_getD_getElem? ..).symm

theorem Drawn.any (H : Drawn P X call nt ops ns t0 σ0) (hc : CallsOk P w0 S call) (hX : FactsOk P X S) {s : St} {ρ : Rho} {Q : Exit → Act → World → Prop}
    (hQ : ∀ D a w, Inv w0 S nt ops ns t0 σ0 s ρ D a w → (∀ i, i < ops.toList.length → D i = true) → Q .normal a w) :
    ∀ (fuel : Nat) (listed : Array Bool) (a : Act) (w : World), listed.size = ops.size → undone listed = fuel → Inv w0 S nt ops ns t0 σ0 s ρ (ofArr listed) a w → wpAny P .any ops Q fuel listed a w := by
  intro fuel
  induction fuel with
  | zero =>
    intro listed a w hsz hu hI
    have all : ∀ i, i < ops.toList.length → ofArr listed i = true := by
      intro i hi
      cases hd : ofArr listed i with
      | true => rfl
      | false =>
        have := undone_set (listed := listed) (i := i) (by rw [hsz]; simpa using hi) hd
        omega
    refine ⟨?_, hQ _ _ _ hI all⟩
    cases hr : Region.ready .any ops listed with
    | nil => rfl
    | cons i l =>
      obtain ⟨h1, h2, _⟩ := mem_ready hsz (i := i) (by rw [hr]; simp)
      rw [all i h1] at h2
      simp at h2
  | succ fuel ih =>
    intro listed a w hsz hu hI
    refine ⟨fun h => hQ _ _ _ hI (none_ready H.ok hsz h), fun i hi => ?_⟩
    obtain ⟨h1, h2, h3⟩ := mem_ready hsz hi
    have hil : i < listed.size := by rw [hsz]; simpa using h1
    refine H.one hc hX hI h1 ⟨hI.closed, h2, h3⟩ fun a' w' hI' => ?_
    refine ih (listed.setIfInBounds i true) a' w' (by simpa using hsz) (by have := undone_set hil h2; omega) ?_
    rw [ofArr_set hil]
    exact hI'

theorem drawn_sound (hc : CallsOk P w0 S call) (hX : FactsOk P X S) {d : Bool} {cs0 : List Frame} {id : Nat} (hops : ops.toList.all (okOp nt) = true) {s s' : St} {x : AExit} (h : drawn P X call ops s = .ok (x, s')) {ρ : Rho} {a : Act} {cs : List Frame} {w : World}
    (hs : SRel w0 S d nt cs0 ρ s a cs w) : W P d (.region id ops true) (Post w0 S d nt cs0 ρ x s') a cs w := by
  unfold drawn at h
  split at h
  · rename_i hb
    simp only [Bool.and_eq_true] at hb
    split at h
    · rename_i ns t σ hrun
      split at h
      · rename_i hch
        simp only [Res.ok.injEq, Prod.mk.injEq] at h
        obtain ⟨rfl, rfl⟩ := h
        obtain ⟨h1, h2, h3, h4⟩ := runDraw_spec hrun
        have H : Drawn P X call nt ops ns s.tmps s.σ := ⟨hb.1, hops, h1, h4, hch⟩
        refine W.of_wp (wp_region_any hb.2 ?_)
        refine H.any hc hX (s := s) (ρ := ρ) ?_ _ _ _ _ (by simp) (by
            unfold undone
            rw [Array.toList_replicate, List.filter_replicate]
            simp) ?_
        · intro D a' w' hI hall
          obtain ⟨_, ρ', hle, hR, hT, hD⟩ := hI
          have e1 : SD ns s.σ D ops.toList.length = σ := by
            rw [← h3]
            exact SD_seq (by omega) fun j hj _ => hall j hj
          have e2 : ∀ i, i < nt → (TD ops.toList ns s.tmps D ops.toList.length).get i = t.get i := by
            intro i hi
            have g := TD_seq h1 (t := s.tmps) (i := ops.toList.length) (k := ops.toList.length) (Nat.le_refl _)
            rw [Nat.min_self, h2] at g
            rw [← g]
            refine TD_congr hops fun j o hj _ _ => ?_
            rw [hall j hj]
            exact (decide_eq_true hj).symm
          rw [e1] at hR
          refine ⟨ρ', hle, trivial, ⟨hT.size, fun i hi => ?_⟩, hD, hs.cs.mono hle, hR⟩
          have := hT.at_ i hi
          rw [e2 i hi] at this
          exact this
        · have hempty : ofArr (Array.replicate ops.size false) = fun _ => false := by
            funext j
            unfold ofArr
            rw [Array.getD_eq_getD_getElem?, Array.getElem?_replicate]
            split <;> rfl
          rw [hempty]
          have e1 : SD ns s.σ (fun _ => false) ops.toList.length = s.σ := SD_upto (k := 0) (by omega) fun j _ _ _ => rfl
          have e2 : ∀ k, TD ops.toList ns s.tmps (fun _ => false) k = s.tmps := by
            intro k
            induction k with
            | zero => rfl
            | succ k ih => simp only [TD]; exact ih
          refine ⟨fun j o hj => by simp at hj, ρ, ρ.le_refl, ?_, ?_, hs.ds⟩
          · rw [e1]; exact hs.r.drew
          · rw [e2]; exact hs.t
      · exact absurd h (by simp)
    · exact absurd h (by simp)
  · exact absurd h (by simp)

end
end Am
end Go
