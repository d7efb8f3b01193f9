import Derived.Test.YtcokmnpgeokfpaaDoorAmOps8
/- The abstract machine's runs and the model's: slots, control. -/
set_option linter.unusedVariables false
set_option linter.unusedSimpArgs false
namespace Go
namespace Am

theorem Tm.put_same (d : Nat) (v : Value) (t : Tm) : (Tm.put d v t).get d = v := by simp [Tm.get]
theorem Tm.put_other {d i : Nat} (v : Value) (t : Tm) (h : d ≠ i) : (Tm.put d v t).get i = t.get i := by
  simp only [Tm.get]
  split
  · rename_i e; exact absurd (beq_t e).symm h
  · rfl

structure TRel (ρ : Rho) (nt : Nat) (t : Tm) (tmps : Array Value) : Prop where
  size : tmps.size = nt
  at_ : ∀ i, i < nt → VRel ρ (t.get i) (tmps.getD i undef)

theorem TRel.mono {ρ ρ' : Rho} (hle : ρ.le ρ') {nt : Nat} {t : Tm} {m : Array Value} (h : TRel ρ nt t m) : TRel ρ' nt t m :=
  ⟨h.size, fun i hi => (h.at_ i hi).mono hle⟩

theorem undef_rel (ρ : Rho) : VRel ρ undef undef := plain_rel ρ rfl

theorem ev_rel {ρ : Rho} {nt : Nat} {t : Tm} {a : Act} (h : TRel ρ nt t a.tmps) {x : Operand} (hx : okOperand nt x = true) : VRel ρ (ev t x) (a.eval x) := by
  cases x with
  | tmp i => exact h.at_ i (blt_t hx)
  | const v => exact plain_rel ρ hx
  | global g => simp [okOperand] at hx
  | func f => exact .func rfl (fun i v v' x => by simp at x) rfl (fun i v v' x => by simp at x)

theorem ev_rels {ρ : Rho} {nt : Nat} {t : Tm} {a : Act} (h : TRel ρ nt t a.tmps) {o : Oper} (ho : okOp nt o = true) : ∀ x ∈ o.op.operands, VRel ρ (ev t x) (a.eval x) := by
  intro x hx
  simp only [okOp, Bool.and_eq_true, List.all_eq_true] at ho
  exact ev_rel h (ho.1 x (by rw [Array.mem_toList_iff]; exact hx))

theorem put_size (a : Act) (d : Option Tmp) (v : Value) : (a.put d v).tmps.size = a.tmps.size := by cases d <;> simp [Act.put]
theorem put_defers (a : Act) (d : Option Tmp) (v : Value) : (a.put d v).defers = a.defers := by cases d <;> rfl

theorem put_rel {ρ : Rho} {nt : Nat} {t : Tm} {a : Act} (h : TRel ρ nt t a.tmps) {d : Option Tmp} (hd : (match d with | some d => Nat.blt d nt | none => true) = true) {v v' : Value} (hv : VRel ρ v v') :
    TRel ρ nt (putT t d v) (a.put d v').tmps := by
  cases d with
  | none => exact h
  | some d =>
    have hd : d < nt := blt_t hd
    refine ⟨by rw [put_size]; exact h.size, fun i hi => ?_⟩
    by_cases e : d = i
    · subst e
      have : d < a.tmps.size := by rw [h.size]; exact hd
      simp only [putT, Tm.put_same, Act.put]
      rw [Array.getD_eq_getD_getElem?, Array.getElem?_setIfInBounds_self_of_lt this]
      exact hv
    · simp only [putT, Act.put]
      rw [Tm.put_other _ _ e, Array.getD_eq_getD_getElem?, Array.getElem?_setIfInBounds_ne e, ← Array.getD_eq_getD_getElem?]
      exact h.at_ i hi

theorem okOp_dst {nt : Nat} {o : Oper} (h : okOp nt o = true) : (match o.dst with | some d => Nat.blt d nt | none => true) = true := by
  simp only [okOp, Bool.and_eq_true] at h
  exact h.2

theorem wanted_eq {ρ : Rho} {nt : Nat} {t : Tm} {a : Act} (h : TRel ρ nt t a.tmps) {ops : Array Oper} (hops : ops.toList.all (okOp nt) = true) {o : Oper} {b : Bool} (hw : wantedA ops t o = some b) :
    Region.wanted o (yielded ops a.tmps) = b := by
  unfold wantedA at hw
  unfold Region.wanted
  split at hw
  · rename_i hg
    rw [hg]
    simpa using hw
  · rename_i j want hg
    rw [hg]
    simp only
    unfold yielded
    split at hw
    · rename_i hd
      rw [hd]
      simp only [Option.bind_none]
      simpa using hw
    · rename_i d hd
      rw [hd]
      simp only [Option.bind_some]
      have hdn : d < nt := by
        cases hj : ops[j]? with
        | none => rw [hj] at hd; simp at hd
        | some p =>
          rw [hj] at hd
          simp only [Option.bind_some] at hd
          have ho : okOp nt p = true := by
            rw [List.all_eq_true] at hops
            exact hops p (by rw [Array.mem_toList_iff]; exact Array.mem_of_getElem? hj)
          have := okOp_dst ho
          rw [hd] at this
          exact blt_t this
      have hlt : d < a.tmps.size := by rw [h.size]; exact hdn
      have hrel := h.at_ d hdn
      rw [Array.getElem?_eq_getElem hlt]
      rw [Array.getD_eq_getD_getElem?, Array.getElem?_eq_getElem hlt, Option.getD_some] at hrel
      generalize t.get d = v at hrel hw
      generalize a.tmps[d] = v' at hrel
      cases hrel <;> simp only [Option.some.injEq, reduceCtorEq] at hw <;> first
        | exact hw
        | (rw [← hw]; rfl)

/- panics, modes, frames -/
def ChRel (ρ : Rho) (a b : List PanicEntry) : Prop := a.length = b.length ∧ ∀ (i : Nat) (x y : PanicEntry), a[i]? = some x → b[i]? = some y → VRel ρ x.v y.v ∧ x.recovered = y.recovered ∧ x.goexit = y.goexit

theorem ChRel.mono {ρ ρ' : Rho} (hle : ρ.le ρ') {a b : List PanicEntry} (h : ChRel ρ a b) : ChRel ρ' a b :=
  ⟨h.1, fun i x y p q => let ⟨u, v⟩ := h.2 i x y p q; ⟨u.mono hle, v⟩⟩

def MoRel (ρ : Rho) : FrameMode → FrameMode → Prop
  | .run, .run => True
  | .returning, .returning => True
  | .panicking a, .panicking b => ChRel ρ a b
  | _, _ => False

theorem MoRel.mono {ρ ρ' : Rho} (hle : ρ.le ρ') {a b : FrameMode} (h : MoRel ρ a b) : MoRel ρ' a b := by
  cases a <;> cases b <;> first | exact h | exact ChRel.mono hle h

def XRel (ρ : Rho) : AExit → Exit → Prop
  | .normal, .normal => True
  | .exit i, .exit j => i = j
  | .ret, .ret => True
  | .panic a, .panic b => ChRel ρ a b
  | _, _ => False

def ERel (ρ : Rho) : AEnd → Ending → Prop
  | .returned v, .returned v' => VRel ρ v v'
  | .panicked a, .panicked b => ChRel ρ a b
  | _, _ => False

def DRel (ρ : Rho) (d d' : Deferred) : Prop := ∃ f c c' x x', d = { target := .fn (.func f) c, args := x } ∧ d' = { target := .fn (.func f) c', args := x' } ∧ ARel ρ c c' ∧ ARel ρ x x'

def DsRel (ρ : Rho) : List Deferred → List Deferred → Prop
  | [], [] => True
  | d :: l, d' :: l' => DRel ρ d d' ∧ DsRel ρ l l'
  | _, _ => False

theorem DsRel.mono {ρ ρ' : Rho} (hle : ρ.le ρ') : ∀ {a b : List Deferred}, DsRel ρ a b → DsRel ρ' a b
  | [], [], _ => trivial
  | _ :: _, _ :: _, h => ⟨let ⟨f, c, c', x, x', e1, e2, h1, h2⟩ := h.1; ⟨f, c, c', x, x', e1, e2, h1.mono hle, h2.mono hle⟩, DsRel.mono hle h.2⟩
  | [], _ :: _, h => h.elim
  | _ :: _, [], h => h.elim

def CsRel (ρ : Rho) : Bool → FrameMode → List Frame → List Frame → Prop
  | false, _, cs0, cs => cs = cs0
  | true, m, cs0, cs => ∃ c0 rest u, cs0 = c0 :: rest ∧ cs = { c0 with mode := u } :: rest ∧ MoRel ρ m u

theorem CsRel.mono {ρ ρ' : Rho} (hle : ρ.le ρ') {d : Bool} {m : FrameMode} {a b : List Frame} (h : CsRel ρ d m a b) : CsRel ρ' d m a b := by
  cases d with
  | false => exact h
  | true => obtain ⟨c0, r, u, e1, e2, e3⟩ := h; exact ⟨c0, r, u, e1, e2, e3.mono hle⟩

def kindOf : Bool → CallKind
  | false => .normal
  | true => .deferred

def W (P : Program) (d : Bool) (c : Code) (Q : Exit → Act → List Frame → World → Prop) (a : Act) (cs : List Frame) (w : World) : Prop :=
  ∀ (b : Frame) (k : List Item), b.kind = kindOf d → b.roundOf = none →
    ∃ e a' cs' w', Q e a' cs' w' ∧ Arrives P (lone (b.at a (.code c :: k)) cs w) b k cs' e a' w'

section
variable {P : Program} {d : Bool} {Q : Exit → Act → List Frame → World → Prop} {a : Act} {cs : List Frame} {w : World}

theorem W.of_wp {c : Code} (h : c.wp P (fun e a' w' => Q e a' cs w') a w) : W P d c Q a cs w :=
  fun b k _ _ => let ⟨e, a', w', q, r⟩ := h b k cs; ⟨e, a', cs, w', q, r⟩

theorem W.of_wpS {c : Code} (h : c.wpS P Q a cs w) : W P true c Q a cs w := fun b k hb hr => h b k hb hr

theorem W.mono {c : Code} {Q' : Exit → Act → List Frame → World → Prop} (h : W P d c Q a cs w) (hq : ∀ e a cs w, Q e a cs w → Q' e a cs w) : W P d c Q' a cs w :=
  fun b k hb hr => let ⟨e, a', cs', w', q, r⟩ := h b k hb hr; ⟨e, a', cs', w', hq _ _ _ _ q, r⟩

theorem W.seq {x y : Code} (h : W P d x (Exit.thenS (fun a cs w => W P d y Q a cs w) Q) a cs w) : W P d (.seq x y) Q a cs w := by
  intro b k hb hr
  obtain ⟨e, a₁, cs₁, w₁, hq, harr⟩ := h b (.code y :: k) hb hr
  cases e with
  | normal =>
    obtain ⟨e₂, a₂, cs₂, w₂, hq₂, harr₂⟩ := hq b k hb hr
    exact ⟨e₂, a₂, cs₂, w₂, hq₂, .of_steps (.head step_seq harr) harr₂⟩
  | exit id => exact ⟨_, a₁, cs₁, w₁, hq, .of_steps (.one step_seq) (.pass (x := .code y) rfl (fun _ _ => .inl (by simp)) harr)⟩
  | goto l => exact ⟨_, a₁, cs₁, w₁, hq, .of_steps (.one step_seq) (.pass (x := .code y) rfl (fun _ _ => .inl (by simp)) harr)⟩
  | ret => exact ⟨_, a₁, cs₁, w₁, hq, .of_steps (.one step_seq) (.pass (x := .code y) rfl (fun _ _ => .inl (by simp)) harr)⟩
  | panic ch => exact ⟨_, a₁, cs₁, w₁, hq, .of_steps (.one step_seq) (.pass (x := .code y) rfl (fun _ _ => .inl (by simp)) harr)⟩
  | outgrown => exact ⟨_, a₁, cs₁, w₁, hq, .of_steps (.one step_seq) (.pass (x := .code y) rfl (fun _ _ => .inl (by simp)) harr)⟩

theorem W.cond {c : Operand} {x y : Code} {t : Bool} (hc : a.eval c = .bool t) (h : W P d (if t then x else y) Q a cs w) : W P d (.cond c x y) Q a cs w :=
  fun b k hb hr => let ⟨e, a', cs', w', q, r⟩ := h b k hb hr; ⟨e, a', cs', w', q, .of_steps (.one (step_cond hc)) r⟩

def inBlockS (id : Nat) (Q : Exit → Act → List Frame → World → Prop) : Exit → Act → List Frame → World → Prop
  | .exit id', a, cs, w => if id' = id then Q .normal a cs w else Q (.exit id') a cs w
  | e, a, cs, w => Q e a cs w

theorem W.block {id : Nat} {c : Code} (h : W P d c (inBlockS id Q) a cs w) : W P d (.block id c) Q a cs w := by
  intro b k hb hr
  obtain ⟨e, a₁, cs₁, w₁, hq, harr⟩ := h b (.inBlock id :: k) hb hr
  cases e with
  | normal => exact ⟨.normal, a₁, cs₁, w₁, hq, .head step_block (Steps.trans harr (.one step_inBlock))⟩
  | exit id' =>
    by_cases hid : id' = id
    · simp only [inBlockS, hid, if_true] at hq
      exact ⟨.normal, a₁, cs₁, w₁, hq, .head step_block (harr k (by simp [exitTo, hid]))⟩
    · simp only [inBlockS, hid, if_false] at hq
      refine ⟨.exit id', a₁, cs₁, w₁, hq, fun k' hk => .head step_block (harr k' ?_)⟩
      have : (id == id') = false := by simp; exact fun h => hid h.symm
      simp [exitTo, this, hk]
  | goto l => exact ⟨_, a₁, cs₁, w₁, hq, fun k' hk => .head step_block (harr k' (by simp [gotoIn, hk]))⟩
  | ret => exact ⟨_, a₁, cs₁, w₁, hq, .of_steps (.one step_block) harr⟩
  | panic ch => exact ⟨_, a₁, cs₁, w₁, hq, .of_steps (.one step_block) harr⟩
  | outgrown => exact ⟨_, a₁, cs₁, w₁, hq, .of_steps (b := b) (k := k) (cs := cs₁) (e := .outgrown) (.one step_block) harr⟩

/-- the loop's body, then the loop again -/
def WLoop (P : Program) (d : Bool) (c : Code) (Q : Exit → Act → List Frame → World → Prop) (a : Act) (cs : List Frame) (w : World) : Prop :=
  ∀ (b : Frame) (k : List Item), b.kind = kindOf d → b.roundOf = none →
    ∃ e a' cs' w', Q e a' cs' w' ∧ Arrives P (lone (b.at a (.code c :: .inLoop c :: k)) cs w) b k cs' e a' w'

theorem WLoop.round {c : Code} (h : W P d c (Exit.thenS (fun a cs w => WLoop P d c Q a cs w) Q) a cs w) : WLoop P d c Q a cs w := by
  intro b k hb hr
  obtain ⟨e, a₁, cs₁, w₁, hq, harr⟩ := h b (.inLoop c :: k) hb hr
  cases e with
  | normal =>
    obtain ⟨e₂, a₂, cs₂, w₂, hq₂, harr₂⟩ := hq b k hb hr
    exact ⟨e₂, a₂, cs₂, w₂, hq₂, .of_steps (Steps.trans harr (.one step_inLoop)) harr₂⟩
  | exit id => exact ⟨_, a₁, cs₁, w₁, hq, .pass (x := .inLoop c) rfl (fun _ _ => .inl (by simp)) harr⟩
  | goto l => exact ⟨_, a₁, cs₁, w₁, hq, .pass (x := .inLoop c) rfl (fun _ _ => .inl (by simp)) harr⟩
  | ret => exact ⟨_, a₁, cs₁, w₁, hq, .pass (x := .inLoop c) rfl (fun _ _ => .inl (by simp)) harr⟩
  | panic ch => exact ⟨_, a₁, cs₁, w₁, hq, .pass (x := .inLoop c) rfl (fun _ _ => .inl (by simp)) harr⟩
  | outgrown => exact ⟨_, a₁, cs₁, w₁, hq, .pass (x := .inLoop c) rfl (fun _ _ => .inl (by simp)) harr⟩

theorem W.loop {c : Code} (h : WLoop P d c Q a cs w) : W P d (.loop c) Q a cs w :=
  fun b k hb hr => let ⟨e, a', cs', w', q, r⟩ := h b k hb hr; ⟨e, a', cs', w', q, .of_steps (.one step_loop) r⟩

end
end Am
end Go
