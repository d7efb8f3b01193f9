import Derived.Test.YtcokmnpgeokfpaaGreatDoorVxB
import Derived.Scope
set_option linter.unusedVariables false
set_option linter.unusedSimpArgs false
namespace Go
namespace Vx
theorem Tm.put_same (d : Nat) (v : Value) (t : Tm) : (Tm.put d v t).get d = v := by simp [Tm.get]
theorem Tm.put_other {d i : Nat} (v : Value) (t : Tm) (h : d ≠ i) : (Tm.put d v t).get i = t.get i := by
 simp only [Tm.get]
 split
 ·rename_i e; exact absurd (beq_t e).symm h
 ·rfl
def Tm.gh (t : Tm) (i : Nat) : Bool × Value := (t.has i, t.get i)
theorem Tm.gh_same (d : Nat) (v : Value) (t : Tm) : (Tm.put d v t).gh d = (true, v) := by simp [Tm.gh, Tm.get, Tm.has]
theorem Tm.gh_other {d i : Nat} (v : Value) (t : Tm) (h : d ≠ i) : (Tm.put d v t).gh i = t.gh i := by
 have : Nat.beq i d = false := by
  cases hb : Nat.beq i d with
  | false => rfl
  | true => exact absurd (beq_t hb).symm h
 simp [Tm.gh, Tm.get, Tm.has, this]
theorem Tm.gh_get {t u : Tm} {x : Nat} (h : t.gh x = u.gh x) : t.get x = u.get x := congrArg Prod.snd h
theorem Tm.gh_has {t u : Tm} {x : Nat} (h : t.gh x = u.gh x) : t.has x = u.has x := congrArg Prod.fst h
structure TRel (ρ : Rho) (nt : Nat) (t : Tm) (tmps : Array Value) : Prop where
 size : tmps.size = nt
 at_ : ∀ i, i < nt → t.has i = true → VRel ρ (t.get i) (tmps.getD i undef)
theorem TRel.mono {ρ ρ' : Rho} (hle : ρ.le ρ') {nt : Nat} {t : Tm} {m : Array Value} (h : TRel ρ nt t m) : TRel ρ' nt t m :=
 ⟨h.size, fun i hi hh => (h.at_ i hi hh).mono hle⟩
theorem undef_rel (ρ : Rho) : VRel ρ undef undef := plain_rel ρ rfl
theorem ev_rel {ρ : Rho} {nt : Nat} {t : Tm} {a : Act} (h : TRel ρ nt t a.tmps) {x : Operand} (hx : okOperand nt x = true) (hseen : seenO t x = true) : VRel ρ (ev t x) (a.eval x) := by
 cases x with
 | tmp i => exact h.at_ i (blt_t hx) hseen
 | const v => exact plain_rel ρ hx
 | global g => simp [okOperand] at hx
 | func f => exact .func rfl rfl (fun i v v' x => by simp at x) rfl (fun i v v' x => by simp at x)
theorem ev_rels {ρ : Rho} {nt : Nat} {t : Tm} {a : Act} (h : TRel ρ nt t a.tmps) {o : Oper} (ho : okOp nt o = true) (hseen : o.op.operands.toList.all (seenO t) = true) : ∀ x ∈ o.op.operands, VRel ρ (ev t x) (a.eval x) := by
 intro x hx
 simp only [okOp, Bool.and_eq_true, List.all_eq_true] at ho
 exact ev_rel h (ho.1 x (by rw [Array.mem_toList_iff]; exact hx)) (List.all_eq_true.1 hseen x (by rw [Array.mem_toList_iff]; exact hx))
theorem aopT_eq {P : Program} {X : Facts} {t : Tm} {o : Oper} {σ : AW} {r : ARes} (h : aopT P X t o σ = some r) : o.op.operands.toList.all (seenO t) = true ∧ aop P X (ev t) o σ = some r := by
 unfold aopT at h
 split at h
 ·rename_i hs; exact ⟨hs, h⟩
 ·exact absurd h (by simp)
theorem put_size (a : Act) (d : Option Tmp) (v : Value) : (a.put d v).tmps.size = a.tmps.size := by cases d <;> simp [Act.put]
theorem put_defers (a : Act) (d : Option Tmp) (v : Value) : (a.put d v).defers = a.defers := by cases d <;> rfl
theorem put_rel {ρ : Rho} {nt : Nat} {t : Tm} {a : Act} (h : TRel ρ nt t a.tmps) {d : Option Tmp} (hd : (match d with | some d => Nat.blt d nt | none => true) = true) {v v' : Value} (hv : VRel ρ v v') :
  TRel ρ nt (putT t d v) (a.put d v').tmps := by
 cases d with
 | none => exact h
 | some d =>
  have hd : d < nt := blt_t hd
  refine ⟨by rw [put_size]; exact h.size, fun i hi hh => ?_⟩
  by_cases e : d = i
  ·subst e
   have : d < a.tmps.size := by rw [h.size]; exact hd
   simp only [putT, Tm.put_same, Act.put]
   rw [Array.getD_eq_getD_getElem?, Array.getElem?_setIfInBounds_self_of_lt this]
   exact hv
  ·simp only [putT, Act.put]
   rw [Tm.put_other _ _ e, Array.getD_eq_getD_getElem?, Array.getElem?_setIfInBounds_ne e, ← Array.getD_eq_getD_getElem?]
   refine h.at_ i hi ?_
   simp only [putT, Tm.has] at hh
   split at hh
   ·rename_i e2; exact absurd (beq_t e2).symm e
   ·exact hh
theorem okOp_dst {nt : Nat} {o : Oper} (h : okOp nt o = true) : (match o.dst with | some d => Nat.blt d nt | none => true) = true := by
 simp only [okOp, Bool.and_eq_true] at h
 exact h.2
theorem wanted_eq {ρ : Rho} {nt : Nat} {t : Tm} {a : Act} (h : TRel ρ nt t a.tmps) {ops : Array Oper} (hops : ops.toList.all (okOp nt) = true) {o : Oper} {b : Bool} (hw : wantedA ops t o = some b) :
  Region.wanted o (yielded ops a.tmps) = b := by
 unfold wantedA at hw
 unfold Region.wanted
 split at hw
 ·rename_i hg
  rw [hg]
  simpa using hw
 ·rename_i j want hg
  rw [hg]
  simp only
  unfold yielded
  split at hw
  ·rename_i hd
   rw [hd]
   simp only [Option.bind_none]
   simpa using hw
  ·rename_i d hd
   rw [hd]
   simp only [Option.bind_some]
   have hdn : d < nt := by
    cases hj : ops[j]? with
    | none => rw [hj] at hd; simp at hd
    | some p =>
     rw [hj] at hd
     simp only [Option.bind_some] at hd
     have ho : okOp nt p = true := by
      rw [List.all_eq_true] at hops
      exact hops p (by rw [Array.mem_toList_iff]; exact Array.mem_of_getElem? hj)
     have := okOp_dst ho
     rw [hd] at this
     exact blt_t this
   have hlt : d < a.tmps.size := by rw [h.size]; exact hdn
   split at hw
   ·exact absurd hw (by simp)
   rename_i hhas
   have hrel := h.at_ d hdn hhas
   rw [Array.getElem?_eq_getElem hlt]
   rw [Array.getD_eq_getD_getElem?, Array.getElem?_eq_getElem hlt, Option.getD_some] at hrel
   generalize t.get d = v at hrel hw
   generalize a.tmps[d] = v' at hrel
   cases hrel with
   | pure hpr hpp =>
    cases hpr with
    | lst => simp only [Option.some.injEq] at hw; rw [← hw]; rfl
    | fpt => simp only [Option.some.injEq] at hw; rw [← hw]; rfl
    | func => simp only [Option.some.injEq] at hw; rw [← hw]; rfl
    | _ => exact absurd hpp (by simp [isP])
   | _ => first
    | (simp only [Option.some.injEq, reduceCtorEq] at hw; done)
    | (simp only [Option.some.injEq] at hw; exact hw)
    | (simp only [Option.some.injEq] at hw; rw [← hw]; rfl)
def ChRel (ρ : Rho) (a b : List PanicEntry) : Prop := a.length = b.length ∧ ∀ (i : Nat) (x y : PanicEntry), a[i]? = some x → b[i]? = some y → VRel ρ x.v y.v ∧ x.recovered = y.recovered ∧ x.goexit = y.goexit
theorem ChRel.mono {ρ ρ' : Rho} (hle : ρ.le ρ') {a b : List PanicEntry} (h : ChRel ρ a b) : ChRel ρ' a b :=
 ⟨h.1, fun i x y p q => let ⟨u, v⟩ := h.2 i x y p q; ⟨u.mono hle, v⟩⟩
def MoRel (ρ : Rho) : FrameMode → FrameMode → Prop
 | .run, .run => True
 | .returning, .returning => True
 | .panicking a, .panicking b => ChRel ρ a b
 | _, _ => False
theorem MoRel.mono {ρ ρ' : Rho} (hle : ρ.le ρ') {a b : FrameMode} (h : MoRel ρ a b) : MoRel ρ' a b := by
 cases a <;> cases b <;> first | exact h | exact ChRel.mono hle h
def XRel (ρ : Rho) : AExit → Exit → Prop
 | .normal, .normal => True
 | .exit i, .exit j => i = j
 | .ret, .ret => True
 | .panic a, .panic b => ChRel ρ a b
 | _, _ => False
def ERel (ρ : Rho) : AEnd → Ending → Prop
 | .returned v, .returned v' => VRel ρ v v'
 | .panicked a, .panicked b => ChRel ρ a b
 | _, _ => False
def DRel (ρ : Rho) (d d' : Deferred) : Prop := ∃ f c c' x x', d = { target := .fn (.func f) c, args := x } ∧ d' = { target := .fn (.func f) c', args := x' } ∧ ARel ρ c c' ∧ ARel ρ x x'
def DsRel (ρ : Rho) : List Deferred → List Deferred → Prop
 | [], [] => True
 | d :: l, d' :: l' => DRel ρ d d' ∧ DsRel ρ l l'
 | _, _ => False
theorem DsRel.mono {ρ ρ' : Rho} (hle : ρ.le ρ') : ∀ {a b : List Deferred}, DsRel ρ a b → DsRel ρ' a b
 | [], [], _ => trivial
 | _ :: _, _ :: _, h => ⟨let ⟨f, c, c', x, x', e1, e2, h1, h2⟩ := h.1; ⟨f, c, c', x, x', e1, e2, h1.mono hle, h2.mono hle⟩, DsRel.mono hle h.2⟩
 | [], _ :: _, h => h.elim
 | _ :: _, [], h => h.elim
def CsRel (ρ : Rho) : Bool → FrameMode → List Frame → List Frame → Prop
 | false, _, cs0, cs => cs = cs0
 | true, m, cs0, cs => ∃ c0 rest u, cs0 = c0 :: rest ∧ cs = { c0 with mode := u } :: rest ∧ MoRel ρ m u
theorem CsRel.mono {ρ ρ' : Rho} (hle : ρ.le ρ') {d : Bool} {m : FrameMode} {a b : List Frame} (h : CsRel ρ d m a b) : CsRel ρ' d m a b := by
 cases d with
 | false => exact h
 | true => obtain ⟨c0, r, u, e1, e2, e3⟩ := h; exact ⟨c0, r, u, e1, e2, e3.mono hle⟩
def kindOf : Bool → CallKind
 | false => .normal
 | true => .deferred
def W (P : Program) (d : Bool) (c : Code) (Q : Exit → Act → List Frame → World → Prop) (a : Act) (cs : List Frame) (w : World) : Prop :=
 ∀ (b : Frame) (k : List Item), b.kind = kindOf d → b.roundOf = none →
  ∃ e a' cs' w', Q e a' cs' w' ∧ Arrives P (lone (b.at a (.code c :: k)) cs w) b k cs' e a' w'
section
variable {P : Program} {d : Bool} {Q : Exit → Act → List Frame → World → Prop} {a : Act} {cs : List Frame} {w : World}
theorem W.of_wp {c : Code} (h : c.wp P (fun e a' w' => Q e a' cs w') a w) : W P d c Q a cs w :=
 fun b k _ _ => let ⟨e, a', w', q, r⟩ := h b k cs; ⟨e, a', cs, w', q, r⟩
theorem W.of_wpS {c : Code} (h : c.wpS P Q a cs w) : W P true c Q a cs w := fun b k hb hr => h b k hb hr
theorem W.mono {c : Code} {Q' : Exit → Act → List Frame → World → Prop} (h : W P d c Q a cs w) (hq : ∀ e a cs w, Q e a cs w → Q' e a cs w) : W P d c Q' a cs w :=
 fun b k hb hr => let ⟨e, a', cs', w', q, r⟩ := h b k hb hr; ⟨e, a', cs', w', hq _ _ _ _ q, r⟩
theorem W.seq {x y : Code} (h : W P d x (Exit.thenS (fun a cs w => W P d y Q a cs w) Q) a cs w) : W P d (.seq x y) Q a cs w := by
 intro b k hb hr
 obtain ⟨e, a₁, cs₁, w₁, hq, harr⟩ := h b (.code y :: k) hb hr
 cases e with
 | normal =>
  obtain ⟨e₂, a₂, cs₂, w₂, hq₂, harr₂⟩ := hq b k hb hr
  exact ⟨e₂, a₂, cs₂, w₂, hq₂, .of_steps (.head step_seq harr) harr₂⟩
 | exit id => exact ⟨_, a₁, cs₁, w₁, hq, .of_steps (.one step_seq) (.pass (x := .code y) rfl (fun _ _ => .inl (by simp)) harr)⟩
 | goto l => exact ⟨_, a₁, cs₁, w₁, hq, .of_steps (.one step_seq) (.pass (x := .code y) rfl (fun _ _ => .inl (by simp)) harr)⟩
 | ret => exact ⟨_, a₁, cs₁, w₁, hq, .of_steps (.one step_seq) (.pass (x := .code y) rfl (fun _ _ => .inl (by simp)) harr)⟩
 | panic ch => exact ⟨_, a₁, cs₁, w₁, hq, .of_steps (.one step_seq) (.pass (x := .code y) rfl (fun _ _ => .inl (by simp)) harr)⟩
 | outgrown => exact ⟨_, a₁, cs₁, w₁, hq, .of_steps (.one step_seq) (.pass (x := .code y) rfl (fun _ _ => .inl (by simp)) harr)⟩
theorem W.cond {c : Operand} {x y : Code} {t : Bool} (hc : a.eval c = .bool t) (h : W P d (if t then x else y) Q a cs w) : W P d (.cond c x y) Q a cs w :=
 fun b k hb hr => let ⟨e, a', cs', w', q, r⟩ := h b k hb hr; ⟨e, a', cs', w', q, .of_steps (.one (step_cond hc)) r⟩
def inBlockS (id : Nat) (Q : Exit → Act → List Frame → World → Prop) : Exit → Act → List Frame → World → Prop
 | .exit id', a, cs, w => if id' = id then Q .normal a cs w else Q (.exit id') a cs w
 | e, a, cs, w => Q e a cs w
theorem W.block {id : Nat} {c : Code} (h : W P d c (inBlockS id Q) a cs w) : W P d (.block id c) Q a cs w := by
 intro b k hb hr
 obtain ⟨e, a₁, cs₁, w₁, hq, harr⟩ := h b (.inBlock id :: k) hb hr
 cases e with
 | normal => exact ⟨.normal, a₁, cs₁, w₁, hq, .head step_block (Steps.trans harr (.one step_inBlock))⟩
 | exit id' =>
  by_cases hid : id' = id
  ·simp only [inBlockS, hid, if_true] at hq
   exact ⟨.normal, a₁, cs₁, w₁, hq, .head step_block (harr k (by simp [exitTo, hid]))⟩
  ·simp only [inBlockS, hid, if_false] at hq
   refine ⟨.exit id', a₁, cs₁, w₁, hq, fun k' hk => .head step_block (harr k' ?_)⟩
   have : (id == id') = false := by simp; exact fun h => hid h.symm
   simp [exitTo, this, hk]
 | goto l => exact ⟨_, a₁, cs₁, w₁, hq, fun k' hk => .head step_block (harr k' (by simp [gotoIn, hk]))⟩
 | ret => exact ⟨_, a₁, cs₁, w₁, hq, .of_steps (.one step_block) harr⟩
 | panic ch => exact ⟨_, a₁, cs₁, w₁, hq, .of_steps (.one step_block) harr⟩
 | outgrown => exact ⟨_, a₁, cs₁, w₁, hq, .of_steps (b := b) (k := k) (cs := cs₁) (e := .outgrown) (.one step_block) harr⟩
def WLoop (P : Program) (d : Bool) (c : Code) (Q : Exit → Act → List Frame → World → Prop) (a : Act) (cs : List Frame) (w : World) : Prop :=
 ∀ (b : Frame) (k : List Item), b.kind = kindOf d → b.roundOf = none →
  ∃ e a' cs' w', Q e a' cs' w' ∧ Arrives P (lone (b.at a (.code c :: .inLoop c :: k)) cs w) b k cs' e a' w'
theorem WLoop.round {c : Code} (h : W P d c (Exit.thenS (fun a cs w => WLoop P d c Q a cs w) Q) a cs w) : WLoop P d c Q a cs w := by
 intro b k hb hr
 obtain ⟨e, a₁, cs₁, w₁, hq, harr⟩ := h b (.inLoop c :: k) hb hr
 cases e with
 | normal =>
  obtain ⟨e₂, a₂, cs₂, w₂, hq₂, harr₂⟩ := hq b k hb hr
  exact ⟨e₂, a₂, cs₂, w₂, hq₂, .of_steps (Steps.trans harr (.one step_inLoop)) harr₂⟩
 | exit id => exact ⟨_, a₁, cs₁, w₁, hq, .pass (x := .inLoop c) rfl (fun _ _ => .inl (by simp)) harr⟩
 | goto l => exact ⟨_, a₁, cs₁, w₁, hq, .pass (x := .inLoop c) rfl (fun _ _ => .inl (by simp)) harr⟩
 | ret => exact ⟨_, a₁, cs₁, w₁, hq, .pass (x := .inLoop c) rfl (fun _ _ => .inl (by simp)) harr⟩
 | panic ch => exact ⟨_, a₁, cs₁, w₁, hq, .pass (x := .inLoop c) rfl (fun _ _ => .inl (by simp)) harr⟩
 | outgrown => exact ⟨_, a₁, cs₁, w₁, hq, .pass (x := .inLoop c) rfl (fun _ _ => .inl (by simp)) harr⟩
theorem W.loop {c : Code} (h : WLoop P d c Q a cs w) : W P d (.loop c) Q a cs w :=
 fun b k hb hr => let ⟨e, a', cs', w', q, r⟩ := h b k hb hr; ⟨e, a', cs', w', q, .of_steps (.one step_loop) r⟩
end
end Vx
end Go
set_option linter.unusedVariables false
set_option linter.unusedSimpArgs false
namespace Go
namespace Vx
section
variable {P : Program} {w0 : World} {S : Own} [NoEx P S]
def CallsOk (P : Program) (w0 : World) (S : Own) (call : FuncId → Array Value → AW → Res (AEnd × AW)) : Prop :=
 ∀ f args σ e σ', call f args σ = .ok (e, σ') → ∀ ρ w args', ARel ρ args args' → R w0 S σ ρ w →
  Calls P f args' w fun e' w' => ∃ ρ', ρ.le ρ' ∧ ERel ρ' e e' ∧ R w0 S σ' ρ' w'
def CallsOkR (P : Program) (w0 : World) (S : Own) (call : FuncId → Array Value → AW → AEnd → AW → Prop) : Prop :=
 ∀ f args σ e σ', call f args σ e σ' → ∀ ρ w args', ARel ρ args args' → R w0 S σ ρ w →
  Calls P f args' w fun e' w' => ∃ ρ', ρ.le ρ' ∧ ERel ρ' e e' ∧ R w0 S σ' ρ' w'
def Post (w0 : World) (S : Own) (d : Bool) (nt : Nat) (cs0 : List Frame) (ρ : Rho) (x : AExit) (s : St) : Exit → Act → List Frame → World → Prop :=
 fun e a cs w => ∃ ρ', ρ.le ρ' ∧ XRel ρ' x e ∧ TRel ρ' nt s.tmps a.tmps ∧ DsRel ρ' s.defers a.defers ∧ CsRel ρ' d s.mode cs0 cs ∧ R w0 S s.σ ρ' w
structure SRel (w0 : World) (S : Own) (d : Bool) (nt : Nat) (cs0 : List Frame) (ρ : Rho) (s : St) (a : Act) (cs : List Frame) (w : World) : Prop where
 t : TRel ρ nt s.tmps a.tmps
 ds : DsRel ρ s.defers a.defers
 cs : CsRel ρ d s.mode cs0 cs
 r : R w0 S s.σ ρ w
theorem Post.le {d : Bool} {nt : Nat} {cs0 : List Frame} {ρ ρ' : Rho} (h : ρ.le ρ') {x : AExit} {s : St} {e : Exit} {a : Act} {cs : List Frame} {w : World} (p : Post w0 S d nt cs0 ρ' x s e a cs w) :
  Post w0 S d nt cs0 ρ x s e a cs w := let ⟨q, a1, a2⟩ := p; ⟨q, Rho.le_trans h a1, a2⟩
theorem SRel.post {d : Bool} {nt : Nat} {cs0 : List Frame} {ρ : Rho} {s : St} {a : Act} {cs : List Frame} {w : World} (h : SRel w0 S d nt cs0 ρ s a cs w) {x : AExit} {e : Exit} (hx : XRel ρ x e) :
  Post w0 S d nt cs0 ρ x s e a cs w := ⟨ρ, ρ.le_refl, hx, h.t, h.ds, h.cs, h.r⟩
theorem drop_cons {α : Type} {l : List α} {i : Nat} {x : α} {rest : List α} (h : l.drop i = x :: rest) : l[i]? = some x ∧ l.drop (i + 1) = rest := by
 constructor
 ·rw [← List.head?_drop, h]; rfl
 ·rw [← List.tail_drop, h]; rfl
theorem chain_one {ρ : Rho} {v v' : Value} (h : VRel ρ v v') : ChRel ρ [{ v, recovered := false }] [{ v := v', recovered := false }] :=
 ⟨rfl, fun i x y p q => by
  cases i with
  | zero => simp at p q; subst p; subst q; exact ⟨h, rfl, rfl⟩
  | succ i => simp at p⟩
theorem upon_mono {o : Oper} {a : Act} {K K' : Act → World → Prop} {Q Q' : Exit → Act → World → Prop} (hk : ∀ a w, K a w → K' a w) (hq : ∀ e a w, Q e a w → Q' e a w) {r : Result Next}
  (h : o.upon P a K Q r) : o.upon P a K' Q' r := by
 have hl : LetsOut Q → LetsOut Q' := fun ⟨a, w, x⟩ => ⟨a, w, hq _ _ _ x⟩
 cases r with
 | ok n w' =>
  cases n <;> simp only [Oper.upon] at h ⊢ <;>
   first
    | exact hk _ _ h
    | exact Calls.mono h (fun e w'' he => by cases e <;> first | exact hk _ _ he | exact hq _ _ _ he | exact hl he)
    | exact Rows.mono h (fun _ _ he => hk _ _ he)
 | halt x w' => cases x <;> simp only [Oper.upon] at h ⊢ <;> exact hq _ _ _ h
theorem wpOps_mono_q {ops : Array Oper} {Q Q' : Exit → Act → World → Prop} (hq : ∀ e a w, Q e a w → Q' e a w) : ∀ {l : List Nat} {a : Act} {w : World}, wpOps P ops Q l a w → wpOps P ops Q' l a w := by
 intro l
 induction l with
 | nil => intro a w h; exact hq _ _ _ h
 | cons i rest ih =>
  intro a w h
  simp only [wpOps] at h ⊢
  split
  ·rename_i ho
   rw [ho] at h
   exact ih h
  ·rename_i o ho
   rw [ho] at h
   simp only at h
   split
   ·rename_i hw
    rw [if_pos hw] at h
    rcases h with h | ⟨h1, a1, w1, h2⟩
    ·exact .inl (upon_mono (fun a w x => ih x) hq h)
    ·exact .inr ⟨h1, a1, w1, hq _ _ _ h2⟩
   ·rename_i hw
    rw [if_neg hw] at h
    exact ih h
theorem wpOpsS_mono_q {ops : Array Oper} {Q Q' : Exit → Act → List Frame → World → Prop} (hq : ∀ e a cs w, Q e a cs w → Q' e a cs w) : ∀ {l : List Nat} {a : Act} {cs : List Frame} {w : World}, wpOpsS P ops Q l a cs w → wpOpsS P ops Q' l a cs w := by
 intro l
 induction l with
 | nil => intro a cs w h; exact hq _ _ _ _ h
 | cons i rest ih =>
  intro a cs w h
  simp only [wpOpsS] at h ⊢
  split
  ·rename_i ho
   rw [ho] at h
   exact ih h
  ·rename_i o ho
   rw [ho] at h
   simp only at h
   split
   ·rename_i hw
    rw [if_pos hw] at h
    generalize (execOp a.eval o).run P w = r at h ⊢
    split
    ·simp only at h
     split
     ·rename_i hr; rw [hr] at h; exact ih h
     ·rename_i hr; rw [hr] at h; exact ih h
    ·rename_i r hne
     split at h
     ·exact absurd rfl (hne _)
     ·exact upon_mono (fun a w x => ih x) (fun e a w x => hq _ _ _ _ x) h
   ·rename_i hw
    rw [if_neg hw] at h
    exact ih h
theorem ops_sound {call : FuncId → Array Value → AW → Res (AEnd × AW)} (hc : CallsOk P w0 S call) {X : Facts} (hX : FactsOk P X S) {nt : Nat} {cs0 : List Frame} {ops : Array Oper} (hops : ops.toList.all (okOp nt) = true) :
  ∀ (l : List Oper) (i k : Nat), ops.toList.drop i = l → k = l.length → ∀ (s s' : St) (x : AExit), runOps P X false call ops l s.tmps s.defers s.mode s.σ = .ok (x, s') → ∀ (ρ : Rho) (a : Act) (cs : List Frame) (w : World), SRel w0 S false nt cs0 ρ s a cs w →
   wpOps P ops (fun e a' w' => Post w0 S false nt cs0 ρ x s' e a' cs w') (List.range' i k) a w := by
 intro l
 induction l with
 | nil =>
  intro i k _ hk s s' x h ρ a cs w hs
  subst hk
  simp only [runOps, Res.ok.injEq, Prod.mk.injEq] at h
  obtain ⟨rfl, rfl⟩ := h
  exact hs.post trivial
 | cons o rest ih =>
  intro i k hl hk s s' x h ρ a cs w hs
  obtain ⟨ho, hrest⟩ := drop_cons hl
  rw [Array.getElem?_toList] at ho
  subst hk
  have hok : okOp nt o = true := by
   rw [List.all_eq_true] at hops
   exact hops o (by rw [Array.mem_toList_iff]; exact Array.mem_of_getElem? ho)
  have hdst := okOp_dst hok
  show wpOps P ops _ (List.range' i (rest.length + 1)) a w
  rw [List.range'_succ]
  simp only [wpOps, ho]
  unfold runOps at h
  split at h
  ·exact absurd h (by simp)
  ·rename_i hw0
   have hw := wanted_eq hs.t hops hw0
   rw [if_pos hw]
   refine .inl ?_
   unfold Oper.wp
   cases hop : aopT P X s.tmps o s.σ with
   | none => rw [hop] at h; simp at h
   | some r =>
    rw [hop] at h
    have hout := aop_sound hs.r hX (aopT_eq hop).2 (e' := a.eval) (ev_rels hs.t hok (aopT_eq hop).1)
    generalize (execOp a.eval o).run P w = res at hout
    cases hout with
    | val hle hv hR =>
     simp only at h
     have := ih (i + 1) _ hrest rfl ⟨_, _, _, _⟩ _ _ h _ (a.put o.dst _) cs _ ⟨put_rel (hs.t.mono hle) hdst hv, by rw [put_defers]; exact hs.ds.mono hle, hs.cs.mono hle, hR⟩
     exact wpOps_mono_q (fun e a' w' p => Post.le hle p) this
    | eff hle hv hR =>
     simp only at h
     have := ih (i + 1) _ hrest rfl ⟨_, _, _, _⟩ _ _ h _ (a.put o.dst _) cs _ ⟨put_rel (hs.t.mono hle) hdst hv, by rw [put_defers]; exact hs.ds.mono hle, hs.cs.mono hle, hR⟩
     exact wpOps_mono_q (fun e a' w' p => Post.le hle p) this
    | skip hle hR =>
     simp only at h
     have := ih (i + 1) _ hrest rfl ⟨_, _, _, _⟩ _ _ h _ (a.put o.dst _) cs _ ⟨put_rel (hs.t.mono hle) hdst (undef_rel _), by rw [put_defers]; exact hs.ds.mono hle, hs.cs.mono hle, hR⟩
     exact wpOps_mono_q (fun e a' w' p => Post.le hle p) this
    | pan hv hR =>
     simp only [Res.ok.injEq, Prod.mk.injEq] at h
     obtain ⟨rfl, rfl⟩ := h
     exact SRel.post ⟨hs.t, hs.ds, hs.cs, hR⟩ (chain_one hv)
    | defer hc1 hx hR =>
     simp only at h
     have := ih (i + 1) _ hrest rfl ⟨_, _, _, _⟩ _ _ h _ (({ a with defers := _ :: a.defers } : Act).put o.dst undef) cs _ ⟨put_rel (a := { a with defers := _ :: a.defers }) hs.t hdst (undef_rel _), by rw [put_defers]; exact ⟨⟨_, _, _, _, _, rfl, rfl, hc1, hx⟩, hs.ds⟩, hs.cs, hR⟩
     exact this
    | recover hR => simp at h
    | call ha hR =>
     simp only at h
     split at h
     ·rename_i v σ' hcall
      refine Calls.mono (hc _ _ _ _ _ hcall _ _ _ ha hR) ?_
      rintro e w' ⟨ρ', hle, he, hR'⟩
      cases e with
      | returned v' =>
       have := ih (i + 1) _ hrest rfl ⟨_, _, _, _⟩ _ _ h _ (a.put o.dst v') cs _ ⟨put_rel (hs.t.mono hle) hdst he, by rw [put_defers]; exact hs.ds.mono hle, hs.cs.mono hle, hR'⟩
       exact wpOps_mono_q (fun e a' w' p => Post.le hle p) this
      | panicked ch => exact he.elim
      | outgrown => exact he.elim
     ·rename_i ch σ' hcall
      simp only [Res.ok.injEq, Prod.mk.injEq] at h
      obtain ⟨rfl, rfl⟩ := h
      refine Calls.mono (hc _ _ _ _ _ hcall _ _ _ ha hR) ?_
      rintro e w' ⟨ρ', hle, he, hR'⟩
      cases e with
      | returned v' => exact he.elim
      | panicked ch => exact Post.le hle (SRel.post (s := { s with σ := σ' }) (x := .panic _) (e := .panic _) ⟨hs.t.mono hle, hs.ds.mono hle, hs.cs.mono hle, hR'⟩ he)
      | outgrown => exact he.elim
     ·exact absurd h (by simp)
  ·rename_i hw0
   have hw := wanted_eq hs.t hops hw0
   rw [if_neg (by rw [hw]; simp)]
   exact ih (i + 1) _ hrest rfl ⟨_, _, _, _⟩ _ _ h _ (a.put o.dst _) cs _ ⟨put_rel hs.t hdst (undef_rel _), by rw [put_defers]; exact hs.ds, hs.cs, hs.r⟩
theorem opsS_sound {call : FuncId → Array Value → AW → Res (AEnd × AW)} (hc : CallsOk P w0 S call) {X : Facts} (hX : FactsOk P X S) {nt : Nat} {cs0 : List Frame} {ops : Array Oper} (hops : ops.toList.all (okOp nt) = true) :
  ∀ (l : List Oper) (i k : Nat), ops.toList.drop i = l → k = l.length → ∀ (s s' : St) (x : AExit), runOps P X true call ops l s.tmps s.defers s.mode s.σ = .ok (x, s') → ∀ (ρ : Rho) (a : Act) (cs : List Frame) (w : World), SRel w0 S true nt cs0 ρ s a cs w →
   wpOpsS P ops (Post w0 S true nt cs0 ρ x s') (List.range' i k) a cs w := by
 intro l
 induction l with
 | nil =>
  intro i k _ hk s s' x h ρ a cs w hs
  subst hk
  simp only [runOps, Res.ok.injEq, Prod.mk.injEq] at h
  obtain ⟨rfl, rfl⟩ := h
  exact hs.post trivial
 | cons o rest ih =>
  intro i k hl hk s s' x h ρ a cs w hs
  obtain ⟨ho, hrest⟩ := drop_cons hl
  rw [Array.getElem?_toList] at ho
  subst hk
  have hok : okOp nt o = true := by
   rw [List.all_eq_true] at hops
   exact hops o (by rw [Array.mem_toList_iff]; exact Array.mem_of_getElem? ho)
  have hdst := okOp_dst hok
  show wpOpsS P ops _ (List.range' i (rest.length + 1)) a cs w
  rw [List.range'_succ]
  simp only [wpOpsS, ho]
  unfold runOps at h
  split at h
  ·exact absurd h (by simp)
  ·rename_i hw0
   have hw := wanted_eq hs.t hops hw0
   rw [if_pos hw]
   cases hop : aopT P X s.tmps o s.σ with
   | none => rw [hop] at h; simp at h
   | some r =>
    rw [hop] at h
    have hout := aop_sound hs.r hX (aopT_eq hop).2 (e' := a.eval) (ev_rels hs.t hok (aopT_eq hop).1)
    generalize (execOp a.eval o).run P w = res at hout
    cases hout with
    | val hle hv hR =>
     simp only at h
     have := ih (i + 1) _ hrest rfl ⟨_, _, _, _⟩ _ _ h _ (a.put o.dst _) cs _ ⟨put_rel (hs.t.mono hle) hdst hv, by rw [put_defers]; exact hs.ds.mono hle, hs.cs.mono hle, hR⟩
     exact wpOpsS_mono_q (fun e a' cs' w' p => Post.le hle p) this
    | eff hle hv hR =>
     simp only at h
     have := ih (i + 1) _ hrest rfl ⟨_, _, _, _⟩ _ _ h _ (a.put o.dst _) cs _ ⟨put_rel (hs.t.mono hle) hdst hv, by rw [put_defers]; exact hs.ds.mono hle, hs.cs.mono hle, hR⟩
     exact wpOpsS_mono_q (fun e a' cs' w' p => Post.le hle p) this
    | skip hle hR =>
     simp only at h
     have := ih (i + 1) _ hrest rfl ⟨_, _, _, _⟩ _ _ h _ (a.put o.dst _) cs _ ⟨put_rel (hs.t.mono hle) hdst (undef_rel _), by rw [put_defers]; exact hs.ds.mono hle, hs.cs.mono hle, hR⟩
     exact wpOpsS_mono_q (fun e a' cs' w' p => Post.le hle p) this
    | pan hv hR =>
     simp only [Res.ok.injEq, Prod.mk.injEq] at h
     obtain ⟨rfl, rfl⟩ := h
     exact SRel.post ⟨hs.t, hs.ds, hs.cs, hR⟩ (chain_one hv)
    | defer hc1 hx hR =>
     simp only at h
     have := ih (i + 1) _ hrest rfl ⟨_, _, _, _⟩ _ _ h _ (({ a with defers := _ :: a.defers } : Act).put o.dst undef) cs _ ⟨put_rel (a := { a with defers := _ :: a.defers }) hs.t hdst (undef_rel _), by rw [put_defers]; exact ⟨⟨_, _, _, _, _, rfl, rfl, hc1, hx⟩, hs.ds⟩, hs.cs, hR⟩
     exact this
    | recover hR =>
     simp only at h
     obtain ⟨c0, rcs, u, e1, e2, e3⟩ := hs.cs
     subst e1; subst e2
     simp only
     split at h
     ·rename_i v m hm
      have hu : ∃ v' u', recoverD ({ c0 with mode := u } :: rcs) = some (v', { c0 with mode := u' } :: rcs) ∧ VRel ρ v v' ∧ MoRel ρ m u' := by
       unfold recoverA at hm
       split at hm
       ·rename_i v1 older hmode
        simp only [Option.some.injEq, Prod.mk.injEq] at hm
        obtain ⟨rfl, rfl⟩ := hm
        rw [hmode] at e3
        cases u with
        | run => exact e3.elim
        | returning => exact e3.elim
        | panicking ch =>
         obtain ⟨hl, hc2⟩ := e3
         cases ch with
         | nil => simp at hl
         | cons y ys =>
          obtain ⟨h1, h2, h3⟩ := hc2 0 _ y rfl rfl
          obtain ⟨yv, yr, yg⟩ := y
          simp only at h1 h2 h3
          subst h2; subst h3
          refine ⟨yv, .panicking ({ v := yv, recovered := true } :: ys), rfl, h1, ?_⟩
          refine ⟨by simpa using hl, fun i x y p q => ?_⟩
          cases i with
          | zero => simp at p q; subst p; subst q; exact ⟨h1, rfl, rfl⟩
          | succ i => exact hc2 (i + 1) x y (by simpa using p) (by simpa using q)
       ·exact absurd hm (by simp)
      obtain ⟨v', u', hr1, hr2, hr3⟩ := hu
      rw [hr1]
      exact ih (i + 1) _ hrest rfl ⟨_, _, _, _⟩ _ _ h _ (a.put o.dst v') _ _ ⟨put_rel hs.t hdst hr2, by rw [put_defers]; exact hs.ds, ⟨c0, rcs, u', rfl, rfl, hr3⟩, hR⟩
     ·rename_i hm
      have hu : recoverD ({ c0 with mode := u } :: rcs) = none := by
       cases u with
       | run => rfl
       | returning => rfl
       | panicking ch =>
        cases ch with
        | nil => rfl
        | cons y ys =>
         obtain ⟨yv, yr, yg⟩ := y
         cases yr
         ·cases yg
          ·exfalso
           cases hsm : s.mode with
           | run => rw [hsm] at e3; exact e3.elim
           | returning => rw [hsm] at e3; exact e3.elim
           | panicking ch0 =>
            rw [hsm] at e3 hm
            obtain ⟨hl, hc2⟩ := e3
            cases ch0 with
            | nil => simp at hl
            | cons z zs =>
             obtain ⟨h1, h2, h3⟩ := hc2 0 z _ rfl rfl
             obtain ⟨zv, zr, zg⟩ := z
             simp only at h1 h2 h3
             subst h2; subst h3
             simp [recoverA] at hm
          ·rfl
         ·cases yg <;> rfl
      rw [hu]
      exact ih (i + 1) _ hrest rfl ⟨_, _, _, _⟩ _ _ h _ (a.put o.dst _) _ _ ⟨put_rel hs.t hdst .nilIface, by rw [put_defers]; exact hs.ds, ⟨c0, rcs, u, rfl, rfl, e3⟩, hR⟩
    | call ha hR =>
     simp only at h
     split at h
     ·rename_i v σ' hcall
      refine Calls.mono (hc _ _ _ _ _ hcall _ _ _ ha hR) ?_
      rintro e w' ⟨ρ', hle, he, hR'⟩
      cases e with
      | returned v' =>
       have := ih (i + 1) _ hrest rfl ⟨_, _, _, _⟩ _ _ h _ (a.put o.dst v') cs _ ⟨put_rel (hs.t.mono hle) hdst he, by rw [put_defers]; exact hs.ds.mono hle, hs.cs.mono hle, hR'⟩
       exact wpOpsS_mono_q (fun e a' cs' w' p => Post.le hle p) this
      | panicked ch => exact he.elim
      | outgrown => exact he.elim
     ·rename_i ch σ' hcall
      simp only [Res.ok.injEq, Prod.mk.injEq] at h
      obtain ⟨rfl, rfl⟩ := h
      refine Calls.mono (hc _ _ _ _ _ hcall _ _ _ ha hR) ?_
      rintro e w' ⟨ρ', hle, he, hR'⟩
      cases e with
      | returned v' => exact he.elim
      | panicked ch => exact Post.le hle (SRel.post (s := { s with σ := σ' }) (x := .panic _) (e := .panic _) ⟨hs.t.mono hle, hs.ds.mono hle, hs.cs.mono hle, hR'⟩ he)
      | outgrown => exact he.elim
     ·exact absurd h (by simp)
  ·rename_i hw0
   have hw := wanted_eq hs.t hops hw0
   rw [if_neg (by rw [hw]; simp)]
   exact ih (i + 1) _ hrest rfl ⟨_, _, _, _⟩ _ _ h _ (a.put o.dst _) cs _ ⟨put_rel hs.t hdst (undef_rel _), by rw [put_defers]; exact hs.ds, hs.cs, hs.r⟩
end
end Vx
end Go
set_option linter.unusedVariables false
set_option linter.unusedSimpArgs false
namespace Go
namespace Vx
theorem bsets_spec : ∀ (l : List Oper) (acc : List Nat), (bsets l acc).length = acc.length + l.length ∧ (bsets l acc).take acc.length = acc ∧
  ∀ i o, l[i]? = some o → (bsets l acc).getD (acc.length + i) 0 = bset ((bsets l acc).take (acc.length + i)) o
 | [], acc => ⟨by simp [bsets], by simp [bsets], fun i o h => by simp at h⟩
 | o :: l, acc => by
  obtain ⟨h1, h2, h3⟩ := bsets_spec l (acc ++ [bset acc o])
  simp only [bsets]
  have e1 : (acc ++ [bset acc o]).length = acc.length + 1 := by simp
  refine ⟨by rw [h1]; simp; omega, ?_, fun i p hp => ?_⟩
  ·have := congrArg (List.take acc.length) h2
   rw [List.take_take, e1] at this
   simpa using this
  ·cases i with
   | zero =>
    simp at hp
    subst hp
    simp only [Nat.add_zero]
    have h4 : (bsets l (acc ++ [bset acc o]))[acc.length]? = some (bset acc o) := by
     have := congrArg (fun x => x[acc.length]?) h2
     simp only [List.getElem?_take, e1] at this
     rw [if_pos (by omega)] at this
     rw [this]
     simp
    have h5 : (bsets l (acc ++ [bset acc o])).take acc.length = acc := by
     have := congrArg (List.take acc.length) h2
     rw [List.take_take, e1] at this
     simpa using this
    rw [h5, List.getD_eq_getElem?_getD, h4]
    rfl
   | succ i =>
    have := h3 i p (by simpa using hp)
    rw [e1] at this
    rw [show acc.length + (i + 1) = acc.length + 1 + i by omega]
    exact this
theorem bset_bit {bs : List Nat} {i : Nat} : ∀ {l : List Edge}, Nat.testBit (l.foldr (fun e s => match binds e with | true => (2 ^ e.on ||| bs.getD e.on 0) ||| s | false => s) 0) i = true →
  ∃ e ∈ l, binds e = true ∧ (e.on = i ∨ Nat.testBit (bs.getD e.on 0) i = true)
 | [], h => by simp at h
 | e :: l, h => by
  simp only [List.foldr_cons] at h
  split at h
  ·rename_i hb
   rw [Nat.testBit_or, Nat.testBit_or, Bool.or_eq_true, Bool.or_eq_true, Nat.testBit_two_pow] at h
   rcases h with (h | h) | h
   ·exact ⟨e, by simp, hb, .inl (by simpa using h)⟩
   ·exact ⟨e, by simp, hb, .inr h⟩
   ·obtain ⟨f, hf, h1, h2⟩ := bset_bit h
    exact ⟨f, by simp [hf], h1, h2⟩
  ·obtain ⟨f, hf, h1, h2⟩ := bset_bit h
   exact ⟨f, by simp [hf], h1, h2⟩
theorem ahead_inv {L : List Oper} {i j : Nat} (h : ahead (bsets L []) i j = true) : ∃ o, L[j]? = some o ∧ ∃ e ∈ o.after.toList, binds e = true ∧ (e.on = i ∨ (e.on < j ∧ ahead (bsets L []) i e.on = true)) := by
 obtain ⟨h1, _, h3⟩ := bsets_spec L []
 unfold ahead at h
 cases ho : L[j]? with
 | none =>
  have hj : L.length ≤ j := by simpa using ho
  have : (bsets L []).getD j 0 = 0 := by
   rw [List.getD_eq_getElem?_getD, List.getElem?_eq_none (by rw [h1]; simpa using hj)]; rfl
  rw [this] at h
  simp at h
 | some o =>
  refine ⟨o, rfl, ?_⟩
  have := h3 j o ho
  simp only [List.length_nil, Nat.zero_add] at this
  rw [this] at h
  obtain ⟨e, he, hb, hx⟩ := bset_bit h
  refine ⟨e, he, hb, ?_⟩
  rcases hx with hx | hx
  ·exact .inl hx
  ·right
   rw [List.getD_eq_getElem?_getD, List.getElem?_take] at hx
   split at hx
   ·rename_i hlt
    exact ⟨hlt, by rw [← List.getD_eq_getElem?_getD] at hx; exact hx⟩
   ·simp at hx
def Closed (L : List Oper) (D : Nat → Bool) : Prop := ∀ j o, D j = true → L[j]? = some o → ∀ e ∈ o.after.toList, binds e = true → D e.on = true
theorem Closed.ahead {L : List Oper} {D : Nat → Bool} (h : Closed L D) {i : Nat} : ∀ j, D j = true → Vx.ahead (bsets L []) i j = true → D i = true := by
 intro j
 induction j using Nat.strongRecOn with
 | _ j ih =>
  intro hj ha
  obtain ⟨o, ho, e, he, hb, hx⟩ := ahead_inv ha
  have hd := h j o hj ho e he hb
  rcases hx with hx | ⟨h1, h2⟩
  ·rw [← hx]; exact hd
  ·exact ih e.on h1 hd h2
theorem okRegion_at {ops : Array Oper} {bs : List Nat} : ∀ {l : List Oper} {i0 : Nat}, okRegion ops bs l i0 = true → ∀ i o, l[i]? = some o → okEdges (i0 + i) o = true ∧
  ∀ j p, i < j → l[j]? = some p → Vx.ahead bs (i0 + i) (i0 + j) = true ∨ Oper.apart ops o p = true
 | [], i0, _, i, o, h => by simp at h
 | q :: l, i0, h, i, o, ho => by
  simp only [okRegion, Bool.and_eq_true] at h
  obtain ⟨⟨h1, h2⟩, h3⟩ := h
  cases i with
  | zero =>
   simp at ho
   subst ho
   refine ⟨h1, fun j p hj hp => ?_⟩
   have pairs : ∀ (l : List Oper) (k : Nat), okPairs ops bs q i0 l k = true → ∀ m p, l[m]? = some p → Vx.ahead bs i0 (k + m) = true ∨ Oper.apart ops q p = true := by
    intro l
    induction l with
    | nil => intro k _ m p hm; simp at hm
    | cons x l ih =>
     intro k hk m p hm
     simp only [okPairs, Bool.and_eq_true, Bool.or_eq_true] at hk
     cases m with
     | zero => simp at hm; subst hm; exact hk.1
     | succ m =>
      have := ih (k + 1) hk.2 m p (by simpa using hm)
      rw [show k + (m + 1) = k + 1 + m by omega]
      exact this
   cases j with
   | zero => omega
   | succ j =>
    have := pairs l (i0 + 1) h2 j p (by simpa using hp)
    rw [show i0 + (j + 1) = i0 + 1 + j by omega]
    exact this
  | succ i =>
   obtain ⟨a, b⟩ := okRegion_at h3 i o (by simpa using ho)
   refine ⟨by rw [show i0 + (i + 1) = i0 + 1 + i by omega]; exact a, fun j p hj hp => ?_⟩
   cases j with
   | zero => omega
   | succ j =>
    have := b j p (by omega) (by simpa using hp)
    rw [show i0 + (i + 1) = i0 + 1 + i by omega, show i0 + (j + 1) = i0 + 1 + j by omega]
    exact this
theorem ahead_lt {ops : Array Oper} {i j : Nat} (hok : okRegion ops (bsets ops.toList []) ops.toList 0 = true) : Vx.ahead (bsets ops.toList []) i j = true → i < j := by
 induction j using Nat.strongRecOn with
 | _ j ih =>
  intro h
  obtain ⟨o, ho, e, he, hb, hx⟩ := ahead_inv h
  have hed := (okRegion_at hok j o ho).1
  simp only [okEdges, List.all_eq_true, Nat.zero_add] at hed
  have hlt : e.on < j := by
   have := hed e he
   rw [hb] at this
   exact blt_t (by simpa using this)
  rcases hx with hx | ⟨_, h2⟩
  ·omega
  ·have := ih e.on hlt h2; omega
abbrev CallR := FuncId → Array Value → AW → AEnd → AW → Prop
def relOf (call : FuncId → Array Value → AW → Res (AEnd × AW)) : CallR := fun f args σ e σ' => call f args σ = .ok (e, σ')
def tseq : List Oper → List Ent → Tm → Nat → Tm
 | o :: ops, n :: ns, t, i + 1 => tseq ops ns (putT t o.dst n.value) i
 | _, _, t, _ => t
def Ent.behind : Ent → AW → AW
 | .eff _ _ σ', _ => σ'
 | _, σ => σ
def sseq : List Ent → AW → Nat → AW
 | n :: ns, σ, i + 1 => sseq ns (n.behind σ) i
 | _, σ, _ => σ
def StepOk (P : Program) (X : Facts) (call : CallR) (ops : Array Oper) (t : Tm) (σ : AW) (o : Oper) : Ent → Prop
 | .skip => wantedA ops t o = some false
 | .val v => wantedA ops t o = some true ∧ aopT P X t o σ = some (.val v)
 | .eff σ1 v σ' => σ1 = σ ∧ wantedA ops t o = some true ∧ (aopT P X t o σ = some (.eff v σ') ∨ ∃ f args, aopT P X t o σ = some (.call f args) ∧ call f args σ (.returned v) σ')
theorem tseq_zero (l : List Oper) (ns : List Ent) (t : Tm) : tseq l ns t 0 = t := by cases l <;> cases ns <;> rfl
theorem sseq_zero (ns : List Ent) (σ : AW) : sseq ns σ 0 = σ := by cases ns <;> rfl
theorem tseq_succ : ∀ {l : List Oper} {ns : List Ent} {t : Tm} {i : Nat} {o : Oper} {n : Ent}, l[i]? = some o → ns[i]? = some n → tseq l ns t (i + 1) = putT (tseq l ns t i) o.dst n.value
 | [], ns, t, i, o, n, h, _ => by simp at h
 | _ :: _, [], t, i, o, n, _, h => by simp at h
 | p :: l, m :: ns, t, 0, o, n, h, k => by
  simp at h k; subst h; subst k
  simp only [tseq, tseq_zero]
 | p :: l, m :: ns, t, i + 1, o, n, h, k => by
  simp only [tseq]
  exact tseq_succ (by simpa using h) (by simpa using k)
theorem sseq_succ : ∀ {ns : List Ent} {σ : AW} {i : Nat} {n : Ent}, ns[i]? = some n → sseq ns σ (i + 1) = n.behind (sseq ns σ i)
 | [], σ, i, n, h => by simp at h
 | m :: ns, σ, 0, n, h => by simp at h; subst h; simp only [sseq, sseq_zero]
 | m :: ns, σ, i + 1, n, h => by
  simp only [sseq]
  exact sseq_succ (by simpa using h)
theorem runDraw_spec {P : Program} {X : Facts} {call : FuncId → Array Value → AW → Res (AEnd × AW)} {ops : Array Oper} : ∀ {l : List Oper} {t : Tm} {σ : AW} {ns : List Ent} {t' : Tm} {σ' : AW},
  runDraw P X call ops l t σ = .ok (ns, t', σ') → ns.length = l.length ∧ tseq l ns t l.length = t' ∧ sseq ns σ l.length = σ' ∧
   ∀ i o, l[i]? = some o → ∃ n, ns[i]? = some n ∧ StepOk P X (relOf call) ops (tseq l ns t i) (sseq ns σ i) o n
 | [], t, σ, ns, t', σ', h => by
  simp only [runDraw, Res.ok.injEq, Prod.mk.injEq] at h
  obtain ⟨rfl, rfl, rfl⟩ := h
  exact ⟨rfl, rfl, rfl, fun i o h => by simp at h⟩
 | p :: l, t, σ, ns, t', σ', h => by
  have fin : ∀ (n : Ent) (rest : List Ent), runDraw P X call ops l (putT t p.dst n.value) (n.behind σ) = .ok (rest, t', σ') → StepOk P X (relOf call) ops t σ p n →
    (n :: rest).length = (p :: l).length ∧ tseq (p :: l) (n :: rest) t (p :: l).length = t' ∧ sseq (n :: rest) σ (p :: l).length = σ' ∧
    ∀ i o, (p :: l)[i]? = some o → ∃ m, (n :: rest)[i]? = some m ∧ StepOk P X (relOf call) ops (tseq (p :: l) (n :: rest) t i) (sseq (n :: rest) σ i) o m := by
   intro n rest hr hs
   obtain ⟨a, b, c, d⟩ := runDraw_spec hr
   refine ⟨by simp [a], b, c, fun i o ho => ?_⟩
   cases i with
   | zero =>
    simp at ho
    subst ho
    exact ⟨n, rfl, by rw [tseq_zero, sseq_zero]; exact hs⟩
   | succ i =>
    obtain ⟨m, hm, hs'⟩ := d i o (by simpa using ho)
    exact ⟨m, by simpa using hm, hs'⟩
  unfold runDraw at h
  split at h
  ·exact absurd h (by simp)
  ·rename_i hw
   split at h
   ·rename_i v hv
    split at h
    ·rename_i r1 r2 hr
     cases h
     exact fin (.val v) _ hr ⟨hw, hv⟩
    ·exact absurd h (by simp)
   ·rename_i v σ1 hv
    split at h
    ·rename_i r1 r2 hr
     cases h
     exact fin (.eff σ v σ1) _ hr ⟨rfl, hw, .inl hv⟩
    ·exact absurd h (by simp)
   ·rename_i f args hv
    split at h
    ·rename_i v σ1 hc
     split at h
     ·rename_i r1 r2 hr
      cases h
      exact fin (.eff σ v σ1) _ hr ⟨rfl, hw, .inr ⟨f, args, hv, hc⟩⟩
     ·exact absurd h (by simp)
    ·exact absurd h (by simp)
    ·exact absurd h (by simp)
   ·exact absurd h (by simp)
  ·rename_i hw
   split at h
   ·rename_i r1 r2 hr
    cases h
    exact fin .skip _ hr hw
   ·exact absurd h (by simp)
theorem okEff_at {P : Program} {X : Facts} {bs : List Nat} {e : Nat} {σ σ' : AW} : ∀ {l : List Oper} {ns : List Ent} {t : Tm} {j0 : Nat}, okEff P X bs e σ σ' l ns t j0 = true → ∀ i o n, l[i]? = some o → ns[i]? = some n →
  e = j0 + i ∨ Vx.ahead bs e (j0 + i) = true ∨ Vx.ahead bs (j0 + i) e = true ∨
   (match n with | .val v => again P X (tseq l ns t i) o v (match Nat.blt e (j0 + i) with | true => σ | false => σ') | .skip => true | .eff _ _ _ => false) = true
 | [], ns, t, j0, _, i, o, n, h, _ => by simp at h
 | _ :: _, [], t, j0, _, i, o, n, _, h => by simp at h
 | p :: l, m :: ns, t, j0, h, i, o, n, ho, hn => by
  simp only [okEff, Bool.and_eq_true, Bool.or_eq_true] at h
  cases i with
  | zero =>
   simp at ho hn
   subst ho; subst hn
   rw [tseq_zero, Nat.add_zero]
   rcases h.1 with ((a | a) | a) | a
   ·exact .inl (beq_t a)
   ·exact .inr (.inl a)
   ·exact .inr (.inr (.inl a))
   ·exact .inr (.inr (.inr a))
  | succ i =>
   have := okEff_at h.2 i o n (by simpa using ho) (by simpa using hn)
   rw [show j0 + (i + 1) = j0 + 1 + i by omega]
   exact this
theorem okEffs_at {P : Program} {X : Facts} {bs : List Nat} {L : List Oper} {ns : List Ent} {t : Tm} : ∀ {l : List Ent} {e0 : Nat}, okEffs P X bs L ns t l e0 = true → ∀ i σ v σ', l[i]? = some (.eff σ v σ') → okEff P X bs (e0 + i) σ σ' L ns t 0 = true
 | [], e0, _, i, σ, v, σ', h => by simp at h
 | m :: l, e0, h, i, σ, v, σ', hi => by
  cases i with
  | zero =>
   simp at hi
   subst hi
   simp only [okEffs, Bool.and_eq_true] at h
   exact h.1
  | succ i =>
   have h2 : okEffs P X bs L ns t l (e0 + 1) = true := by
    cases m with
    | val v => exact h
    | skip => exact h
    | eff a b c => simp only [okEffs, Bool.and_eq_true] at h; exact h.2
   rw [show e0 + (i + 1) = e0 + 1 + i by omega]
   exact okEffs_at h2 i σ v σ' (by simpa using hi)
theorem looks_congr {P : Program} {X : Facts} {evx : Operand → Value} {o : Oper} (h : looks o.op = false) (σ σ' : AW) : aop P X evx o σ = aop P X evx o σ' := by
 obtain ⟨dst, op, type, pos, after, guard⟩ := o
 cases op <;> first | rfl | (simp [looks] at h; done)
theorem looks_congrT {P : Program} {X : Facts} {t : Tm} {o : Oper} (h : looks o.op = false) (σ σ' : AW) : aopT P X t o σ = aopT P X t o σ' := by
 unfold aopT
 rw [looks_congr h σ σ']
def againP (P : Program) (X : Facts) (t : Tm) (o : Oper) (v : Value) (σ : AW) : Prop := looks o.op = false ∨ aopT P X t o σ = some (.val v)
theorem again_eq {P : Program} {X : Facts} {t : Tm} {o : Oper} {v : Value} {σ σ0 : AW} (h : againP P X t o v σ) (h0 : aopT P X t o σ0 = some (.val v)) : aopT P X t o σ = some (.val v) := by
 rcases h with hl | h
 ·rw [looks_congrT hl σ σ0]; exact h0
 ·exact h
theorem again_of {P : Program} {X : Facts} {t : Tm} {o : Oper} {v : Value} {σ : AW} (h : again P X t o v σ = true) : againP P X t o v σ := by
 unfold again at h
 split at h
 ·rename_i hl; exact .inl hl
 ·split at h
  ·rename_i u hu
   exact .inr (by rw [hu, sameN_eq _ _ _ h])
  ·exact absurd h (by simp)
def TD (L : List Oper) (ns : List Ent) (t : Tm) (D : Nat → Bool) : Nat → Tm
 | 0 => t
 | k + 1 => match D k, L[k]?, ns[k]? with
  | true, some o, some n => putT (TD L ns t D k) o.dst n.value
  | _, _, _ => TD L ns t D k
def SD (ns : List Ent) (σ : AW) (D : Nat → Bool) : Nat → AW
 | 0 => σ
 | k + 1 => match D k, ns[k]? with
  | true, some n => n.behind (SD ns σ D k)
  | _, _ => SD ns σ D k
def isEff (ns : List Ent) (k : Nat) : Prop := ∃ σ v σ', ns[k]? = some (.eff σ v σ')
theorem SD_congr {ns : List Ent} {σ : AW} {D D' : Nat → Bool} : ∀ {k : Nat}, (∀ j, j < k → isEff ns j → D j = D' j) → SD ns σ D k = SD ns σ D' k
 | 0, _ => rfl
 | k + 1, h => by
  have ih := SD_congr (σ := σ) (k := k) fun j hj he => h j (by omega) he
  simp only [SD]
  cases hn : ns[k]? with
  | none => cases D k <;> cases D' k <;> exact ih
  | some n =>
   cases n with
   | val v => cases D k <;> cases D' k <;> simp [Ent.behind, ih]
   | skip => cases D k <;> cases D' k <;> simp [Ent.behind, ih]
   | eff a b c =>
    have := h k (by omega) ⟨a, b, c, hn⟩
    rw [this]
    cases D' k <;> simp [Ent.behind, ih]
theorem SD_seq {ns : List Ent} {σ : AW} {D : Nat → Bool} : ∀ {k : Nat}, k ≤ ns.length → (∀ j, j < k → isEff ns j → D j = true) → SD ns σ D k = sseq ns σ k
 | 0, _, _ => (sseq_zero ns σ).symm
 | k + 1, hk, h => by
  have ih := SD_seq (ns := ns) (σ := σ) (D := D) (k := k) (by omega) fun j hj he => h j (by omega) he
  have hlt : k < ns.length := by omega
  have hn : ns[k]? = some ns[k] := List.getElem?_eq_getElem hlt
  rw [sseq_succ hn]
  simp only [SD, hn, ← ih]
  cases he : ns[k] with
  | val v => cases D k <;> rfl
  | skip => cases D k <;> rfl
  | eff a b c =>
   rw [h k (by omega) ⟨a, b, c, by rw [hn, he]⟩]
theorem SD_upto {ns : List Ent} {σ : AW} {D : Nat → Bool} : ∀ {k n : Nat}, k ≤ n → (∀ j, k ≤ j → j < n → isEff ns j → D j = false) → SD ns σ D n = SD ns σ D k := by
 intro k n hkn h
 obtain ⟨m, rfl⟩ : ∃ m, n = k + m := ⟨n - k, by omega⟩
 clear hkn
 induction m with
 | zero => rfl
 | succ m ih =>
  rw [← ih fun j a b => h j a (by omega)]
  show SD ns σ D (k + m + 1) = _
  simp only [SD]
  cases hn : ns[k + m]? with
  | none => cases D (k + m) <;> rfl
  | some n =>
   cases n with
   | val v => cases D (k + m) <;> rfl
   | skip => cases D (k + m) <;> rfl
   | eff a b c => rw [h (k + m) (by omega) (by omega) ⟨a, b, c, hn⟩]
theorem TD_congr {L : List Oper} {ns : List Ent} {t : Tm} {D D' : Nat → Bool} {x : Nat} {nt : Nat} (hL : L.all (okOp nt) = true) :
  ∀ {k : Nat}, (∀ j o, j < k → L[j]? = some o → o.dst = some x → D j = D' j) → (TD L ns t D k).gh x = (TD L ns t D' k).gh x
 | 0, _ => rfl
 | k + 1, h => by
  have ih := TD_congr (L := L) (ns := ns) (t := t) (D := D) (D' := D') hL (k := k) fun j o hj => h j o (by omega)
  have key : ∀ o n, L[k]? = some o → ns[k]? = some n → o.dst ≠ some x → ∀ t0 : Tm, (putT t0 o.dst n.value).gh x = t0.gh x := by
   intro o n ho hn hne t0
   cases hd : o.dst with
   | none => rfl
   | some d =>
    have hok : okOp nt o = true := by
     rw [List.all_eq_true] at hL
     exact hL o (List.mem_of_getElem? ho)
    have hdn := okOp_dst hok
    rw [hd] at hdn hne
    have hdn : d < nt := blt_t hdn
    simp only [putT]
    exact Tm.gh_other _ _ (fun e => hne (by rw [e]))
  simp only [TD]
  cases hL1 : L[k]? with
  | none => cases D k <;> cases D' k <;> exact ih
  | some o =>
   cases hn : ns[k]? with
   | none => cases D k <;> cases D' k <;> exact ih
   | some n =>
    by_cases hd : o.dst = some x
    ·rw [h k o (by omega) hL1 hd]
     cases D' k
     ·exact ih
     ·simp only [hd, putT, Tm.gh_same]
    ·cases D k <;> cases D' k <;> simp only [key o n hL1 hn hd, ih]
theorem TD_seq {L : List Oper} {ns : List Ent} {t : Tm} (hlen : ns.length = L.length) {i : Nat} : ∀ {k : Nat}, k ≤ L.length → TD L ns t (fun j => decide (j < i)) k = tseq L ns t (min i k)
 | 0, _ => by rw [Nat.min_zero, tseq_zero]; rfl
 | k + 1, hk => by
  have ih := TD_seq hlen (t := t) (i := i) (k := k) (by omega)
  have hL : L[k]? = some L[k] := List.getElem?_eq_getElem (by omega)
  have hn : ns[k]? = some ns[k] := List.getElem?_eq_getElem (by omega)
  simp only [TD, hL, hn]
  by_cases h : k < i
  ·simp only [h, decide_true]
   rw [ih, Nat.min_eq_right (by omega), Nat.min_eq_right (by omega), tseq_succ hL hn]
  ·simp only [h, decide_false]
   rw [ih, Nat.min_eq_left (by omega), Nat.min_eq_left (by omega)]
def addD (D : Nat → Bool) (i : Nat) : Nat → Bool := fun j => if j = i then true else D j
theorem TD_add {L : List Oper} {ns : List Ent} {t : Tm} {D : Nat → Bool} {i x nt : Nat} {o : Oper} {n : Ent} (hL : L.all (okOp nt) = true) (ho : L[i]? = some o) (hn : ns[i]? = some n)
  (hlast : ∀ j p d, i < j → L[j]? = some p → o.dst = some d → p.dst = some d → D j = false) {k : Nat} (hik : i < k) :
  (TD L ns t (addD D i) k).gh x = (putT (TD L ns t D k) o.dst n.value).gh x := by
 have hok : okOp nt o = true := by
  rw [List.all_eq_true] at hL
  exact hL o (List.mem_of_getElem? ho)
 by_cases hd : o.dst = some x
 ·rw [hd]
  simp only [putT, Tm.gh_same]
  obtain ⟨m, rfl⟩ : ∃ m, k = i + 1 + m := ⟨k - (i + 1), by omega⟩
  clear hik
  induction m with
  | zero =>
   show (TD L ns t (addD D i) (i + 1)).gh x = _
   simp only [TD, ho, hn, addD, if_true, hd, putT, Tm.gh_same]
  | succ m ih =>
   rw [← ih]
   show (TD L ns t (addD D i) (i + 1 + m + 1)).gh x = _
   simp only [TD]
   cases hL1 : L[i + 1 + m]? with
   | none => cases addD D i (i + 1 + m) <;> rfl
   | some p =>
    cases hn1 : ns[i + 1 + m]? with
    | none => cases addD D i (i + 1 + m) <;> rfl
    | some q =>
     by_cases hp : p.dst = some x
     ·have : addD D i (i + 1 + m) = false := by
       unfold addD
       rw [if_neg (by omega)]
       exact hlast _ p x (by omega) hL1 hd hp
      rw [this]
     ·cases addD D i (i + 1 + m)
      ·rfl
      ·simp only
       cases hpd : p.dst with
       | none => rfl
       | some d =>
        have hokp : okOp nt p = true := by
         rw [List.all_eq_true] at hL
         exact hL p (List.mem_of_getElem? hL1)
        have hdn := okOp_dst hokp
        rw [hpd] at hdn hp
        have hdn : d < nt := blt_t hdn
        simp only [putT]
        exact Tm.gh_other _ _ (fun e => hp (by rw [e]))
 ·have h1 : (TD L ns t (addD D i) k).gh x = (TD L ns t D k).gh x := by
   refine TD_congr hL fun j p hj hp hpd => ?_
   unfold addD
   split
   ·rename_i e
    subst e
    rw [ho] at hp
    cases hp
    exact absurd hpd hd
   ·rfl
  rw [h1]
  cases hod : o.dst with
  | none => rfl
  | some d =>
   have hdn := okOp_dst hok
   rw [hod] at hdn hd
   have hdn : d < nt := blt_t hdn
   simp only [putT]
   exact (Tm.gh_other _ _ (fun e => hd (by rw [e]))).symm
end Vx
end Go
set_option linter.unusedVariables false
set_option linter.unusedSimpArgs false
namespace Go
namespace Vx
section
variable {P : Program} {w0 : World} {S : Own} [NoEx P S]
structure Drawn (P : Program) (X : Facts) (call : CallR) (nt : Nat) (ops : Array Oper) (ns : List Ent) (t0 : Tm) (σ0 : AW) : Prop where
 ok : okRegion ops (bsets ops.toList []) ops.toList 0 = true
 all : ops.toList.all (okOp nt) = true
 len : ns.length = ops.toList.length
 step : ∀ i o, ops.toList[i]? = some o → ∃ n, ns[i]? = some n ∧ StepOk P X call ops (tseq ops.toList ns t0 i) (sseq ns σ0 i) o n
 effs : ∀ e a b c, ns[e]? = some (.eff a b c) → ∀ i o n, ops.toList[i]? = some o → ns[i]? = some n → e = i ∨ ahead (bsets ops.toList []) e i = true ∨ ahead (bsets ops.toList []) i e = true ∨
  (match n with | .val v => againP P X (tseq ops.toList ns t0 i) o v (if e < i then a else c) | .skip => True | .eff _ _ _ => False)
variable {X : Facts} {call : CallR} {nt : Nat} {ops : Array Oper} {ns : List Ent} {t0 : Tm} {σ0 : AW}
theorem Drawn.apart_or (H : Drawn P X call nt ops ns t0 σ0) {i j : Nat} {o p : Oper} (hi : ops.toList[i]? = some o) (hj : ops.toList[j]? = some p) (h : i < j) :
  ahead (bsets ops.toList []) i j = true ∨ Oper.apart ops o p = true := by
 have := (okRegion_at H.ok i o hi).2 j p h hj
 simpa using this
structure Ready (L : List Oper) (D : Nat → Bool) (i : Nat) : Prop where
 closed : Closed L D
 notIn : D i = false
 edges : ∀ o, L[i]? = some o → ∀ e ∈ o.after.toList, binds e = true → D e.on = true
theorem Ready.closed' {L : List Oper} {D : Nat → Bool} {i : Nat} (h : Ready L D i) : Closed L (addD D i) := by
 intro j o hj ho e he hb
 unfold addD at hj ⊢
 split
 ·rfl
 ·split at hj
  ·rename_i e1; subst e1; exact h.edges o ho e he hb
  ·exact h.closed j o hj ho e he hb
theorem Ready.before {L : List Oper} {D : Nat → Bool} {i j : Nat} (h : Ready L D i) (hne : j ≠ i) (ha : ahead (bsets L []) j i = true) : D j = true := by
 have := h.closed'.ahead i (by simp [addD]) ha
 unfold addD at this
 rw [if_neg hne] at this
 exact this
theorem Ready.behind {L : List Oper} {D : Nat → Bool} {i j : Nat} (h : Ready L D i) (ha : ahead (bsets L []) i j = true) : D j = false := by
 cases hj : D j with
 | false => rfl
 | true =>
  have := h.closed.ahead j hj ha
  rw [h.notIn] at this
  exact absurd this (by simp)
theorem Drawn.slot (H : Drawn P X call nt ops ns t0 σ0) {D : Nat → Bool} {i : Nat} {o : Oper} (hi : ops.toList[i]? = some o) (hr : Ready ops.toList D i) {x : Nat} (hx : x < nt) (hlook : x ∈ o.looksAt ops) :
  (TD ops.toList ns t0 D ops.toList.length).gh x = (tseq ops.toList ns t0 i).gh x := by
 have hil : i < ops.toList.length := by
  rcases Nat.lt_or_ge i ops.toList.length with g | g
  ·exact g
  ·rw [List.getElem?_eq_none g] at hi; exact absurd hi (by simp)
 have h1 := TD_seq H.len (t := t0) (i := i) (k := ops.toList.length) (Nat.le_refl _)
 rw [Nat.min_eq_left (by omega)] at h1
 rw [← h1]
 refine TD_congr H.all fun j p hj hp hpd => ?_
 rcases Nat.lt_trichotomy j i with h | h | h
 ·have ha : ahead (bsets ops.toList []) j i = true := by
   rcases H.apart_or hp hi h with a | a
   ·exact a
   ·exact absurd hlook ((Oper.apart_spec a).1 x hpd)
  rw [hr.before (by omega) ha]
  simp [h]
 ·subst h
  rw [hr.notIn]
  simp
 ·have ha : ahead (bsets ops.toList []) i j = true := by
   rcases H.apart_or hi hp h with a | a
   ·exact a
   ·exact absurd hlook ((Oper.apart_spec a).2.2 x hpd)
  rw [hr.behind ha]
  have : ¬ j < i := by omega
  simp [this]
theorem operand_looks {o : Oper} {x : Nat} (h : Operand.tmp x ∈ o.op.operands) : x ∈ o.looksAt ops := by
 unfold Oper.looksAt
 refine List.mem_append.2 (.inl ?_)
 rw [List.mem_filterMap]
 exact ⟨.tmp x, by rw [Array.mem_toList_iff]; exact h, rfl⟩
theorem Drawn.evs (H : Drawn P X call nt ops ns t0 σ0) {D : Nat → Bool} {i : Nat} {o : Oper} (hi : ops.toList[i]? = some o) (hr : Ready ops.toList D i) {x : Operand} (hx : x ∈ o.op.operands) :
  ev (TD ops.toList ns t0 D ops.toList.length) x = ev (tseq ops.toList ns t0 i) x := by
 cases x with
 | tmp y =>
  have hok : okOp nt o = true := by
   have := H.all
   rw [List.all_eq_true] at this
   exact this o (List.mem_of_getElem? hi)
  simp only [okOp, Bool.and_eq_true, List.all_eq_true] at hok
  have hy : y < nt := blt_t (hok.1 (.tmp y) (by rw [Array.mem_toList_iff]; exact hx))
  simp only [ev]
  exact Tm.gh_get (H.slot hi hr hy (operand_looks hx))
 | const v => rfl
 | global g => rfl
 | func f => rfl
theorem Drawn.seen (H : Drawn P X call nt ops ns t0 σ0) {D : Nat → Bool} {i : Nat} {o : Oper} (hi : ops.toList[i]? = some o) (hr : Ready ops.toList D i) (h : o.op.operands.toList.all (seenO (tseq ops.toList ns t0 i)) = true) :
  o.op.operands.toList.all (seenO (TD ops.toList ns t0 D ops.toList.length)) = true := by
 rw [List.all_eq_true] at h ⊢
 intro x hx
 have h1 := h x hx
 have hx' : x ∈ o.op.operands := by rw [← Array.mem_toList_iff]; exact hx
 cases x with
 | tmp y =>
  have hok : okOp nt o = true := by
   have := H.all
   rw [List.all_eq_true] at this
   exact this o (List.mem_of_getElem? hi)
  simp only [okOp, Bool.and_eq_true, List.all_eq_true] at hok
  have hy : y < nt := blt_t (hok.1 (.tmp y) hx)
  simp only [seenO] at h1 ⊢
  rw [Tm.gh_has (H.slot hi hr hy (operand_looks hx'))]
  exact h1
 | const v => rfl
 | global g => rfl
 | func f => rfl
theorem Drawn.wanted (H : Drawn P X call nt ops ns t0 σ0) {D : Nat → Bool} {i : Nat} {o : Oper} (hi : ops.toList[i]? = some o) (hr : Ready ops.toList D i) :
  wantedA ops (TD ops.toList ns t0 D ops.toList.length) o = wantedA ops (tseq ops.toList ns t0 i) o := by
 unfold wantedA
 cases hg : o.guard with
 | none => rfl
 | some q =>
  obtain ⟨j, want⟩ := q
  simp only
  cases hd : (ops[j]?).bind (·.dst) with
  | none => rfl
  | some d =>
   have hdn : d < nt := by
    cases hj : ops[j]? with
    | none => rw [hj] at hd; simp at hd
    | some p =>
     rw [hj] at hd
     simp only [Option.bind_some] at hd
     have hokp : okOp nt p = true := by
      have := H.all
      rw [List.all_eq_true] at this
      exact this p (by rw [Array.mem_toList_iff]; exact Array.mem_of_getElem? hj)
     have := okOp_dst hokp
     rw [hd] at this
     exact blt_t this
   have hlook : d ∈ o.looksAt ops := by
    unfold Oper.looksAt
    refine List.mem_append.2 (.inr ?_)
    rw [hg]
    simp only [hd]
    simp
   simp only
   rw [Tm.gh_get (H.slot hi hr hdn hlook), Tm.gh_has (H.slot hi hr hdn hlook)]
theorem Drawn.eff_order (H : Drawn P X call nt ops ns t0 σ0) {e f : Nat} (he : isEff ns e) (hf : isEff ns f) (h : e < f) : ahead (bsets ops.toList []) e f = true := by
 obtain ⟨a, b, c, hne⟩ := he
 obtain ⟨a2, b2, c2, hnf⟩ := hf
 have hlf : f < ops.toList.length := by
  rw [← H.len]
  rcases Nat.lt_or_ge f ns.length with g | g
  ·exact g
  ·rw [List.getElem?_eq_none g] at hnf; exact absurd hnf (by simp)
 have h2 := H.effs e a b c hne f _ _ (List.getElem?_eq_getElem hlf) hnf
 rcases h2 with h2 | h2 | h2 | h2
 ·omega
 ·exact h2
 ·have := ahead_lt H.ok h2; omega
 ·simp at h2
theorem Drawn.state (H : Drawn P X call nt ops ns t0 σ0) {i : Nat} {a v c} (hn : ns[i]? = some (.eff a v c)) : a = sseq ns σ0 i ∧ sseq ns σ0 (i + 1) = c := by
 have hil : i < ops.toList.length := by
  rw [← H.len]
  rcases Nat.lt_or_ge i ns.length with g | g
  ·exact g
  ·rw [List.getElem?_eq_none g] at hn; exact absurd hn (by simp)
 obtain ⟨n, hn', hs⟩ := H.step i _ (List.getElem?_eq_getElem hil)
 rw [hn] at hn'
 cases hn'
 refine ⟨hs.1, ?_⟩
 rw [sseq_succ hn]
 rfl
theorem Drawn.sd_eff (H : Drawn P X call nt ops ns t0 σ0) {D : Nat → Bool} {i : Nat} (he : isEff ns i) (hr : Ready ops.toList D i) (hil : i < ops.toList.length) :
  SD ns σ0 D ops.toList.length = sseq ns σ0 i ∧ ∀ c, (∃ a v, ns[i]? = some (.eff a v c)) → SD ns σ0 (addD D i) ops.toList.length = c := by
 have before : ∀ j, j < i → isEff ns j → D j = true := fun j hj hje => hr.before (by omega) (H.eff_order hje he hj)
 have after : ∀ j, i < j → isEff ns j → D j = false := fun j hj hje => hr.behind (H.eff_order he hje hj)
 constructor
 ·rw [SD_upto (k := i) (by omega) fun j a _ c => by
   rcases Nat.eq_or_lt_of_le a with e | e
   ·rw [← e]; exact hr.notIn
   ·exact after j e c]
  exact SD_seq (by rw [H.len]; omega) before
 ·rintro c ⟨a, v, hn⟩
  rw [SD_upto (k := i + 1) (by omega) fun j a _ c => by
   unfold addD
   rw [if_neg (by omega)]
   exact after j (by omega) c]
  rw [SD_seq (by rw [H.len]; omega) fun j a c => by
   unfold addD
   split
   ·rfl
   ·exact before j (by omega) c]
  exact (H.state hn).2
theorem Drawn.sd_val (H : Drawn P X call nt ops ns t0 σ0) {D : Nat → Bool} {i : Nat} {o : Oper} {v : Value} (hi : ops.toList[i]? = some o) (hn : ns[i]? = some (.val v)) (hr : Ready ops.toList D i) :
  aopT P X (tseq ops.toList ns t0 i) o (SD ns σ0 D ops.toList.length) = some (.val v) := by
 have hil : i < ops.toList.length := by
  rcases Nat.lt_or_ge i ops.toList.length with g | g
  ·exact g
  ·rw [List.getElem?_eq_none g] at hi; exact absurd hi (by simp)
 obtain ⟨n', hn', hs⟩ := H.step i o hi
 rw [hn] at hn'
 cases hn'
 have h0 := hs.2
 have noti : ¬ isEff ns i := by rintro ⟨a, b, c, h⟩; rw [hn] at h; simp at h
 -- the check of the effect e against i
 have chk : ∀ e a b c, ns[e]? = some (.eff a b c) → ahead (bsets ops.toList []) e i = false → ahead (bsets ops.toList []) i e = false →
   againP P X (tseq ops.toList ns t0 i) o v (if e < i then sseq ns σ0 e else sseq ns σ0 (e + 1)) := by
  intro e a b c he h1 h2
  have g := H.effs e a b c he i o _ hi hn
  obtain ⟨s1, s2⟩ := H.state he
  rcases g with g | g | g | g
  ·subst g; rw [hn] at he; simp at he
  ·rw [h1] at g; simp at g
  ·rw [h2] at g; simp at g
  ·simp only at g
   rw [s1, ← s2] at g
   exact g
 -- is there an effect ahead of i that is not done?
 by_cases hA : ∃ e, e < i ∧ isEff ns e ∧ D e = false
 ·-- the least one
  have least : ∃ e, e < i ∧ isEff ns e ∧ D e = false ∧ ∀ f, f < e → isEff ns f → D f = true := by
   obtain ⟨e, h1, h2, h3⟩ := hA
   induction e using Nat.strongRecOn with
   | _ e ih =>
    by_cases hf : ∃ f, f < e ∧ isEff ns f ∧ D f = false
    ·obtain ⟨f, f1, f2, f3⟩ := hf
     exact ih f f1 (by omega) f2 f3
    ·refine ⟨e, h1, h2, h3, fun f g1 g2 => ?_⟩
     cases hfd : D f with
     | true => rfl
     | false => exact absurd ⟨f, g1, g2, hfd⟩ hf
  obtain ⟨e, e1, e2, e3, e4⟩ := least
  have after : ∀ j, e < j → isEff ns j → D j = false := by
   intro j hj hje
   cases hd : D j with
   | false => rfl
   | true =>
    have := hr.closed.ahead j hd (H.eff_order e2 hje hj)
    rw [e3] at this
    exact absurd this (by simp)
  have hsd : SD ns σ0 D ops.toList.length = sseq ns σ0 e := by
   rw [SD_upto (k := e) (by omega) fun j a _ c => by
    rcases Nat.eq_or_lt_of_le a with q | q
    ·rw [← q]; exact e3
    ·exact after j q c]
   exact SD_seq (by rw [H.len]; omega) e4
  rw [hsd]
  obtain ⟨a, b, c, he⟩ := e2
  have h1 : ahead (bsets ops.toList []) e i = false := by
   cases hh : ahead (bsets ops.toList []) e i with
   | false => rfl
   | true => have := hr.before (by omega) hh; rw [e3] at this; exact absurd this (by simp)
  have h2 : ahead (bsets ops.toList []) i e = false := by
   cases hh : ahead (bsets ops.toList []) i e with
   | false => rfl
   | true => have := ahead_lt H.ok hh; omega
  have := chk e a b c he h1 h2
  rw [if_pos e1] at this
  exact again_eq this h0
 ·have before : ∀ j, j < i → isEff ns j → D j = true := by
   intro j hj hje
   cases hd : D j with
   | true => rfl
   | false => exact absurd ⟨j, hj, hje, hd⟩ hA
  by_cases hB : ∃ e, i < e ∧ e < ops.toList.length ∧ isEff ns e ∧ D e = true
  ·-- the last one
   have last : ∃ e, i < e ∧ e < ops.toList.length ∧ isEff ns e ∧ D e = true ∧ ∀ f, e < f → f < ops.toList.length → isEff ns f → D f = false := by
    obtain ⟨e, h1, h2, h3, h4⟩ := hB
    obtain ⟨m, hm⟩ : ∃ m, m = ops.toList.length - e := ⟨_, rfl⟩
    induction m using Nat.strongRecOn generalizing e with
    | _ m ih =>
     by_cases hf : ∃ f, e < f ∧ f < ops.toList.length ∧ isEff ns f ∧ D f = true
     ·obtain ⟨f, f1, f2, f3, f4⟩ := hf
      exact ih (ops.toList.length - f) (by omega) f (by omega) f2 f3 f4 rfl
     ·refine ⟨e, h1, h2, h3, h4, fun f g1 g2 g3 => ?_⟩
      cases hfd : D f with
      | false => rfl
      | true => exact absurd ⟨f, g1, g2, g3, hfd⟩ hf
   obtain ⟨e, e1, e2, e3, e4, e5⟩ := last
   have upto : ∀ j, j < e + 1 → isEff ns j → D j = true := by
    intro j hj hje
    rcases Nat.eq_or_lt_of_le (Nat.le_of_lt_succ hj) with q | q
    ·rw [q]; exact e4
    ·exact hr.closed.ahead e e4 (H.eff_order hje e3 q)
   have hsd : SD ns σ0 D ops.toList.length = sseq ns σ0 (e + 1) := by
    rw [SD_upto (k := e + 1) (by omega) fun j a b c => e5 j (by omega) b c]
    exact SD_seq (by rw [H.len]; omega) upto
   rw [hsd]
   obtain ⟨a, b, c, he⟩ := e3
   have h1 : ahead (bsets ops.toList []) e i = false := by
    cases hh : ahead (bsets ops.toList []) e i with
    | false => rfl
    | true => have := ahead_lt H.ok hh; omega
   have h2 : ahead (bsets ops.toList []) i e = false := by
    cases hh : ahead (bsets ops.toList []) i e with
    | false => rfl
    | true => have := hr.behind hh; rw [e4] at this; exact absurd this (by simp)
   have := chk e a b c he h1 h2
   rw [if_neg (by omega)] at this
   exact again_eq this h0
  ·have hsd : SD ns σ0 D ops.toList.length = sseq ns σ0 i := by
    rw [SD_upto (k := i) (by omega) fun j a b c => by
     rcases Nat.eq_or_lt_of_le a with q | q
     ·rw [← q]; exact hr.notIn
     ·cases hd : D j with
      | false => rfl
      | true => exact absurd ⟨j, q, b, c, hd⟩ hB]
    exact SD_seq (by rw [H.len]; omega) before
   rw [hsd]
   exact h0
theorem Drawn.hlast (H : Drawn P X call nt ops ns t0 σ0) {D : Nat → Bool} {i : Nat} {o : Oper} (hi : ops.toList[i]? = some o) (hr : Ready ops.toList D i) :
  ∀ j p d, i < j → ops.toList[j]? = some p → o.dst = some d → p.dst = some d → D j = false := by
 intro j p d hj hp hd hpd
 rcases H.apart_or hi hp hj with a | a
 ·exact hr.behind a
 ·exact absurd hpd ((Oper.apart_spec a).2.1 d hd)
structure Inv (w0 : World) (S : Own) (nt : Nat) (ops : Array Oper) (ns : List Ent) (t0 : Tm) (σ0 : AW) (s : St) (ρ : Rho) (D : Nat → Bool) (a : Act) (w : World) : Prop where
 closed : Closed ops.toList D
 rel : ∃ ρ', ρ.le ρ' ∧ R w0 S (SD ns σ0 D ops.toList.length) ρ' w ∧ TRel ρ' nt (TD ops.toList ns t0 D ops.toList.length) a.tmps ∧ DsRel ρ' s.defers a.defers
theorem Drawn.one (H : Drawn P X call nt ops ns t0 σ0) (hc : CallsOkR P w0 S call) (hX : FactsOk P X S) {s : St} {ρ : Rho} {D : Nat → Bool} {a : Act} {w : World} (hI : Inv w0 S nt ops ns t0 σ0 s ρ D a w) {i : Nat} (hil : i < ops.toList.length)
  (hr : Ready ops.toList D i) {K : Act → World → Prop} {Q : Exit → Act → World → Prop} (hK : ∀ a w, Inv w0 S nt ops ns t0 σ0 s ρ (addD D i) a w → K a w) : wpOp P ops Q i K a w := by
 have hi : ops.toList[i]? = some ops.toList[i] := List.getElem?_eq_getElem hil
 generalize ops.toList[i] = o at hi
 have hi' : ops[i]? = some o := by rw [← Array.getElem?_toList]; exact hi
 obtain ⟨n, hn, hs⟩ := H.step i o hi
 obtain ⟨_, ρ', hle, hR, hT, hD⟩ := hI
 have hok : okOp nt o = true := by
  have := H.all
  rw [List.all_eq_true] at this
  exact this o (List.mem_of_getElem? hi)
 have hdst := okOp_dst hok
 have hwant : ∀ b, wantedA ops (tseq ops.toList ns t0 i) o = some b → Region.wanted o (yielded ops a.tmps) = b := fun b hb => wanted_eq hT H.all ((H.wanted hi hr).trans hb)
 have hev : o.op.operands.toList.all (seenO (tseq ops.toList ns t0 i)) = true → ∀ x ∈ o.op.operands, VRel ρ' (ev (tseq ops.toList ns t0 i) x) (a.eval x) := by
  intro hseen x hx
  rw [← H.evs hi hr hx]
  exact ev_rels hT hok (H.seen hi hr hseen) x hx
 -- the slots behind it
 have slots : ∀ {ρ2 : Rho} {v' : Value}, ρ'.le ρ2 → VRel ρ2 n.value v' → TRel ρ2 nt (TD ops.toList ns t0 (addD D i) ops.toList.length) (a.put o.dst v').tmps := by
  intro ρ2 v' hle2 hv
  have h1 := put_rel (hT.mono hle2) hdst hv
  refine ⟨h1.size, fun x hx hh => ?_⟩
  have hg := TD_add (t := t0) (D := D) (x := x) H.all hi hn (H.hlast hi hr) hil
  rw [Tm.gh_get hg]
  rw [Tm.gh_has hg] at hh
  exact h1.at_ x hx hh
 have mk : ∀ {ρ2 : Rho} {v' : Value} {w' : World}, ρ'.le ρ2 → VRel ρ2 n.value v' → R w0 S (SD ns σ0 (addD D i) ops.toList.length) ρ2 w' → K (a.put o.dst v') w' := by
  intro ρ2 v' w' hle2 hv hR2
  exact hK _ _ ⟨hr.closed', ρ2, Rho.le_trans hle hle2, hR2, slots hle2 hv, by rw [put_defers]; exact hD.mono hle2⟩
 unfold wpOp
 rw [hi']
 simp only
 cases n with
 | skip =>
  rw [hwant false hs]
  simp only [Bool.false_eq_true, if_false]
  refine mk ρ'.le_refl (undef_rel _) ?_
  rw [SD_congr (D' := D) fun j hj he => by
   unfold addD
   split
   ·rename_i e; subst e; obtain ⟨x, y, z, h⟩ := he; rw [hn] at h; simp at h
   ·rfl]
  exact hR
 | val v =>
  obtain ⟨hw1, hop1⟩ := hs
  rw [hwant true hw1]
  simp only [if_true]
  refine .inl ?_
  unfold Oper.wp
  have hsd := H.sd_val hi hn hr
  have hout := aop_sound hR hX (aopT_eq hsd).2 (e' := a.eval) (hev (aopT_eq hop1).1)
  generalize (execOp a.eval o).run P w = res at hout
  cases hout with
  | val hle2 hv hR2 =>
   refine mk hle2 hv ?_
   rw [SD_congr (D' := D) fun j hj he => by
    unfold addD
    split
    ·rename_i e; subst e; obtain ⟨x, y, z, h⟩ := he; rw [hn] at h; simp at h
    ·rfl]
   exact hR2
 | eff σ1 v σ2 =>
  obtain ⟨rfl, hw1, hop⟩ := hs
  rw [hwant true hw1]
  simp only [if_true]
  refine .inl ?_
  unfold Oper.wp
  obtain ⟨hsd1, hsd2⟩ := H.sd_eff ⟨_, _, _, hn⟩ hr hil
  have hsd2 := hsd2 σ2 ⟨_, _, hn⟩
  rw [hsd1] at hR
  rcases hop with hop | ⟨f, args, hop, hcall⟩
  ·have hout := aop_sound hR hX (aopT_eq hop).2 (e' := a.eval) (hev (aopT_eq hop).1)
   generalize (execOp a.eval o).run P w = res at hout
   cases hout with
   | eff hle2 hv hR2 => exact mk hle2 hv (by rw [hsd2]; exact hR2)
   | skip hle2 hR2 => exact mk hle2 (undef_rel _) (by rw [hsd2]; exact hR2)
  ·have hout := aop_sound hR hX (aopT_eq hop).2 (e' := a.eval) (hev (aopT_eq hop).1)
   generalize (execOp a.eval o).run P w = res at hout
   cases hout with
   | call ha hR2 =>
    refine Calls.mono (hc _ _ _ _ _ hcall _ _ _ ha hR2) ?_
    rintro e w' ⟨ρ2, hle2, he, hR3⟩
    cases e with
    | returned v' => exact mk hle2 he (by rw [hsd2]; exact hR3)
    | panicked ch => exact he.elim
    | outgrown => exact he.elim
def ofArr (listed : Array Bool) : Nat → Bool := fun i => listed.getD i false
theorem mem_ready {listed : Array Bool} (hsz : listed.size = ops.size) {i : Nat} (h : i ∈ Region.ready .any ops listed) : i < ops.toList.length ∧ ofArr listed i = false ∧
  ∀ o, ops.toList[i]? = some o → ∀ e ∈ o.after.toList, binds e = true → ofArr listed e.on = true := by
 unfold Region.ready at h
 rw [List.mem_filter, List.mem_range] at h
 obtain ⟨hi, h⟩ := h
 simp only [Bool.and_eq_true, Bool.not_eq_true'] at h
 have hil : i < listed.size := by omega
 refine ⟨by simpa using hi, ?_, fun o ho e he hb => ?_⟩
 ·have := h.1
  rw [Array.getD_eq_getD_getElem?, Array.getElem?_eq_getElem hil] at this
  unfold ofArr
  rw [Array.getD_eq_getD_getElem?, Array.getElem?_eq_getElem hil]
  exact this
 ·rw [Array.getElem?_toList] at ho
  have h2 := h.2
  rw [ho] at h2
  simp only [Option.map_some, Option.getD_some, Array.all_eq_true] at h2
  obtain ⟨k, hk, rfl⟩ := List.getElem_of_mem he
  have := h2 k (by simpa using hk)
  simp only [Array.getElem_toList] at hb ⊢
  unfold binds at hb
  rw [hb] at this
  simpa [ofArr] using this
theorem none_ready (hok : okRegion ops (bsets ops.toList []) ops.toList 0 = true) {listed : Array Bool} (hsz : listed.size = ops.size) (h : Region.ready .any ops listed = []) : ∀ i, i < ops.toList.length → ofArr listed i = true := by
 intro i
 induction i using Nat.strongRecOn with
 | _ i ih =>
  intro hil
  cases hd : ofArr listed i with
  | true => rfl
  | false =>
   exfalso
   have his : i < ops.size := by simpa using hil
   have : i ∈ Region.ready .any ops listed := by
    unfold Region.ready
    rw [List.mem_filter, List.mem_range]
    refine ⟨his, ?_⟩
    simp only [Bool.and_eq_true, Bool.not_eq_true']
    constructor
    ·unfold ofArr at hd
     rw [Array.getD_eq_getD_getElem?, Array.getElem?_eq_getElem (by omega)] at hd ⊢
     exact hd
    ·rw [Array.getElem?_eq_getElem his]
     simp only [Option.map_some, Option.getD_some, Array.all_eq_true]
     intro k hk
     cases hb : Region.binds .any (ops[i].after[k]) with
     | false => rfl
     | true =>
      have hed := (okRegion_at hok i _ (List.getElem?_eq_getElem hil)).1
      simp only [okEdges, List.all_eq_true] at hed
      have hm : ops[i].after[k] ∈ (ops.toList[i]).after.toList := by
       rw [Array.mem_toList_iff]
       simp
      have h1 := hed _ hm
      have hb' : binds (ops[i].after[k]) = true := hb
      rw [hb'] at h1
      have hlt : (ops[i].after[k]).on < 0 + i := blt_t (by simpa using h1)
      have h2 := ih (ops[i].after[k]).on (by omega) (by omega)
      simpa [ofArr] using h2
   rw [h] at this
   simp at this
def undone (listed : Array Bool) : Nat := (listed.toList.filter (!·)).length
theorem undone_set {listed : Array Bool} {i : Nat} (hi : i < listed.size) (h : ofArr listed i = false) : undone (listed.setIfInBounds i true) + 1 = undone listed := by
 unfold undone ofArr at *
 rw [Array.toList_setIfInBounds]
 have hl : i < listed.toList.length := by simpa using hi
 have hv : listed.toList[i] = false := by
  rw [Array.getD_eq_getD_getElem?, Array.getElem?_eq_getElem hi] at h
  simpa using h
 generalize listed.toList = l at hl hv
 clear h hi
 induction l generalizing i with
 | nil => simp at hl
 | cons x l ih =>
  cases i with
  | zero =>
   simp at hv
   subst hv
   simp
  | succ i =>
   have := ih (i := i) (by simpa using hl) (by simpa using hv)
   simp only [List.set_cons_succ, List.filter_cons]
   split
   ·simp only [List.length_cons]; omega
   ·exact this
theorem ofArr_set {listed : Array Bool} {i : Nat} (hi : i < listed.size) : ofArr (listed.setIfInBounds i true) = addD (ofArr listed) i := by
 funext j
 unfold ofArr addD
 rw [Array.getD_eq_getD_getElem?, Array.getElem?_setIfInBounds]
 by_cases e : i = j
 ·subst e
  simp [hi]
 ·rw [if_neg e, if_neg (Ne.symm e)]
  exact (Array.getD_eq_getD_getElem? ..).symm
theorem Drawn.any (H : Drawn P X call nt ops ns t0 σ0) (hc : CallsOkR P w0 S call) (hX : FactsOk P X S) {s : St} {ρ : Rho} {Q : Exit → Act → World → Prop}
  (hQ : ∀ D a w, Inv w0 S nt ops ns t0 σ0 s ρ D a w → (∀ i, i < ops.toList.length → D i = true) → Q .normal a w) :
  ∀ (fuel : Nat) (listed : Array Bool) (a : Act) (w : World), listed.size = ops.size → undone listed = fuel → Inv w0 S nt ops ns t0 σ0 s ρ (ofArr listed) a w → wpAny P .any ops Q fuel listed a w := by
 intro fuel
 induction fuel with
 | zero =>
  intro listed a w hsz hu hI
  have all : ∀ i, i < ops.toList.length → ofArr listed i = true := by
   intro i hi
   cases hd : ofArr listed i with
   | true => rfl
   | false =>
    have := undone_set (listed := listed) (i := i) (by rw [hsz]; simpa using hi) hd
    omega
  refine ⟨?_, hQ _ _ _ hI all⟩
  cases hr : Region.ready .any ops listed with
  | nil => rfl
  | cons i l =>
   obtain ⟨h1, h2, _⟩ := mem_ready hsz (i := i) (by rw [hr]; simp)
   rw [all i h1] at h2
   simp at h2
 | succ fuel ih =>
  intro listed a w hsz hu hI
  refine ⟨fun h => hQ _ _ _ hI (none_ready H.ok hsz h), fun i hi => ?_⟩
  obtain ⟨h1, h2, h3⟩ := mem_ready hsz hi
  have hil : i < listed.size := by rw [hsz]; simpa using h1
  refine H.one hc hX hI h1 ⟨hI.closed, h2, h3⟩ fun a' w' hI' => ?_
  refine ih (listed.setIfInBounds i true) a' w' (by simpa using hsz) (by have := undone_set hil h2; omega) ?_
  rw [ofArr_set hil]
  exact hI'
theorem effs_of {ns : List Ent} {t0 : Tm} (h : okEffs P X (bsets ops.toList []) ops.toList ns t0 ns 0 = true) : ∀ e a b c, ns[e]? = some (.eff a b c) → ∀ i o n, ops.toList[i]? = some o → ns[i]? = some n → e = i ∨ ahead (bsets ops.toList []) e i = true ∨ ahead (bsets ops.toList []) i e = true ∨
  (match n with | .val v => againP P X (tseq ops.toList ns t0 i) o v (if e < i then a else c) | .skip => True | .eff _ _ _ => False) := by
 intro e a b c he i o n hi hn
 have g := okEff_at (okEffs_at h e a b c he) i o n hi hn
 simp only [Nat.zero_add] at g
 rcases g with g | g | g | g
 ·exact .inl g
 ·exact .inr (.inl g)
 ·exact .inr (.inr (.inl g))
 ·refine .inr (.inr (.inr ?_))
  cases n with
  | skip => trivial
  | eff a b c => simp at g
  | val v =>
   simp only at g ⊢
   split
   ·rename_i hlt
    have : Nat.blt e i = true := Nat.ble_eq_true_of_le hlt
    rw [this] at g
    exact again_of g
   ·rename_i hlt
    have : Nat.blt e i = false := by
     cases hb : Nat.blt e i with
     | false => rfl
     | true => exact absurd (blt_t hb) hlt
    rw [this] at g
    exact again_of g
theorem drawn_sound {fcall : FuncId → Array Value → AW → Res (AEnd × AW)} (hc0 : CallsOk P w0 S fcall) (hX : FactsOk P X S) {d : Bool} {cs0 : List Frame} {id : Nat} (hops : ops.toList.all (okOp nt) = true) {s s' : St} {x : AExit} (h : drawn P X fcall ops s = .ok (x, s')) {ρ : Rho} {a : Act} {cs : List Frame} {w : World}
  (hs : SRel w0 S d nt cs0 ρ s a cs w) : W P d (.region id ops true) (Post w0 S d nt cs0 ρ x s') a cs w := by
 unfold drawn at h
 split at h
 ·rename_i hb
  simp only [Bool.and_eq_true] at hb
  split at h
  ·rename_i ns t σ hrun
   split at h
   ·rename_i hch
    simp only [Res.ok.injEq, Prod.mk.injEq] at h
    obtain ⟨rfl, rfl⟩ := h
    obtain ⟨h1, h2, h3, h4⟩ := runDraw_spec hrun
    have H : Drawn P X (relOf fcall) nt ops ns s.tmps s.σ := ⟨hb.1, hops, h1, h4, effs_of hch⟩
    have hc : CallsOkR P w0 S (relOf fcall) := hc0
    refine W.of_wp (wp_region_any hb.2 ?_)
    refine H.any hc hX (s := s) (ρ := ρ) ?_ _ _ _ _ (by simp) (by
      unfold undone
      rw [Array.toList_replicate, List.filter_replicate]
      simp) ?_
    ·intro D a' w' hI hall
     obtain ⟨_, ρ', hle, hR, hT, hD⟩ := hI
     have e1 : SD ns s.σ D ops.toList.length = σ := by
      rw [← h3]
      exact SD_seq (by omega) fun j hj _ => hall j hj
     have e2 : ∀ i, i < nt → (TD ops.toList ns s.tmps D ops.toList.length).gh i = t.gh i := by
      intro i hi
      have g := TD_seq h1 (t := s.tmps) (i := ops.toList.length) (k := ops.toList.length) (Nat.le_refl _)
      rw [Nat.min_self, h2] at g
      rw [← g]
      refine TD_congr hops fun j o hj _ _ => ?_
      rw [hall j hj]
      exact (decide_eq_true hj).symm
     rw [e1] at hR
     refine ⟨ρ', hle, trivial, ⟨hT.size, fun i hi hh => ?_⟩, hD, hs.cs.mono hle, hR⟩
     rw [← Tm.gh_has (e2 i hi)] at hh
     have := hT.at_ i hi hh
     rw [Tm.gh_get (e2 i hi)] at this
     exact this
    ·have hempty : ofArr (Array.replicate ops.size false) = fun _ => false := by
      funext j
      unfold ofArr
      rw [Array.getD_eq_getD_getElem?, Array.getElem?_replicate]
      split <;> rfl
     rw [hempty]
     have e1 : SD ns s.σ (fun _ => false) ops.toList.length = s.σ := SD_upto (k := 0) (by omega) fun j _ _ _ => rfl
     have e2 : ∀ k, TD ops.toList ns s.tmps (fun _ => false) k = s.tmps := by
      intro k
      induction k with
      | zero => rfl
      | succ k ih => simp only [TD]; exact ih
     refine ⟨fun j o hj => by simp at hj, ρ, ρ.le_refl, ?_, ?_, hs.ds⟩
     ·rw [e1]; exact hs.r.drew
     ·rw [e2]; exact hs.t
   ·exact absurd h (by simp)
  ·exact absurd h (by simp)
 ·exact absurd h (by simp)
end
end Vx
end Go
set_option linter.unusedVariables false
set_option linter.unusedSimpArgs false
namespace Go
namespace Vx
section
variable {P : Program} {w0 : World} {S : Own}
theorem fill_get : ∀ (l : List Value) (i j : Nat), (Tm.fill l i).get j = if i ≤ j ∧ j < i + l.length then l.getD (j - i) undef else undef
 | [], i, j => by
  rw [if_neg (by simp)]
  rfl
 | v :: l, i, j => by
  simp only [Tm.fill]
  by_cases h2 : j = i
  ·subst h2
   rw [Tm.put_same, if_pos (by simp)]
   simp
  ·rw [Tm.put_other _ _ (Ne.symm h2), fill_get l (i + 1) j]
   by_cases h1 : i + 1 ≤ j ∧ j < i + 1 + l.length
   ·rw [if_pos h1, if_pos (by simp; omega), show j - i = (j - (i + 1)) + 1 by omega]
    simp
   ·rw [if_neg h1, if_neg (by simp; omega)]
theorem start_rel {ρ : Rho} {nt : Nat} {args args' : Array Value} (ha : ARel ρ args args') (hsz : args.size ≤ nt) :
  TRel ρ nt (Tm.fill args.toList 0) (args' ++ Array.replicate (nt - args'.size) undef) := by
 have hs := ha.1
 refine ⟨by simp; omega, fun i hi _ => ?_⟩
 rw [fill_get, Array.getD_eq_getD_getElem?]
 by_cases h : i < args.size
 ·rw [if_pos (by simp; exact h)]
  rw [Array.getElem?_append_left (by omega), Array.getElem?_eq_getElem (by omega)]
  rw [List.getD_eq_getElem?_getD]
  simp only [Nat.sub_zero, Array.getElem?_toList, Array.getElem?_eq_getElem h, Option.getD_some]
  exact ha.2 i _ _ (Array.getElem?_eq_getElem h) (Array.getElem?_eq_getElem (by omega))
 ·rw [if_neg (by simp; omega)]
  rw [Array.getElem?_append_right (by omega), Array.getElem?_replicate]
  split <;> exact undef_rel ρ
def resFn (tmps : Array Value) : ResultVar → Sem Value
 | .tmp t => pure (tmps.getD t undef)
 | .cell a t => do loadVar t (← asAddr (tmps.getD a undef))
theorem results_eq (fn : Func) (tmps : Array Value) : results fn tmps = (do let vs ← fn.results.mapM (resFn tmps); pure (if h : vs.size = 1 then vs[0] else .tuple vs)) := by
 unfold results
 congr 1
theorem results_list {ρ : Rho} {nt : Nat} {t : Tm} {σ : AW} {w : World} {tmps : Array Value} (hT : TRel ρ nt t tmps) (hR : R w0 S σ ρ w) : ∀ {l : List ResultVar} {vs : List Value}, resultsA P nt t σ l = some vs →
  ∃ vs', (l.mapM (m := Sem) (resFn tmps)).run P w = .ok vs' w ∧ LRel ρ vs vs'
 | [], vs, h => by
  simp only [resultsA, Option.some.injEq] at h
  subst h
  exact ⟨[], by simp, .nil⟩
 | .tmp d :: l, vs, h => by
  unfold resultsA at h
  split at h
  ·rename_i vs1 hd hl
   cases h
   obtain ⟨vs', h1, h2⟩ := results_list hT hR hl
   simp only [Bool.and_eq_true] at hd
   refine ⟨tmps.getD d undef :: vs', ?_, .cons (hT.at_ d (blt_t hd.1) hd.2) h2⟩
   simp only [List.mapM_cons, resFn, Sem.run_bind, Sem.run_pure, Result.andThen_ok, h1]
  ·exact absurd h (by simp)
 | .cell a ty :: l, vs, h => by
  unfold resultsA at h
  split at h
  ·rename_i v vs1 hd hv hl
   cases h
   obtain ⟨vs', h1, h2⟩ := results_list hT hR hl
   simp only [Bool.and_eq_true] at hd
   have hrel := hT.at_ a (blt_t hd.1) hd.2
   obtain ⟨v', hrun, hvr⟩ := ok_load (P := P) hR hv hrel
   refine ⟨v' :: vs', ?_, .cons hvr h2⟩
   have : (do loadVar ty (← asAddr (tmps.getD a undef)) : Sem Value).run P w = .ok v' w := by
    rw [← hrun]
    generalize tmps.getD a undef = q at hrel
    have hp : ∃ b, q = .pointer (some b) := by
     unfold loadA at hv
     split at hv
     ·rename_i he
      simp only [ev] at he
      rw [he] at hrel
      cases hrel with
      | pure _ hpp => exact absurd hpp (by simp [isP])
      | ptr => exact ⟨_, rfl⟩
     ·rename_i he
      simp only [ev] at he
      rw [he] at hrel
      obtain ⟨a, g, e, _⟩ := hrel.fpt_inv
      exact ⟨_, e⟩
     ·exact absurd hv (by simp)
    obtain ⟨b, rfl⟩ := hp
    simp [asAddr, Instr.loadAt, Instr.sureAddr]
   simp only [List.mapM_cons, resFn, Sem.run_bind, Sem.run_pure] at this ⊢
   rw [this]
   simp only [Result.andThen_ok, h1]
  ·exact absurd h (by simp)
theorem results_sound {ρ : Rho} {fn : Func} {t : Tm} {σ : AW} {w : World} {tmps : Array Value} (hT : TRel ρ fn.ntmps t tmps) (hR : R w0 S σ ρ w) {vs : List Value} (h : resultsA P fn.ntmps t σ fn.results.toList = some vs) :
  ∃ v', (results fn tmps).run P w = .ok v' w ∧ VRel ρ (oneOf vs) v' := by
 obtain ⟨vs', h1, h2⟩ := results_list (P := P) hT hR h
 refine ⟨if h : vs'.toArray.size = 1 then vs'.toArray[0] else .tuple vs'.toArray, ?_, ?_⟩
 ·rw [results_eq, Array.mapM_eq_mapM_toList]
  simp only [Sem.run_bind, Sem.run_map, h1, Result.andThen_ok, Sem.run_pure]
 ·have hlen := h2.1
  match vs, vs', h2 with
  | [], [], _ => exact plain_rel ρ rfl
  | [v], [v'], h2 =>
   have := h2.2 0 v v' rfl rfl
   simpa [oneOf] using this
  | v :: u :: l, v' :: u' :: l', h2 =>
   have := h2.toA
   simp only [oneOf]
   rw [dif_neg (by simp)]
   exact .tuple this.1 this.2
theorem ChRel.of_cons {ρ : Rho} {x : PanicEntry} {l m : List PanicEntry} (h : ChRel ρ (x :: l) m) : ∃ y m', m = y :: m' ∧ VRel ρ x.v y.v ∧ x.recovered = y.recovered ∧ x.goexit = y.goexit ∧ ChRel ρ l m' := by
 cases m with
 | nil => have := h.1; simp at this
 | cons y m' =>
  obtain ⟨a, b, c⟩ := h.2 0 x y rfl rfl
  exact ⟨y, m', rfl, a, b, c, by have := h.1; simpa using this, fun i u v p q => h.2 (i + 1) u v (by simpa using p) (by simpa using q)⟩
theorem drop_rel {ρ : Rho} : ∀ {l m : List PanicEntry}, ChRel ρ l m → ChRel ρ (l.dropWhile (!·.goexit)) (m.dropWhile (!·.goexit))
 | [], m, h => by
  have : m = [] := List.eq_nil_of_length_eq_zero h.1.symm
  subst this
  exact h
 | x :: l, m, h => by
  obtain ⟨y, m', rfl, a, b, c, d⟩ := h.of_cons
  simp only [List.dropWhile_cons, c]
  split
  ·exact drop_rel d
  ·exact h
theorem settle_rel {ρ : Rho} {u u' : FrameMode} (h : MoRel ρ u u') : MoRel ρ (settle u) (settle u') := by
 cases u with
 | run => cases u' <;> first | exact h | exact h.elim
 | returning => cases u' <;> first | exact h | exact h.elim
 | panicking l =>
  cases u' with
  | run => exact h.elim
  | returning => exact h.elim
  | panicking m =>
   cases l with
   | nil =>
    have : m = [] := List.eq_nil_of_length_eq_zero h.1.symm
    subst this
    exact h
   | cons x l =>
    obtain ⟨y, m', rfl, a, b, c, d⟩ := ChRel.of_cons h
    obtain ⟨xv, xr, xg⟩ := x
    obtain ⟨yv, yr, yg⟩ := y
    simp only at b c
    subst b; subst c
    cases xr with
    | false => exact h
    | true =>
     have hd := drop_rel d
     simp only [settle]
     cases hl : l.dropWhile (!·.goexit) with
     | nil =>
      rw [hl] at hd
      have : m'.dropWhile (!·.goexit) = [] := List.eq_nil_of_length_eq_zero hd.1.symm
      rw [this]
      trivial
     | cons z zs =>
      rw [hl] at hd
      obtain ⟨y2, m2, e, _⟩ := ChRel.of_cons hd
      rw [e] at hd ⊢
      exact hd
def ExtOk (P : Program) (w0 : World) (S : Own) (Y : Ext) : Prop :=
 ∀ f args σ e σ', Y f args σ = some (e, σ') → ∀ ρ w args', ARel ρ args args' → R w0 S σ ρ w →
  Calls P f args' w fun e' w' => ∃ ρ', ρ.le ρ' ∧ ERel ρ' e e' ∧ R w0 S σ' ρ' w'
theorem ExtOk.none (P : Program) (w0 : World) (S : Own) : ExtOk P w0 S Ext.none := fun _ _ _ _ _ h => by simp [Ext.none] at h
def BodyOk (P : Program) (w0 : World) (S : Own) (d : Bool) (exec : Nat → Code → St → Res (AExit × St)) : Prop :=
 ∀ nt c s x s', exec nt c s = .ok (x, s') → ∀ ρ a cs0 cs w, SRel w0 S d nt cs0 ρ s a cs w → W P d c (Post w0 S d nt cs0 ρ x s') a cs w
theorem leaves_mono {fn : Func} {tmps : Array Value} {Q Q' : Ending → World → Prop} (hq : ∀ e w, Q e w → Q' e w) : ∀ {ds : List Deferred} {u : FrameMode} {w : World}, Leaves P fn tmps Q ds u w → Leaves P fn tmps Q' ds u w
 | [], .returning, w, ⟨v, a, b⟩ => ⟨v, a, hq _ _ b⟩
 | [], .panicking _, w, h => hq _ _ h
 | [], .run, _, h => h
 | d :: ds, u, w, ⟨h1, fv, cap, f, args, h2, h3, h4⟩ => ⟨h1, fv, cap, f, args, h2, h3, CallsD.mono h4 fun e u' w' h => by
   cases e with
   | returned v => exact leaves_mono hq h
   | panicked ch => exact leaves_mono hq h
   | outgrown => exact hq _ _ h⟩
theorem leaves_sound {execD : Nat → Code → St → Res (AExit × St)} (hD : BodyOk P w0 S true execD) {fn : Func} {t : Tm} {tmps : Array Value} : ∀ (ds : List Deferred) (u : FrameMode) (σ : AW) (e : AEnd) (σ' : AW),
  leaves P execD fn t ds u σ = .ok (e, σ') → ∀ (ρ : Rho) (ds' : List Deferred) (u' : FrameMode) (w : World), TRel ρ fn.ntmps t tmps → DsRel ρ ds ds' → MoRel ρ u u' → R w0 S σ ρ w →
   Leaves P fn tmps (fun e' w' => ∃ ρ', ρ.le ρ' ∧ ERel ρ' e e' ∧ R w0 S σ' ρ' w') ds' u' w := by
 intro ds
 induction ds with
 | nil =>
  intro u σ e σ' h ρ ds' u' w hT hds hu hR
  cases ds' with
  | cons => exact hds.elim
  | nil =>
  cases u with
  | run => simp [leaves] at h
  | returning =>
   cases u' with
   | run => exact hu.elim
   | panicking => exact hu.elim
   | returning =>
    simp only [leaves] at h
    split at h
    ·rename_i vs hvs
     simp only [Res.ok.injEq, Prod.mk.injEq] at h
     obtain ⟨rfl, rfl⟩ := h
     obtain ⟨v', h1, h2⟩ := results_sound hT hR hvs
     exact ⟨v', h1, ρ, ρ.le_refl, h2, hR⟩
    ·exact absurd h (by simp)
  | panicking ch =>
   cases u' with
   | run => exact hu.elim
   | returning => exact hu.elim
   | panicking ch' =>
    simp only [leaves, Res.ok.injEq, Prod.mk.injEq] at h
    obtain ⟨rfl, rfl⟩ := h
    exact ⟨ρ, ρ.le_refl, hu, hR⟩
 | cons d ds ih =>
  intro u σ e σ' h ρ ds' u' w hT hds hu hR
  cases ds' with
  | nil => exact hds.elim
  | cons d' ds' =>
  obtain ⟨⟨f, c, c', x, x', rfl, rfl, hcc, hxx⟩, hds⟩ := hds
  unfold leaves at h
  simp only at h
  split at h
  ·rename_i f1 captured hu1 htg
   cases htg
   split at h
   ·rename_i fd hfd
    have hargs : ARel ρ (x ++ c) (x' ++ c') := ARel.append hxx hcc
    have hrun : u' ≠ .run := by
     intro e
     subst e
     cases u with
     | run => simp [isRun] at hu1
     | returning => exact hu.elim
     | panicking => exact hu.elim
    -- the deferred call's end
    have fin : ∀ (xx : AExit) (s : St), (xx = .normal ∨ xx = .ret) → body P execD fd (x ++ c) u σ = .ok (xx, s) → s.defers = [] → (∃ vs, resultsA P fd.ntmps s.tmps s.σ fd.results.toList = some vs) → (fd.name == "runtime.NumGoroutine") = false →
      leaves P execD fn t ds (settle s.mode) s.σ = .ok (e, σ') →
      Leaves P fn tmps (fun e' w' => ∃ ρ', ρ.le ρ' ∧ ERel ρ' e e' ∧ R w0 S σ' ρ' w') ({ target := .fn (.func f) c', args := x' } :: ds') u' w := by
     intro xx s hxx2 hb hsd hvs hname hl
     unfold body at hb
     split at hb
     ·rename_i code hcode hsz
      have hasz := ble_t hsz
      have hname' : ¬ fd.name = "runtime.NumGoroutine" := by simpa using hname
      refine leaves_cons (f := f) (args := x' ++ c') hrun (by simp [invoke, callFunc, hfd, hname', hcode]) ?_
      refine callsD_of_wpS hfd hcode ?_
      intro c₀ cs hc0
      have hin : SRel w0 S true fd.ntmps (c₀ :: cs) ρ { tmps := Tm.fill (x ++ c).toList 0, defers := [], mode := u, σ := σ } { tmps := (x' ++ c') ++ Array.replicate (fd.ntmps - (x' ++ c').size) undef, defers := [] } (c₀ :: cs) w :=
       ⟨start_rel hargs hasz, trivial, ⟨c₀, cs, u', rfl, by subst hc0; rfl, hu⟩, hR⟩
      have hW := hD _ _ _ _ _ hb _ _ _ _ _ hin
      intro b k hb1 hb2
      obtain ⟨e1, a1, cs1, w1, hq, harr⟩ := hW b k hb1 hb2
      refine ⟨e1, a1, cs1, w1, ?_, harr⟩
      obtain ⟨ρ1, hle1, hx1, hT1, hds1, ⟨c0', rest, u1', e0, e0', hmo⟩, hR1⟩ := hq
      simp only [List.cons.injEq] at e0
      obtain ⟨rfl, rfl⟩ := e0
      obtain ⟨vs, hvs⟩ := hvs
      obtain ⟨v', hv1, hv2⟩ := results_sound hT1 hR1 hvs
      have hnext := ih (settle s.mode) s.σ e σ' hl ρ1 ds' (settle u1') w1 (hT.mono hle1) (hds.mono hle1) (settle_rel hmo) hR1
      have hdnil : a1.defers = [] := by
       rw [hsd] at hds1
       cases hq : a1.defers with
       | nil => rfl
       | cons z zs => rw [hq] at hds1; exact hds1.elim
      have hpost : a1.defers = [] ∧ ∃ u2, cs1 = { c₀ with mode := u2 } :: cs ∧ ∃ v, (results fd a1.tmps).run P w1 = .ok v w1 ∧ Leaves P fn tmps (fun e' w' => ∃ ρ', ρ.le ρ' ∧ ERel ρ' e e' ∧ R w0 S σ' ρ' w') ds' (settle u2) w1 := by
       refine ⟨hdnil, u1', e0', v', hv1, ?_⟩
       exact leaves_mono (fun e2 w2 ⟨r, q1, q2, q3⟩ => ⟨r, Rho.le_trans hle1 q1, q2, q3⟩) hnext
      rcases hxx2 with rfl | rfl
      ·cases e1 <;> first | exact hpost | exact hx1.elim
      ·cases e1 <;> first | exact hpost | exact hx1.elim
     ·exact absurd hb (by simp)
    split at h
    ·rename_i s hname hb
     split at h
     ·rename_i vs hsd hvs
      exact fin _ s (.inl rfl) hb hsd ⟨_, hvs⟩ hname h
     ·exact absurd h (by simp)
    ·rename_i s hname hb
     split at h
     ·rename_i vs hsd hvs
      exact fin _ s (.inr rfl) hb hsd ⟨_, hvs⟩ hname h
     ·exact absurd h (by simp)
    ·exact absurd h (by simp)
    ·exact absurd h (by simp)
   ·exact absurd h (by simp)
  ·exact absurd h (by simp)
theorem call_sound {Y : Ext} (hY : ExtOk P w0 S Y) {exec execD : Nat → Code → St → Res (AExit × St)} (hN : BodyOk P w0 S false exec) (hD : BodyOk P w0 S true execD) : CallsOk P w0 S (callWith P Y exec execD) := by
 intro f args σ e σ' h ρ w args' ha hR
 unfold callWith at h
 split at h
 ·rename_i r hr
  simp only [Res.ok.injEq] at h
  subst h
  exact hY _ _ _ _ _ hr ρ w args' ha hR
 split at h
 ·rename_i fn hf
  have key : ∀ (x : AExit) (s : St) (u : FrameMode), body P exec fn args .run σ = .ok (x, s) → ((x = .normal ∨ x = .ret) ∧ u = .returning ∨ ∃ ch, x = .panic ch ∧ u = .panicking ch) →
    leaves P execD fn s.tmps s.defers u s.σ = .ok (e, σ') → Calls P f args' w fun e' w' => ∃ ρ', ρ.le ρ' ∧ ERel ρ' e e' ∧ R w0 S σ' ρ' w' := by
   intro x s u hb hxu hl cs
   unfold body at hb
   split at hb
   ·rename_i code hcode hsz
    have hin : SRel w0 S false fn.ntmps cs ρ { tmps := Tm.fill args.toList 0, defers := [], mode := .run, σ := σ } { tmps := args' ++ Array.replicate (fn.ntmps - args'.size) undef, defers := [] } cs w :=
     ⟨start_rel ha (ble_t hsz), trivial, rfl, hR⟩
    have hW := hN _ _ _ _ _ hb _ _ _ _ _ hin
    let b : Frame := { (default : Frame) with fn := f, kind := .normal }
    have henter : Frame.enter P f args' .normal = b.at { tmps := args' ++ Array.replicate (fn.ntmps - args'.size) undef, defers := [] } [.code code] := by
     simp [Frame.enter, Frame.at, hf, hcode, b]
    obtain ⟨e1, a1, cs1, w1, hq, harr⟩ := hW b [] rfl rfl
    rw [← henter] at harr
    obtain ⟨ρ1, hle1, hx1, hT1, hds1, hcs1, hR1⟩ := hq
    have hcs1 : cs1 = cs := hcs1
    subst hcs1
    have fin : ∀ (u' : FrameMode) (todo : List Item), MoRel ρ1 u u' → Steps P (lone (Frame.enter P f args' .normal) cs1 w) (lone { b.at a1 todo with mode := u' } cs1 w1) →
      ∃ e' w' fr, (∃ ρ', ρ.le ρ' ∧ ERel ρ' e e' ∧ R w0 S σ' ρ' w') ∧ Comes P (lone (Frame.enter P f args' .normal) cs1 w) (lone fr cs1 w') e' ∧ fr.fn = f ∧ fr.leaving P w' e' := by
     intro u' todo hmo hst
     have hL := leaves_sound hD s.defers u s.σ e σ' hl ρ1 a1.defers u' w1 hT1 hds1 hmo hR1
     obtain ⟨e2, w2, fr2, hR2, hs2, hfn2, hl2⟩ := leaves_steps a1.defers u' w1 { b.at a1 todo with mode := u' } cs1 rfl rfl rfl hf rfl hL
     obtain ⟨ρ2, q1, q2, q3⟩ := hR2
     exact ⟨e2, w2, fr2, ⟨ρ2, Rho.le_trans hle1 q1, q2, q3⟩, Comes.of_steps hst hs2, hfn2, hl2⟩
    rcases hxu with ⟨hx, rfl⟩ | ⟨ch, rfl, rfl⟩
    ·have hx2 : e1 = .normal ∨ e1 = .ret := by
      rcases hx with rfl | rfl <;> cases e1 <;> first | exact .inl rfl | exact .inr rfl | exact hx1.elim
     rcases hx2 with rfl | rfl
     ·exact fin .returning [] trivial (Steps.trans harr (.one step_end))
     ·obtain ⟨todo, hs⟩ := harr
      exact fin .returning todo trivial hs
    ·cases e1 with
     | panic ch' =>
      obtain ⟨todo, hs⟩ := harr
      exact fin (.panicking ch') todo hx1 hs
     | _ => exact hx1.elim
   ·exact absurd hb (by simp)
  split at h
  ·rename_i s hb; exact key _ s .returning hb (.inl ⟨.inl rfl, rfl⟩) h
  ·rename_i s hb; exact key _ s .returning hb (.inl ⟨.inr rfl, rfl⟩) h
  ·rename_i ch s hb; exact key _ s (.panicking ch) hb (.inr ⟨ch, rfl, rfl⟩) h
  ·exact absurd h (by simp)
  ·exact absurd h (by simp)
 ·exact absurd h (by simp)
theorem exec_sound [NoEx P S] {X : Facts} {Y : Ext} (hX : FactsOk P X S) (hY : ExtOk P w0 S Y) : ∀ (n : Nat) (d : Bool) (nt : Nat) (c : Code) (s : St) (x : AExit) (s' : St), exec P X Y n d nt c s = .ok (x, s') → ∀ ρ a cs0 cs w, SRel w0 S d nt cs0 ρ s a cs w →
  W P d c (Post w0 S d nt cs0 ρ x s') a cs w ∧ ∀ b, c = .loop b → WLoop P d b (Post w0 S d nt cs0 ρ x s') a cs w := by
 intro n
 induction n with
 | zero => intro d nt c s x s' h; simp [exec] at h
 | succ n ih =>
  intro d nt c s x s' h ρ a cs0 cs w hs
  have wp1 : ∀ {c0 : Code} {e : Exit}, (∀ {Q : Exit → Act → World → Prop}, Q e a w → c0.wp P Q a w) → ∀ {x0 : AExit}, XRel ρ x0 e → W P d c0 (Post w0 S d nt cs0 ρ x0 s) a cs w := by
   intro c0 e hw x0 hx
   exact W.of_wp (hw (hs.post hx))
  cases c with
  | skip =>
   simp only [exec, Res.ok.injEq, Prod.mk.injEq] at h
   obtain ⟨rfl, rfl⟩ := h
   exact ⟨wp1 (e := .normal) (fun h => wp_skip h) trivial, fun b e => by simp at e⟩
  | ret =>
   simp only [exec, Res.ok.injEq, Prod.mk.injEq] at h
   obtain ⟨rfl, rfl⟩ := h
   exact ⟨wp1 (e := .ret) (fun h => wp_ret h) trivial, fun b e => by simp at e⟩
  | exit id =>
   simp only [exec, Res.ok.injEq, Prod.mk.injEq] at h
   obtain ⟨rfl, rfl⟩ := h
   exact ⟨wp1 (e := .exit id) (fun h => wp_exit h) rfl, fun b e => by simp at e⟩
  | seq p q =>
   refine ⟨?_, fun b e => by simp at e⟩
   simp only [exec] at h
   cases hp : exec P X Y n d nt p s with
   | bad w => rw [hp] at h; simp at h
   | ok r =>
    obtain ⟨x1, s1⟩ := r
    rw [hp] at h
    have h1 := (ih _ _ _ _ _ _ hp _ _ _ _ _ hs).1
    refine W.seq (W.mono h1 ?_)
    rintro e a1 cs1 w1 ⟨ρ1, hle1, hx1, hT1, hds1, hcs1, hR1⟩
    cases x1 with
    | normal =>
     cases e with
     | normal =>
      simp only at h
      exact W.mono (ih _ _ _ _ _ _ h _ _ cs0 _ _ ⟨hT1, hds1, hcs1, hR1⟩).1 fun e a cs w p => Post.le hle1 p
     | _ => exact hx1.elim
    | exit i =>
     simp only [Res.ok.injEq, Prod.mk.injEq] at h
     obtain ⟨rfl, rfl⟩ := h
     cases e with
     | exit j => exact ⟨ρ1, hle1, hx1, hT1, hds1, hcs1, hR1⟩
     | _ => exact hx1.elim
    | ret =>
     simp only [Res.ok.injEq, Prod.mk.injEq] at h
     obtain ⟨rfl, rfl⟩ := h
     cases e with
     | ret => exact ⟨ρ1, hle1, hx1, hT1, hds1, hcs1, hR1⟩
     | _ => exact hx1.elim
    | panic ch =>
     simp only [Res.ok.injEq, Prod.mk.injEq] at h
     obtain ⟨rfl, rfl⟩ := h
     cases e with
     | panic ch' => exact ⟨ρ1, hle1, hx1, hT1, hds1, hcs1, hR1⟩
     | _ => exact hx1.elim
  | cond c p q =>
   refine ⟨?_, fun b e => by simp at e⟩
   simp only [exec] at h
   split at h
   ·rename_i hok hc
    simp only [Bool.and_eq_true] at hok
    have hrel := ev_rel hs.t hok.1 hok.2
    rw [hc] at hrel
    have hc' : a.eval c = .bool true := (plain_eq hrel rfl).symm
    exact W.cond hc' (ih _ _ _ _ _ _ h _ _ _ _ _ hs).1
   ·rename_i hok hc
    simp only [Bool.and_eq_true] at hok
    have hrel := ev_rel hs.t hok.1 hok.2
    rw [hc] at hrel
    have hc' : a.eval c = .bool false := (plain_eq hrel rfl).symm
    exact W.cond hc' (ih _ _ _ _ _ _ h _ _ _ _ _ hs).1
   ·exact absurd h (by simp)
  | block id p =>
   refine ⟨?_, fun b e => by simp at e⟩
   simp only [exec] at h
   cases hp : exec P X Y n d nt p s with
   | bad w => rw [hp] at h; simp at h
   | ok r =>
    obtain ⟨x1, s1⟩ := r
    rw [hp] at h
    have h1 := (ih _ _ _ _ _ _ hp _ _ _ _ _ hs).1
    refine W.block (W.mono h1 ?_)
    rintro e a1 cs1 w1 ⟨ρ1, hle1, hx1, hT1, hds1, hcs1, hR1⟩
    cases x1 with
    | normal =>
     simp only [Res.ok.injEq, Prod.mk.injEq] at h
     obtain ⟨rfl, rfl⟩ := h
     cases e with
     | normal => exact ⟨ρ1, hle1, hx1, hT1, hds1, hcs1, hR1⟩
     | _ => exact hx1.elim
    | exit i =>
     simp only at h
     cases e with
     | exit j =>
      have hij : i = j := hx1
      subst hij
      unfold inBlockS
      simp only
      split at h
      ·rename_i he
       simp only [Res.ok.injEq, Prod.mk.injEq] at h
       obtain ⟨rfl, rfl⟩ := h
       rw [if_pos he]
       exact ⟨ρ1, hle1, trivial, hT1, hds1, hcs1, hR1⟩
      ·rename_i he
       simp only [Res.ok.injEq, Prod.mk.injEq] at h
       obtain ⟨rfl, rfl⟩ := h
       rw [if_neg he]
       exact ⟨ρ1, hle1, rfl, hT1, hds1, hcs1, hR1⟩
     | _ => exact hx1.elim
    | ret =>
     simp only [Res.ok.injEq, Prod.mk.injEq] at h
     obtain ⟨rfl, rfl⟩ := h
     cases e with
     | ret => exact ⟨ρ1, hle1, hx1, hT1, hds1, hcs1, hR1⟩
     | _ => exact hx1.elim
    | panic ch =>
     simp only [Res.ok.injEq, Prod.mk.injEq] at h
     obtain ⟨rfl, rfl⟩ := h
     cases e with
     | panic ch' => exact ⟨ρ1, hle1, hx1, hT1, hds1, hcs1, hR1⟩
     | _ => exact hx1.elim
  | loop p =>
   have main : WLoop P d p (Post w0 S d nt cs0 ρ x s') a cs w := by
    simp only [exec] at h
    cases hp : exec P X Y n d nt p s with
    | bad w => rw [hp] at h; simp at h
    | ok r =>
     obtain ⟨x1, s1⟩ := r
     rw [hp] at h
     have h1 := (ih _ _ _ _ _ _ hp _ _ _ _ _ hs).1
     refine WLoop.round (W.mono h1 ?_)
     rintro e a1 cs1 w1 ⟨ρ1, hle1, hx1, hT1, hds1, hcs1, hR1⟩
     cases x1 with
     | normal =>
      cases e with
      | normal =>
       simp only at h
       have h2 := (ih _ _ _ _ _ _ h _ a1 cs0 cs1 w1 ⟨hT1, hds1, hcs1, hR1⟩).2 p rfl
       intro b k hb hr
       obtain ⟨e, a', cs', w', q, r⟩ := h2 b k hb hr
       exact ⟨e, a', cs', w', Post.le hle1 q, r⟩
      | _ => exact hx1.elim
     | exit i =>
      simp only [Res.ok.injEq, Prod.mk.injEq] at h
      obtain ⟨rfl, rfl⟩ := h
      cases e with
      | exit j => exact ⟨ρ1, hle1, hx1, hT1, hds1, hcs1, hR1⟩
      | _ => exact hx1.elim
     | ret =>
      simp only [Res.ok.injEq, Prod.mk.injEq] at h
      obtain ⟨rfl, rfl⟩ := h
      cases e with
      | ret => exact ⟨ρ1, hle1, hx1, hT1, hds1, hcs1, hR1⟩
      | _ => exact hx1.elim
     | panic ch =>
      simp only [Res.ok.injEq, Prod.mk.injEq] at h
      obtain ⟨rfl, rfl⟩ := h
      cases e with
      | panic ch' => exact ⟨ρ1, hle1, hx1, hT1, hds1, hcs1, hR1⟩
      | _ => exact hx1.elim
   exact ⟨W.loop main, fun b e => by cases e; exact main⟩
  | region id ops draw =>
   refine ⟨?_, fun b e => by simp at e⟩
   simp only [exec] at h
   have hcalls : CallsOk P w0 S (callWith P Y (exec P X Y n false) (exec P X Y n true)) :=
    call_sound hY (fun nt c s x s' h ρ a cs0 cs w hs => (ih _ _ _ _ _ _ h _ _ _ _ _ hs).1) (fun nt c s x s' h ρ a cs0 cs w hs => (ih _ _ _ _ _ _ h _ _ _ _ _ hs).1)
   split at h
   ·rename_i hops
    split at h
    ·cases d with
     | false =>
      have := ops_sound hcalls hX hops ops.toList 0 ops.toList.length rfl rfl s _ _ h _ _ _ _ hs
      refine W.of_wp (wp_region ?_)
      rw [← List.range_eq_range'] at this
      simpa using this
     | true =>
      have := opsS_sound hcalls hX hops ops.toList 0 ops.toList.length rfl rfl s _ _ h _ _ _ _ hs
      refine W.of_wpS (wpS_region ?_)
      rw [← List.range_eq_range'] at this
      simpa using this
    ·exact drawn_sound hcalls hX hops h hs
   ·exact absurd h (by simp)
  | _ => simp [exec] at h
theorem calls [NoEx P S] {X : Facts} {Y : Ext} (hX : FactsOk P X S) (hY : ExtOk P w0 S Y) {n : Nat} {f : FuncId} {args args' : Array Value} {σ σ' : AW} {e : AEnd} (h : Vx.call P X Y n f args σ = .ok (e, σ')) {ρ : Rho} {w : World} (ha : ARel ρ args args') (hR : R w0 S σ ρ w) :
  Calls P f args' w fun e' w' => ∃ ρ', ρ.le ρ' ∧ ERel ρ' e e' ∧ R w0 S σ' ρ' w' :=
 call_sound hY (fun _ _ _ _ _ h _ _ _ _ _ hs => (exec_sound hX hY n _ _ _ _ _ _ h _ _ _ _ _ hs).1) (fun _ _ _ _ _ h _ _ _ _ _ hs => (exec_sound hX hY n _ _ _ _ _ _ h _ _ _ _ _ hs).1) f args σ e σ' h ρ w args' ha hR
def ownC (w : World) (ex : TypeId → Prop) : Own := ⟨fun b => w.heap.size ≤ b, ⟨fun _ => none, fun _ => none, fun _ => none⟩, fun _ _ => True, ex⟩
instance noExC (P : Program) (w : World) : NoEx P (ownC w fun _ => False) := ⟨fun _ _ _ _ h => h⟩
end
end Vx
end Go
set_option linter.unusedVariables false
set_option linter.unusedSimpArgs false
namespace Go
namespace Vx
section
variable (P : Program) (w0 : World) (S : Own)
def To : CallR := fun f args σ e σ' => ∀ ρ w args', ARel ρ args args' → R w0 S σ ρ w → Calls P f args' w fun e' w' => ∃ ρ', ρ.le ρ' ∧ ERel ρ' e e' ∧ R w0 S σ' ρ' w'
abbrev Cont := AExit → St → Prop
def PostK (nt : Nat) (cs0 : List Frame) (K : Cont) : Exit → Act → List Frame → World → Prop :=
 fun e a cs w => ∃ x s ρ, K x s ∧ XRel ρ x e ∧ SRel w0 S false nt cs0 ρ s a cs w
def H (nt : Nat) (c : Code) (s : St) (K : Cont) : Prop := ∀ ρ a cs w, SRel w0 S false nt cs ρ s a cs w → W P false c (PostK w0 S nt cs K) a cs w
def HL (nt : Nat) (c : Code) (s : St) (K : Cont) : Prop := ∀ ρ a cs w, SRel w0 S false nt cs ρ s a cs w → WLoop P false c (PostK w0 S nt cs K) a cs w
def HO (nt : Nat) (ops : Array Oper) (i : Nat) (s : St) (K : Cont) : Prop :=
 ops.toList.all (okOp nt) = true → ∀ ρ a cs w, SRel w0 S false nt cs ρ s a cs w → wpOps P ops (fun e a' w' => PostK w0 S nt cs K e a' cs w') (List.range' i (ops.size - i)) a w
end
section
variable {P : Program} {w0 : World} {S : Own} {nt : Nat} {s s' : St} {K K' : Cont}
theorem PostK.mono {cs : List Frame} (h : ∀ x s, K x s → K' x s) {e a cs' w} (p : PostK w0 S nt cs K e a cs' w) : PostK w0 S nt cs K' e a cs' w :=
 let ⟨x, s, ρ, k, q⟩ := p; ⟨x, s, ρ, h _ _ k, q⟩
theorem H.mono {c : Code} (h : H P w0 S nt c s K) (hk : ∀ x s, K x s → K' x s) : H P w0 S nt c s K' :=
 fun ρ a cs w hs => W.mono (h ρ a cs w hs) fun _ _ _ _ p => p.mono hk
theorem SRel.postK {cs : List Frame} {ρ : Rho} {a : Act} {w : World} (h : SRel w0 S false nt cs ρ s a cs w) {x : AExit} {e : Exit} (hk : K x s) (hx : XRel ρ x e) : PostK w0 S nt cs K e a cs w := ⟨x, s, ρ, hk, hx, h⟩
theorem PostK.cs {cs : List Frame} {e a cs' w} (p : PostK w0 S nt cs K e a cs' w) : cs' = cs := let ⟨_, _, _, _, _, h⟩ := p; h.cs
theorem H.skip (h : K .normal s) : H P w0 S nt .skip s K := fun ρ a cs w hs => W.of_wp (wp_skip (hs.postK (x := .normal) h trivial))
theorem H.ret (h : K .ret s) : H P w0 S nt .ret s K := fun ρ a cs w hs => W.of_wp (wp_ret (hs.postK (x := .ret) h trivial))
theorem H.exit {id : Nat} (h : K (.exit id) s) : H P w0 S nt (.exit id) s K := fun ρ a cs w hs => W.of_wp (wp_exit (hs.postK (x := .exit id) h rfl))
def Kseq (P : Program) (w0 : World) (S : Own) (nt : Nat) (q : Code) (K : Cont) : Cont
 | .normal, s => H P w0 S nt q s K
 | x, s => K x s
theorem H.seq {p q : Code} (h : H P w0 S nt p s (Kseq P w0 S nt q K)) : H P w0 S nt (.seq p q) s K := by
 intro ρ a cs w hs
 refine W.seq (W.mono (h ρ a cs w hs) ?_)
 intro e a1 cs1 w1 hp
 have hcs := hp.cs
 subst hcs
 obtain ⟨x, s1, ρ1, k, hx, h1⟩ := hp
 cases x with
 | normal =>
  cases e with
  | normal => exact k _ _ _ _ h1
  | _ => exact hx.elim
 | _ => cases e <;> first | exact hx.elim | exact ⟨_, _, _, k, hx, h1⟩
def Kblock (id : Nat) (K : Cont) : Cont
 | .exit j, s => if j = id then K .normal s else K (.exit j) s
 | x, s => K x s
theorem H.block {id : Nat} {p : Code} (h : H P w0 S nt p s (Kblock id K)) : H P w0 S nt (.block id p) s K := by
 intro ρ a cs w hs
 refine W.block (W.mono (h ρ a cs w hs) ?_)
 intro e a1 cs1 w1 hp
 obtain ⟨x, s1, ρ1, k, hx, h1⟩ := hp
 cases x with
 | exit j =>
  cases e with
  | exit i =>
   have hij : j = i := hx
   subst hij
   simp only [inBlockS]
   simp only [Kblock] at k
   split
   ·rename_i hj
    rw [if_pos hj] at k
    exact ⟨.normal, s1, ρ1, k, trivial, h1⟩
   ·rename_i hj
    rw [if_neg hj] at k
    exact ⟨.exit j, s1, ρ1, k, rfl, h1⟩
  | _ => exact hx.elim
 | _ => cases e <;> first | exact hx.elim | exact ⟨_, _, _, k, hx, h1⟩
def Kloop (P : Program) (w0 : World) (S : Own) (nt : Nat) (p : Code) (K : Cont) : Cont
 | .normal, s => HL P w0 S nt p s K
 | x, s => K x s
theorem HL.round {p : Code} (h : H P w0 S nt p s (Kloop P w0 S nt p K)) : HL P w0 S nt p s K := by
 intro ρ a cs w hs
 refine WLoop.round (W.mono (h ρ a cs w hs) ?_)
 intro e a1 cs1 w1 hp
 have hcs := hp.cs
 subst hcs
 obtain ⟨x, s1, ρ1, k, hx, h1⟩ := hp
 cases x with
 | normal =>
  cases e with
  | normal => exact k _ _ _ _ h1
  | _ => exact hx.elim
 | _ => cases e <;> first | exact hx.elim | exact ⟨_, _, _, k, hx, h1⟩
theorem H.loop {p : Code} (h : HL P w0 S nt p s K) : H P w0 S nt (.loop p) s K := fun ρ a cs w hs => W.loop (h ρ a cs w hs)
theorem H.cond {c : Operand} {p q : Code} {b : Bool} (hok : (okOperand nt c && seenO s.tmps c) = true) (hb : ev s.tmps c = .bool b) (h1 : b = true → H P w0 S nt p s K) (h2 : b = false → H P w0 S nt q s K) : H P w0 S nt (.cond c p q) s K := by
 intro ρ a cs w hs
 simp only [Bool.and_eq_true] at hok
 have hrel := ev_rel hs.t hok.1 hok.2
 rw [hb] at hrel
 have hc : a.eval c = .bool b := hrel.bool_inv
 refine W.cond hc ?_
 cases b with
 | true => exact h1 rfl ρ a cs w hs
 | false => exact h2 rfl ρ a cs w hs
theorem H.run [NoEx P S] {n : Nat} {c : Code} {x : AExit} (h : exec P .none Ext.none n false nt c s = .ok (x, s')) (hk : K x s') : H P w0 S nt c s K := by
 intro ρ a cs w hs
 refine W.mono (exec_sound (FactsOk.none P S) (ExtOk.none P w0 S) n false nt c s x s' h ρ a cs cs w hs).1 ?_
 rintro e a1 cs1 w1 ⟨ρ1, _, hx, hT, hd, hc, hR⟩
 have hc : cs1 = cs := hc
 subst hc
 exact ⟨x, s', ρ1, hk, hx, hT, hd, rfl, hR⟩
theorem H.region {id : Nat} {ops : Array Oper} (hops : ops.toList.all (okOp nt) = true) (h : HO P w0 S nt ops 0 s K) : H P w0 S nt (.region id ops false) s K := by
 intro ρ a cs w hs
 refine W.of_wp (wp_region ?_)
 have := h hops ρ a cs w hs
 rw [Nat.sub_zero, ← List.range_eq_range'] at this
 exact this
theorem HO.done {ops : Array Oper} {i : Nat} (hi : Nat.beq i ops.size = true) (h : K .normal s) : HO P w0 S nt ops i s K := by
 have hi := beq_t hi
 subst hi
 intro _ ρ a cs w hs
 rw [Nat.sub_self]
 exact hs.postK h trivial
def stepA (P : Program) (ops : Array Oper) (o : Oper) (s : St) : Option St :=
 match wantedA ops s.tmps o with
 | some true => match aopT P .none s.tmps o s.σ with
  | some (.val v) => some { s with tmps := putT s.tmps o.dst v }
  | some (.eff v σ') => some { s with tmps := putT s.tmps o.dst v, σ := σ' }
  | some (.defer d) => some { s with tmps := putT s.tmps o.dst undef, defers := d :: s.defers }
  | _ => none
 | some false => some { s with tmps := putT s.tmps o.dst undef }
 | none => none
def goA (P : Program) (ops : Array Oper) : Nat → Nat → St → Option St
 | 0, _, s => some s
 | n + 1, i, s => match ops[i]? with
  | some o => match stepA P ops o s with
   | some s' => goA P ops n (i + 1) s'
   | none => none
  | none => none
theorem SRel.put {cs : List Frame} {ρ ρ' : Rho} {a : Act} {w w' : World} (hs : SRel w0 S false nt cs ρ s a cs w) (hle : ρ.le ρ') {o : Oper} (hok : okOp nt o = true) {v v' : Value} (hv : VRel ρ' v v') {σ' : AW} (hR : R w0 S σ' ρ' w') :
  SRel w0 S false nt cs ρ' { s with tmps := putT s.tmps o.dst v, σ := σ' } (a.put o.dst v') cs w' :=
 ⟨put_rel (hs.t.mono hle) (okOp_dst hok) hv, by rw [put_defers]; exact hs.ds.mono hle, rfl, hR⟩
theorem okOp_at {ops : Array Oper} (h : ops.toList.all (okOp nt) = true) {i : Nat} {o : Oper} (ho : ops[i]? = some o) : okOp nt o = true := by
 rw [List.all_eq_true] at h
 exact h o (by rw [Array.mem_toList_iff]; exact Array.mem_of_getElem? ho)
theorem wpOps_at {ops : Array Oper} {i : Nat} {o : Oper} (ho : ops[i]? = some o) {Q : Exit → Act → World → Prop} {a : Act} {w : World}
  (h : wpOps P ops Q (i :: List.range' (i + 1) (ops.size - (i + 1))) a w) : wpOps P ops Q (List.range' i (ops.size - i)) a w := by
 have hlt : i < ops.size := (Array.getElem?_eq_some_iff.1 ho).1
 have : ops.size - i = (ops.size - (i + 1)) + 1 := by omega
 rw [this, List.range'_succ]
 exact h
theorem HO.step [NoEx P S] {ops : Array Oper} {i : Nat} {o : Oper} (ho : ops[i]? = some o) (h : stepA P ops o s = some s') (hk : HO P w0 S nt ops (i + 1) s' K) : HO P w0 S nt ops i s K := by
 intro hops ρ a cs w hs
 refine wpOps_at ho ?_
 have hok := okOp_at hops ho
 have hdst := okOp_dst hok
 simp only [wpOps, ho]
 unfold stepA at h
 split at h
 ·rename_i hw0
  have hw := wanted_eq hs.t hops hw0
  rw [if_pos hw]
  refine .inl ?_
  unfold Oper.wp
  split at h
  ·rename_i v hop
   cases h
   have hout := aop_sound hs.r (FactsOk.none P S) (aopT_eq hop).2 (e' := a.eval) (ev_rels hs.t hok (aopT_eq hop).1)
   generalize (execOp a.eval o).run P w = res at hout
   cases hout with
   | val hle hv hR => exact hk hops _ _ _ _ (hs.put hle hok hv hR)
  ·rename_i v σ1 hop
   cases h
   have hout := aop_sound hs.r (FactsOk.none P S) (aopT_eq hop).2 (e' := a.eval) (ev_rels hs.t hok (aopT_eq hop).1)
   generalize (execOp a.eval o).run P w = res at hout
   cases hout with
   | eff hle hv hR => exact hk hops _ _ _ _ (hs.put hle hok hv hR)
   | skip hle hR => exact hk hops _ _ _ _ (hs.put hle hok (undef_rel _) hR)
  ·rename_i d hop
   cases h
   have hout := aop_sound hs.r (FactsOk.none P S) (aopT_eq hop).2 (e' := a.eval) (ev_rels hs.t hok (aopT_eq hop).1)
   generalize (execOp a.eval o).run P w = res at hout
   cases hout with
   | defer hc1 hx hR =>
    exact hk hops _ (({ a with defers := _ :: a.defers } : Act).put o.dst undef) _ _ ⟨put_rel (a := { a with defers := _ :: a.defers }) hs.t hdst (undef_rel _), by rw [put_defers]; exact ⟨⟨_, _, _, _, _, rfl, rfl, hc1, hx⟩, hs.ds⟩, rfl, hR⟩
  ·exact absurd h (by simp)
 ·rename_i hw0
  have hw := wanted_eq hs.t hops hw0
  rw [if_neg (by rw [hw]; simp)]
  cases h
  exact hk hops _ _ _ _ (hs.put ρ.le_refl hok (undef_rel _) hs.r)
 ·exact absurd h (by simp)
theorem HO.go [NoEx P S] {ops : Array Oper} : ∀ (n : Nat) {i : Nat} {s s' : St}, goA P ops n i s = some s' → HO P w0 S nt ops (i + n) s' K → HO P w0 S nt ops i s K
 | 0, i, s, s', h, hk => by
  simp only [goA, Option.some.injEq] at h
  subst h
  exact hk
 | n + 1, i, s, s', h, hk => by
  simp only [goA] at h
  split at h
  ·rename_i o ho
   split at h
   ·rename_i s1 h1
    exact HO.step ho h1 (HO.go n h (by rw [Nat.add_assoc, Nat.add_comm 1 n]; exact hk))
   ·exact absurd h (by simp)
  ·exact absurd h (by simp)
theorem HO.told [NoEx P S] {ops : Array Oper} {i : Nat} {o : Oper} {r : ARes} (ho : ops[i]? = some o) (hw : wantedA ops s.tmps o = some true) (h : aopT P .none s.tmps o s.σ = some r)
  (hk : match r with
   | .val v => HO P w0 S nt ops (i + 1) { s with tmps := putT s.tmps o.dst v } K
   | .eff v σ' => HO P w0 S nt ops (i + 1) { s with tmps := putT s.tmps o.dst v, σ := σ' } K
   | .pan v => K (.panic [{ v, recovered := false }]) s
   | _ => False) : HO P w0 S nt ops i s K := by
 cases r with
 | val v => exact HO.step ho (by unfold stepA; rw [hw]; simp only [h]) hk
 | eff v σ' => exact HO.step ho (by unfold stepA; rw [hw]; simp only [h]) hk
 | pan v =>
  intro hops ρ a cs w hs
  refine wpOps_at ho ?_
  have hok := okOp_at hops ho
  simp only [wpOps, ho]
  have hw := wanted_eq hs.t hops hw
  rw [if_pos hw]
  refine .inl ?_
  unfold Oper.wp
  have hout := aop_sound hs.r (FactsOk.none P S) (aopT_eq h).2 (e' := a.eval) (ev_rels hs.t hok (aopT_eq h).1)
  generalize (execOp a.eval o).run P w = res at hout
  cases hout with
  | pan hv hR => exact SRel.postK ⟨hs.t, hs.ds, rfl, hR⟩ hk (chain_one hv)
 | _ => exact hk.elim
theorem HO.call [NoEx P S] {ops : Array Oper} {i : Nat} {o : Oper} {f : FuncId} {args : Array Value} {e : AEnd} {σ' : AW} (ho : ops[i]? = some o) (hw : wantedA ops s.tmps o = some true) (h : aopT P .none s.tmps o s.σ = some (.call f args))
  (hc : To P w0 S f args s.σ e σ')
  (hk : match e with
   | .returned v => HO P w0 S nt ops (i + 1) { s with tmps := putT s.tmps o.dst v, σ := σ' } K
   | .panicked ch => K (.panic ch) { s with σ := σ' }) : HO P w0 S nt ops i s K := by
 intro hops ρ a cs w hs
 refine wpOps_at ho ?_
 have hok := okOp_at hops ho
 simp only [wpOps, ho]
 have hw := wanted_eq hs.t hops hw
 rw [if_pos hw]
 refine .inl ?_
 unfold Oper.wp
 have hout := aop_sound hs.r (FactsOk.none P S) (aopT_eq h).2 (e' := a.eval) (ev_rels hs.t hok (aopT_eq h).1)
 generalize (execOp a.eval o).run P w = res at hout
 cases hout with
 | call ha hR =>
  refine Calls.mono (hc _ _ _ ha hR) ?_
  rintro e' w' ⟨ρ', hle, he, hR'⟩
  cases e with
  | returned v =>
   cases e' with
   | returned v' => exact hk hops _ _ _ _ (hs.put hle hok he hR')
   | panicked ch => exact he.elim
   | outgrown => exact he.elim
  | panicked ch =>
   cases e' with
   | returned v' => exact he.elim
   | panicked ch' => exact SRel.postK (s := { s with σ := σ' }) (x := .panic _) (e := .panic _) ⟨hs.t.mono hle, hs.ds.mono hle, rfl, hR'⟩ hk he
   | outgrown => exact he.elim
def DStep (P : Program) (w0 : World) (S : Own) (ops : Array Oper) : List Oper → List Ent → Tm → AW → Prop
 | [], [], _, _ => True
 | o :: l, n :: ns, t, σ => StepOk P .none (To P w0 S) ops t σ o n ∧ DStep P w0 S ops l ns (putT t o.dst n.value) (n.behind σ)
 | _, _, _, _ => False
theorem DStep.spec {ops : Array Oper} : ∀ {l : List Oper} {ns : List Ent} {t : Tm} {σ : AW}, DStep P w0 S ops l ns t σ → ns.length = l.length ∧
  ∀ i o, l[i]? = some o → ∃ n, ns[i]? = some n ∧ StepOk P .none (To P w0 S) ops (tseq l ns t i) (sseq ns σ i) o n
 | [], [], _, _, _ => ⟨rfl, fun i o h => by simp at h⟩
 | o :: l, [], _, _, h => h.elim
 | [], _ :: _, _, _, h => h.elim
 | p :: l, n :: ns, t, σ, h => by
  obtain ⟨a, d⟩ := DStep.spec h.2
  refine ⟨by simp [a], fun i o ho => ?_⟩
  cases i with
  | zero =>
   simp at ho
   subst ho
   exact ⟨n, rfl, by rw [tseq_zero, sseq_zero]; exact h.1⟩
  | succ i =>
   obtain ⟨m, hm, hs'⟩ := d i o (by simpa using ho)
   exact ⟨m, by simpa using hm, hs'⟩
def DEff (P : Program) (bs : List Nat) (e : Nat) (σ σ' : AW) : List Oper → List Ent → Tm → Nat → Prop
 | o :: ops, n :: ns, t, j =>
  (match Nat.beq e j || ahead bs e j || ahead bs j e with
   | true => True
   | false => match n with
    | .val v => match looks o.op with
     | false => True
     | true => aopT P .none t o (match Nat.blt e j with | true => σ | false => σ') = some (.val v)
    | .skip => True
    | .eff _ _ _ => False) ∧ DEff P bs e σ σ' ops ns (putT t o.dst n.value) (j + 1)
 | _, _, _, _ => True
def DEffs (P : Program) (bs : List Nat) (ops : List Oper) (ns : List Ent) (t : Tm) : List Ent → Nat → Prop
 | .eff σ _ σ' :: l, e => DEff P bs e σ σ' ops ns t 0 ∧ DEffs P bs ops ns t l (e + 1)
 | _ :: l, e => DEffs P bs ops ns t l (e + 1)
 | [], _ => True
theorem DEff.at_ {bs : List Nat} {e : Nat} {σ σ' : AW} : ∀ {l : List Oper} {ns : List Ent} {t : Tm} {j0 : Nat}, DEff P bs e σ σ' l ns t j0 → ∀ i o n, l[i]? = some o → ns[i]? = some n →
  e = j0 + i ∨ ahead bs e (j0 + i) = true ∨ ahead bs (j0 + i) e = true ∨ (match n with | .val v => againP P .none (tseq l ns t i) o v (if e < j0 + i then σ else σ') | .skip => True | .eff _ _ _ => False)
 | [], ns, t, j0, _, i, o, n, h, _ => by simp at h
 | _ :: _, [], t, j0, _, i, o, n, _, h => by simp at h
 | p :: l, m :: ns, t, j0, h, i, o, n, ho, hn => by
  cases i with
  | zero =>
   simp at ho hn
   subst ho; subst hn
   rw [tseq_zero, Nat.add_zero]
   have h1 := h.1
   split at h1
   ·rename_i hb
    simp only [Bool.or_eq_true] at hb
    rcases hb with (a | a) | a
    ·exact .inl (beq_t a)
    ·exact .inr (.inl a)
    ·exact .inr (.inr (.inl a))
   ·refine .inr (.inr (.inr ?_))
    cases m with
    | skip => trivial
    | eff => exact h1
    | val v =>
     simp only at h1 ⊢
     split at h1
     ·rename_i hl; exact .inl hl
     ·refine .inr ?_
      rw [← h1]
      split
      ·rename_i hlt
       have : Nat.blt e j0 = true := Nat.ble_eq_true_of_le hlt
       rw [this]
      ·rename_i hlt
       have : Nat.blt e j0 = false := by
        cases hb : Nat.blt e j0 with
        | false => rfl
        | true => exact absurd (blt_t hb) hlt
       rw [this]
  | succ i =>
   have := DEff.at_ h.2 i o n (by simpa using ho) (by simpa using hn)
   rw [show j0 + (i + 1) = j0 + 1 + i by omega]
   exact this
theorem DEffs.at_ {bs : List Nat} {L : List Oper} {ns : List Ent} {t : Tm} : ∀ {l : List Ent} {e0 : Nat}, DEffs P bs L ns t l e0 → ∀ i σ v σ', l[i]? = some (.eff σ v σ') → DEff P bs (e0 + i) σ σ' L ns t 0
 | [], e0, _, i, σ, v, σ', h => by simp at h
 | m :: l, e0, h, i, σ, v, σ', hi => by
  cases i with
  | zero =>
   simp at hi
   subst hi
   exact h.1
  | succ i =>
   have h2 : DEffs P bs L ns t l (e0 + 1) := by
    cases m with
    | val v => exact h
    | skip => exact h
    | eff a b c => exact h.2
   rw [show e0 + (i + 1) = e0 + 1 + i by omega]
   exact DEffs.at_ h2 i σ v σ' (by simpa using hi)
theorem H.drawn [NoEx P S] {id : Nat} {ops : Array Oper} (hops : ops.toList.all (okOp nt) = true) (hok : (okRegion ops (bsets ops.toList []) ops.toList 0 && P.follows .mixedOrders) = true)
  (ns : List Ent) {t : Tm} {σ' : AW} (h1 : DStep P w0 S ops ops.toList ns s.tmps s.σ) (h2 : DEffs P (bsets ops.toList []) ops.toList ns s.tmps ns 0)
  (ht : tseq ops.toList ns s.tmps ops.toList.length = t) (hσ : sseq ns s.σ ops.toList.length = σ') (hk : K .normal { s with tmps := t, σ := σ' }) : H P w0 S nt (.region id ops true) s K := by
 intro ρ a cs w hs
 simp only [Bool.and_eq_true] at hok
 obtain ⟨hlen, hstep⟩ := h1.spec
 have HD : Drawn P .none (To P w0 S) nt ops ns s.tmps s.σ := ⟨hok.1, hops, hlen, hstep, fun e a b c he i o n hi hn => by
  have := (DEffs.at_ h2 e a b c he).at_ i o n hi hn
  simp only [Nat.zero_add] at this
  cases n <;> exact this⟩
 have hc : CallsOkR P w0 S (To P w0 S) := fun _ _ _ _ _ h => h
 refine W.of_wp (wp_region_any hok.2 ?_)
 refine HD.any hc (FactsOk.none P S) (s := s) (ρ := ρ) ?_ _ _ _ _ (by simp) (by
   unfold undone
   rw [Array.toList_replicate, List.filter_replicate]
   simp) ?_
 ·intro D a' w' hI hall
  obtain ⟨_, ρ', hle, hR, hT, hD⟩ := hI
  have e1 : SD ns s.σ D ops.toList.length = σ' := by
   rw [← hσ]
   exact SD_seq (by omega) fun j hj _ => hall j hj
  have e2 : ∀ i, i < nt → (TD ops.toList ns s.tmps D ops.toList.length).gh i = t.gh i := by
   intro i hi
   have g := TD_seq hlen (t := s.tmps) (i := ops.toList.length) (k := ops.toList.length) (Nat.le_refl _)
   rw [Nat.min_self, ht] at g
   rw [← g]
   refine TD_congr hops fun j o hj _ _ => ?_
   rw [hall j hj]
   exact (decide_eq_true hj).symm
  rw [e1] at hR
  refine SRel.postK (s := { s with tmps := t, σ := σ' }) (x := .normal) (e := .normal) ⟨⟨hT.size, fun i hi hh => ?_⟩, hD, rfl, hR⟩ hk trivial
  rw [← Tm.gh_has (e2 i hi)] at hh
  have := hT.at_ i hi hh
  rw [Tm.gh_get (e2 i hi)] at this
  exact this
 ·have hempty : ofArr (Array.replicate ops.size false) = fun _ => false := by
   funext j
   unfold ofArr
   rw [Array.getD_eq_getD_getElem?, Array.getElem?_replicate]
   split <;> rfl
  rw [hempty]
  have e1 : SD ns s.σ (fun _ => false) ops.toList.length = s.σ := SD_upto (k := 0) (by omega) fun j _ _ _ => rfl
  have e2 : ∀ k, TD ops.toList ns s.tmps (fun _ => false) k = s.tmps := by
   intro k
   induction k with
   | zero => rfl
   | succ k ih => simp only [TD]; exact ih
  refine ⟨fun j o hj => by simp at hj, ρ, ρ.le_refl, ?_, ?_, hs.ds⟩
  ·rw [e1]; exact hs.r.drew
  ·rw [e2]; exact hs.t
end
end Vx
end Go
set_option linter.unusedVariables false
set_option linter.unusedSimpArgs false
namespace Go
namespace Vx
def Trans (ρ ρ' : Rho) (v v' : Value) : Prop := ∀ u, VRel ρ v u → VRel ρ' v' u
def PureV (v : Value) : Prop := ∀ ρ u, VRel ρ v u → PRel ρ.mem v u
def TransL (ρ ρ' : Rho) : List Value → List Value → Prop
 | [], [] => True
 | x :: xs, y :: ys => Trans ρ ρ' x y ∧ TransL ρ ρ' xs ys
 | _, _ => False
def PureL : List Value → Prop
 | [] => True
 | x :: xs => PureV x ∧ PureL xs
section
variable {ρ ρ' : Rho}
theorem Trans.le (h : ρ.le ρ') (v : Value) : Trans ρ ρ' v v := fun _ h' => h'.mono h
theorem Trans.refl (v : Value) : Trans ρ ρ v v := fun _ h => h
theorem Trans.pure (hm : ∀ b o, ρ.mem b = some o → ∃ o', ρ'.mem b = some o' ∧ Pre o o') {v : Value} (h : PureV v) : Trans ρ ρ' v v := fun u h' => ((h ρ u h').mono hm).v
theorem TransL.len : ∀ {a b : List Value}, TransL ρ ρ' a b → a.length = b.length
 | [], [], _ => rfl
 | _ :: _, _ :: _, h => by simp [TransL.len h.2]
 | [], _ :: _, h => h.elim
 | _ :: _, [], h => h.elim
theorem TransL.at_ : ∀ {a b : List Value}, TransL ρ ρ' a b → ∀ (i : Nat) (v v' : Value), a[i]? = some v → b[i]? = some v' → Trans ρ ρ' v v'
 | [], [], _, i, v, v', h, _ => by simp at h
 | x :: xs, y :: ys, h, i, v, v', hv, hv' => by
  cases i with
  | zero => simp at hv hv'; subst hv; subst hv'; exact h.1
  | succ i => exact TransL.at_ h.2 i v v' (by simpa using hv) (by simpa using hv')
 | [], _ :: _, h, _, _, _, _, _ => h.elim
 | _ :: _, [], h, _, _, _, _, _ => h.elim
theorem TransL.same (hm : ∀ b o, ρ.mem b = some o → ∃ o', ρ'.mem b = some o' ∧ Pre o o') : ∀ {a : List Value}, (∀ v, v ∈ a → PureV v) → TransL ρ ρ' a a
 | [], _ => trivial
 | x :: xs, h => ⟨.pure hm (h x (by simp)), TransL.same hm fun v hv => h v (by simp [hv])⟩
theorem PureL.mem : ∀ {a : List Value}, PureL a → ∀ v, v ∈ a → PureV v
 | [], _, v, h => by simp at h
 | x :: xs, h, v, hv => by
  rcases List.mem_cons.1 hv with rfl | hv
  ·exact h.1
  ·exact PureL.mem h.2 v hv
theorem arrT {a b c : Array Value} (h : TransL ρ ρ' a.toList b.toList) (h1 : a.size = c.size) (h2 : ∀ (i : Nat) (v v' : Value), a[i]? = some v → c[i]? = some v' → VRel ρ v v') :
  b.size = c.size ∧ ∀ (i : Nat) (v v' : Value), b[i]? = some v → c[i]? = some v' → VRel ρ' v v' := by
 have hl := h.len
 simp only [Array.length_toList] at hl
 refine ⟨by omega, fun i v v' hv hv' => ?_⟩
 have hi : i < a.size := by have := (Array.getElem?_eq_some_iff.1 hv').1; omega
 exact h.at_ i a[i] v (by rw [Array.getElem?_toList, Array.getElem?_eq_getElem hi]) (by rw [Array.getElem?_toList]; exact hv) _ (h2 i _ _ (Array.getElem?_eq_getElem hi) hv')
theorem Trans.agg {a b : Array Value} (h : TransL ρ ρ' a.toList b.toList) : Trans ρ ρ' (.agg a) (.agg b) := by
 intro u hu
 cases hu with
 | pure _ hp => simp [isP] at hp
 | agg h1 h2 => have := arrT h h1 h2; exact .agg this.1 this.2
theorem Trans.tuple {a b : Array Value} (h : TransL ρ ρ' a.toList b.toList) : Trans ρ ρ' (.tuple a) (.tuple b) := by
 intro u hu
 cases hu with
 | pure _ hp => simp [isP] at hp
 | tuple h1 h2 => have := arrT h h1 h2; exact .tuple this.1 this.2
theorem Trans.func {f : FuncId} {a b c d : Array Value} (h : TransL ρ ρ' a.toList b.toList) (k : TransL ρ ρ' c.toList d.toList) : Trans ρ ρ' (.func (.func f) a c) (.func (.func f) b d) := by
 intro u hu
 cases hu with
 | pure _ hp => simp [isP] at hp
 | func h0 h1 h2 h3 h4 => have := arrT h h1 h2; have that := arrT k h3 h4; exact .func h0 this.1 this.2 that.1 that.2
theorem Trans.iface {t : TypeId} {v v' : Value} (h : Trans ρ ρ' v v') : Trans ρ ρ' (.iface t v) (.iface t v') := by
 intro u hu
 cases hu with
 | pure _ hp => simp [isP] at hp
 | iface h1 => exact .iface (h _ h1)
theorem Trans.ptr {i j o : Nat} (h : ∀ L, ρ i = some L → ρ' j = some L) : Trans ρ ρ' (.pointer (some ⟨i, o, none⟩)) (.pointer (some ⟨j, o, none⟩)) := by
 intro u hu
 cases hu with
 | pure _ hp => simp [isP] at hp
 | ptr hL => exact .ptr (h _ hL)
theorem Trans.slice {i j o n c : Nat} (h : ∀ L, ρ i = some L → ρ' j = some L) : Trans ρ ρ' (.slice (some ⟨i, o, none⟩) n c) (.slice (some ⟨j, o, none⟩) n c) := by
 intro u hu
 cases hu with
 | pure _ hp => simp [isP] at hp
 | sliceX hL a b => exact .sliceX (h _ hL) a b
 | sliceO hL a b => exact .sliceO (h _ hL) a b
 | sliceE hL a => exact .sliceE (h _ hL) a
theorem Trans.map {i j : Nat} (h : ∀ L, ρ i = some L → ρ' j = some L) : Trans ρ ρ' (.map (some i)) (.map (some j)) := by
 intro u hu
 cases hu with
 | pure _ hp => simp [isP] at hp
 | map hL => exact .map (h _ hL)
theorem PureV.int (k : IntKind) (n : Int) : PureV (.int k n) := fun ρ u h => by rw [h.int_inv]; exact .int _ _
theorem PureV.bool (b : Bool) : PureV (.bool b) := fun ρ u h => by rw [h.bool_inv]; exact .bool _
theorem PureV.string (s : ByteArray) : PureV (.string s) := fun ρ u h => by rw [h.string_inv]; exact .string _
theorem PureV.slice0 : PureV (.slice none 0 0) := fun ρ u h => by rw [h.slice0_inv]; exact .slice0
theorem PureV.map0 : PureV (.map none) := fun ρ u h => by rw [h.map0_inv]; exact .map0
theorem PureV.ptr0 : PureV (.pointer none) := fun ρ u h => by
 cases h with
 | pure _ hp => simp [isP] at hp
 | ptr0 => exact .ptr0
theorem PureV.nilFunc : PureV .nilFunc := fun ρ u h => by
 cases h with
 | pure _ hp => simp [isP] at hp
 | nilFunc => exact .nilFunc
theorem PureV.nilIface : PureV .nilIface := fun ρ u h => by
 cases h with
 | pure _ hp => simp [isP] at hp
 | nilIface => exact .nilIface
theorem PureV.lst (k : Nat) (nm : String) (ex : Bool) (es : Array Value) : PureV (.func (.methodOf k nm) #[.bool ex] es) := fun ρ u h => by
 cases h with
 | pure h _ => exact h
 | func hf => simp [isFn] at hf
theorem Trans.untok (k τ : Nat) (es : Array Value) : Trans ρ ρ (tls k τ es) (Vx.lst k false es) := fun u h => by
 cases h with
 | pure h _ => cases h with
  | func hf => simp [isFn] at hf
 | tok h _ _ => exact .pure h rfl
 | func hf => simp [isFn] at hf
theorem Trans.tok {k τ τ' : Nat} {es : Array Value} (hm : ∀ b o, ρ.mem b = some o → ∃ o', ρ'.mem b = some o' ∧ Pre o o') (h : ∀ T, ρ.tok τ = some T → ρ'.tok τ' = some T) : Trans ρ ρ' (tls k τ es) (tls k τ' es) := fun u hu => by
 cases hu with
 | pure h _ => cases h with
  | func hf => simp [isFn] at hf
 | tok h1 hT ha => exact .tok (h1.mono hm) (h _ hT) ha
 | func hf => simp [isFn] at hf
theorem PureV.fpt (o : Nat) (f es : Array Value) : PureV (.func (.yield o) f es) := fun ρ u h => by
 cases h with
 | pure h _ => exact h
 | func hf => simp [isFn] at hf
theorem arrP {a c : Array Value} (h : PureL a.toList) (h2 : ∀ (i : Nat) (v v' : Value), a[i]? = some v → c[i]? = some v' → VRel ρ v v') :
  ∀ (i : Nat) (v v' : Value), a[i]? = some v → c[i]? = some v' → PRel ρ.mem v v' :=
 fun i v v' hv hv' => h.mem v (by rw [Array.mem_toList_iff]; exact Array.mem_of_getElem? hv) ρ v' (h2 i v v' hv hv')
theorem PureV.agg {a : Array Value} (h : PureL a.toList) : PureV (.agg a) := fun ρ u hu => by
 cases hu with
 | pure _ hp => simp [isP] at hp
 | agg h1 h2 => exact .agg h1 (arrP h h2)
theorem PureV.tuple {a : Array Value} (h : PureL a.toList) : PureV (.tuple a) := fun ρ u hu => by
 cases hu with
 | pure _ hp => simp [isP] at hp
 | tuple h1 h2 => exact .tuple h1 (arrP h h2)
theorem PureV.iface {t : TypeId} {v : Value} (h : PureV v) : PureV (.iface t v) := fun ρ u hu => by
 cases hu with
 | pure _ hp => simp [isP] at hp
 | iface h1 => exact .iface (h _ _ h1)
theorem PureV.func {f : FuncId} {a c : Array Value} (h : PureL a.toList) (k : PureL c.toList) : PureV (.func (.func f) a c) := fun ρ u hu => by
 cases hu with
 | pure _ hp => simp [isP] at hp
 | func h0 h1 h2 h3 h4 => exact .func h0 h1 (arrP h h2) h3 (arrP k h4)
end
def SlotsTo (ρ ρ' : Rho) (t : Tm) : Tm → Prop
 | .nil => True
 | .put i v r => (t.has i = true ∧ Trans ρ ρ' (t.get i) v) ∧ SlotsTo ρ ρ' t r
theorem SlotsTo.at_ {ρ ρ' : Rho} {t : Tm} : ∀ {t' : Tm}, SlotsTo ρ ρ' t t' → ∀ i, t'.has i = true → t.has i = true ∧ Trans ρ ρ' (t.get i) (t'.get i)
 | .nil, _, i, h => by simp [Tm.has] at h
 | .put j v r, h, i, hi => by
  by_cases e : i = j
  ·subst e
   rw [Tm.put_same]
   exact h.1
  ·have hg := Tm.gh_other (d := j) (i := i) v r (Ne.symm e)
   rw [Tm.gh_get hg]
   rw [Tm.gh_has hg] at hi
   exact SlotsTo.at_ h.2 i hi
section
variable {P : Program} {w0 : World} {S : Own} {nt : Nat} {K : Cont} {t t' : Tm} {σ σ' : AW} {m : FrameMode}
theorem SRel.chg {cs : List Frame} {ρ ρ' : Rho} {a : Act} {w : World} (hs : SRel w0 S false nt cs ρ ⟨t, [], m, σ⟩ a cs w) (hR : R w0 S σ' ρ' w) (ht : SlotsTo ρ ρ' t t') : SRel w0 S false nt cs ρ' ⟨t', [], m, σ'⟩ a cs w := by
 refine ⟨⟨hs.t.size, fun i hi hh => ?_⟩, ?_, rfl, hR⟩
 ·obtain ⟨h1, h2⟩ := ht.at_ i hh
  exact h2 _ (hs.t.at_ i hi h1)
 ·have := hs.ds
  cases hd : a.defers with
  | nil => trivial
  | cons d l => rw [hd] at this; exact this.elim
theorem H.chg {c : Code} (h : ∀ ρ w, R w0 S σ ρ w → ∃ ρ', R w0 S σ' ρ' w ∧ SlotsTo ρ ρ' t t') (hk : H P w0 S nt c ⟨t', [], m, σ'⟩ K) : H P w0 S nt c ⟨t, [], m, σ⟩ K := by
 intro ρ a cs w hs
 obtain ⟨ρ', hR, ht⟩ := h ρ w hs.r
 exact hk ρ' a cs w (hs.chg hR ht)
theorem HL.chg {c : Code} (h : ∀ ρ w, R w0 S σ ρ w → ∃ ρ', R w0 S σ' ρ' w ∧ SlotsTo ρ ρ' t t') (hk : HL P w0 S nt c ⟨t', [], m, σ'⟩ K) : HL P w0 S nt c ⟨t, [], m, σ⟩ K := by
 intro ρ a cs w hs
 obtain ⟨ρ', hR, ht⟩ := h ρ w hs.r
 exact hk ρ' a cs w (hs.chg hR ht)
theorem HO.chg {ops : Array Oper} {i : Nat} (h : ∀ ρ w, R w0 S σ ρ w → ∃ ρ', R w0 S σ' ρ' w ∧ SlotsTo ρ ρ' t t') (hk : HO P w0 S nt ops i ⟨t', [], m, σ'⟩ K) : HO P w0 S nt ops i ⟨t, [], m, σ⟩ K := by
 intro hops ρ a cs w hs
 obtain ⟨ρ', hR, ht⟩ := h ρ w hs.r
 exact hk hops ρ' a cs w (hs.chg hR ht)
def Sub (t : Tm) : Tm → Prop
 | .nil => True
 | .put i v r => (t.has i = true ∧ t.get i = v) ∧ Sub t r
theorem Sub.to {ρ : Rho} : ∀ {t' : Tm}, Sub t t' → SlotsTo ρ ρ t t'
 | .nil, _ => trivial
 | .put i v r, h => ⟨⟨h.1.1, by rw [h.1.2]; exact .refl v⟩, Sub.to h.2⟩
end
def Rho.frz (ρ : Rho) (b : Nat) (c : Array Value) : Rho := ⟨ρ.loc, fun x => if x = b then some c else ρ.mem x, ρ.tok⟩
section
variable {w0 : World} {S : Own} {σ : AW} {ρ : Rho} {w : World}
theorem R.freeze (h : R w0 S σ ρ w) {id : Nat} {L : Loc} {o : AObj} {ca : Array Value} {ce : TypeId} {fr : Nat × Nat} (hL : ρ id = some L) (hg : σ.get id = some o) (hc : w.heap[L.blk]? = some (.cells ca ce fr)) : ρ.le (ρ.frz L.blk ca) ∧ R w0 S (σ.drop id) (ρ.frz L.blk ca) w := by
 have hlt := h.lt hL
 have lim := h.lim
 have hle : ρ.le (ρ.frz L.blk ca) := ⟨fun _ _ e => e, fun b o' e => by
  simp only [Rho.frz]
  split
  ·rename_i hb
   subst hb
   exact absurd rfl (h.memApart _ _ _ _ _ e hlt hg hL)
  ·exact ⟨o', e, Pre.refl _⟩, fun _ _ e => e⟩
 have hd := h.drop id hlt
 refine ⟨hle, ?_⟩
 exact
  {base := Rho.le_trans h.base hle, spec := h.spec, pins := h.pins, pinInj := h.pinInj, pinVal := h.pinVal, pinApart := hd.pinApart
   mem := fun b o' e => by
    simp only [Rho.frz] at e
    split at e
    ·rename_i hb; subst hb; cases e; exact ⟨ca, ce, fr, hc, Pre.refl _⟩
    ·exact h.mem b o' e
   memApart := by
    intro b o' j oj M e hj ej hM
    have hne : id ≠ j := by
     intro e'
     subst e'
     rw [get_drop (by omega) (by omega), if_pos rfl] at ej
     exact absurd ej (by simp)
    have ej' : σ.get j = some oj := by
     rw [get_drop (by omega) (by have : j < σ.next := hj; omega), if_neg hne] at ej
     exact ej
    simp only [Rho.frz] at e
    split at e
    ·rename_i hb
     subst hb
     intro e'
     exact hne (h.apart id j o oj L M hlt hj hg ej' hL hM e'.symm)
    ·exact h.memApart b o' j oj M e hj ej' hM
   memNew := by
    intro b o' e
    simp only [Rho.frz] at e
    split at e
    ·rename_i hb; subst hb; exact .inr (h.at hL hg).1
    ·exact h.memNew b o' e
   memBase := fun b o' e hn => by
    have : b ≠ L.blk := fun x => hn (x ▸ (h.at hL hg).1)
    simp only [Rho.frz, this, if_false]
    exact h.memBase b o' e hn
   tok := fun τ ht => by
    obtain ⟨h1, T, h2, h3⟩ := h.tok τ ht
    refine ⟨h1, T, h2, fun U e => ?_⟩
    obtain ⟨q1, a, c, fr', q2, q3, q4, q5⟩ := h3 U e
    have hne : U.blk ≠ L.blk := fun x => h.memApart _ _ id o L q2 hlt hg hL x.symm
    exact ⟨q1, a, c, fr', by simp only [Rho.frz, hne, if_false]; exact q2, q3, q4, q5⟩
   tokInj := h.tokInj, tokDom := h.tokDom, tokPin := h.tokPin, tokNd := h.tokNd
   os := h.os, tape := h.tape, output := h.output, size := h.size, block := h.block, own := h.own, dom := h.dom, lim := h.lim
   obj := fun j p hj ej => by
    obtain ⟨M, e1, e2, e3⟩ := hd.obj j p hj ej
    exact ⟨M, e1, e2, e3.mono hle⟩
   exact := hd.exact, apart := hd.apart }
theorem flat_at {k : Nat} : ∀ {l : List Value}, (∀ (i : Nat) (v : Value), l[i]? = some v → v.cells.size = k) → ∀ {i j : Nat} {v u : Value}, l[i]? = some v → v.cells[j]? = some u → (l.flatMap fun v => v.cells.toList)[i * k + j]? = some u
 | [], _, i, j, v, u, e, _ => by simp at e
 | x :: l, h, i, j, v, u, e, e2 => by
  have h1 := h 0 x rfl
  rw [List.flatMap_cons]
  cases i with
  | zero =>
   simp at e
   subst e
   have hj := (Array.getElem?_eq_some_iff.1 e2).1
   rw [Nat.zero_mul, Nat.zero_add, List.getElem?_append_left (by simpa using hj), Array.getElem?_toList]
   exact e2
  | succ i =>
   have ih := flat_at (l := l) (fun i u e => h (i + 1) u e) (i := i) (by simpa using e) e2
   rw [List.getElem?_append_right (by rw [Array.length_toList, h1, Nat.add_mul]; omega), Array.length_toList, h1]
   rw [← ih]
   congr 1
   rw [Nat.add_mul]
   omega
theorem VRel.freeze (h : R w0 S σ ρ w) {id : Nat} {L : Loc} {cs : List Value} {e k n c : Nat} {u : Value} {es : Array Value} (hL : ρ id = some L) (hg : σ.get id = some (.cells cs e k))
  (hv : VRel ρ (.slice (some ⟨id, 0, none⟩) n c) u) (hn : es.size = n) (hcs : cs = flatL es) (hs : ∀ (i : Nat) (v : Value), es[i]? = some v → v.cells.size = k) (hp : ∀ x, x ∈ cs → PureV x) (ex : Bool) (hex : ex = true → c = n ∧ c ≤ 2 ^ 64) (hne : c ≠ EMPTY)
  {ca : Array Value} {ce : TypeId} {fr : Nat × Nat} (hh : w.heap[L.blk]? = some (.cells ca ce fr)) : VRel (ρ.frz L.blk ca) (lst k ex es) u := by
 obtain ⟨ca2, ce2, fr2, hh2, d1, d2, d3, d4, d5⟩ := cells_of h hL hg
 rw [hh] at hh2
 cases hh2
 obtain ⟨hle, _⟩ := h.freeze hL hg hh
 have hs' : ∀ (i : Nat) (v : Value), es.toList[i]? = some v → v.cells.size = k := fun i v e => hs i v (by rwa [Array.getElem?_toList] at e)
 have hlen : cs.length = es.size * k := by rw [hcs]; unfold flatL; rw [flat_len hs']; simp
 have main : ∀ c', n ≤ c' → (ex = true → c' = n) → VRel (ρ.frz L.blk ca) (lst k ex es) (.slice (some ⟨L.blk, L.off + 0, none⟩) n c') := by
  intro c' h1 h2
  refine .pure ?_ rfl
  have := PRel.lst (M := (ρ.frz L.blk ca).mem) (k := k) (nm := "") (ex := ex) (es := es) (A := some ⟨L.blk, L.off + 0, none⟩) (c := c') (g := fun q => (ca[L.off + q]?).getD undef) (by omega) (fun h => by
   have := h2 h
   omega) (fun e => by simp at e) hs (fun _ => ⟨_, rfl, fun j hj => ?_⟩) (fun i v j x hi hj => ?_)
  ·rw [hn] at this
   exact this
  ·have hj' : j < cs.length := by omega
   obtain ⟨v', hv', _⟩ := d5 j _ (List.getElem?_eq_getElem hj')
   rw [add_none]
   unfold memCell
   simp only [Rho.frz, if_true, Nat.add_zero]
   rw [hv']
   rfl
  ·have hx : cs[i * k + j]? = some x := by
    rw [hcs]
    exact flat_at hs' (by rw [Array.getElem?_toList]; exact hi) hj
   obtain ⟨v', hv', hr⟩ := d5 _ _ hx
   rw [hv']
   exact ((hp x (List.mem_of_getElem? hx)) ρ v' hr).mono hle.mem
 cases hv with
 | pure _ hpp => exact absurd hpp (by simp [isP])
 | @sliceX _ _ _ _ L2 hL2 hc hn2 =>
  rw [hL] at hL2
  cases hL2
  exact main c hn2 (fun h => (hex h).1)
 | @sliceO _ _ _ c2 L2 hL2 hn2 hc =>
  rw [hL] at hL2
  cases hL2
  refine main c2 hn2 (fun h => ?_)
  exact absurd (hex h).2 open_big
 | sliceE => exact absurd rfl hne
theorem R.tokenize (h : R w0 S σ ρ w) {id : Nat} {cs : List Value} {e k n c : Nat} {es : Array Value} (hid : id < σ.next) (hg : σ.get id = some (.cells cs e k)) (hlt : σ.next < 2 ^ D)
  (hn : es.size = n) (hcs : cs = flatL es) (hs : ∀ (i : Nat) (v : Value), es[i]? = some v → v.cells.size = k) (hp : ∀ x, x ∈ cs → PureV x) (hc : c = OPEN ∨ (c * k ≤ cs.length ∧ c ≤ 2 ^ 64)) :
  ∃ ρ', ρ.le ρ' ∧ R w0 S ((σ.drop id).newTok σ.toks) ρ' w ∧ Trans ρ ρ' (.slice (some ⟨id, 0, none⟩) n c) (tls k σ.next es) := by
 obtain ⟨L, hL, hS, _⟩ := h.obj id _ hid hg
 obtain ⟨ca, ce, fr, hh, d1, d2, d3, d4, d5⟩ := cells_of h hL hg
 have lim := h.lim
 have hd := h.drop id hid
 have hs' : ∀ (i : Nat) (v : Value), es.toList[i]? = some v → v.cells.size = k := fun i v e => hs i v (by rwa [Array.getElem?_toList] at e)
 have hlen : cs.length = es.size * k := by rw [hcs]; unfold flatL; rw [flat_len hs']; simp
 obtain ⟨pfx, hpfx⟩ : ∃ pfx : Array Value, pfx = ca.extract 0 (L.off + cs.length) := ⟨_, rfl⟩
 have hpsz : pfx.size = L.off + cs.length := by rw [hpfx]; simp; omega
 have hpget : ∀ q, q < L.off + cs.length → pfx[q]? = ca[q]? := by
  intro q hq
  rw [hpfx, Array.getElem?_extract, if_pos (by omega), Nat.zero_add]
 have hstep := hd.tokStep (w' := w) (B := L.blk) (pfx := pfx) (row := ca) (te := ce) (fr := fr) (size := L.size) (toks := σ.toks) rfl rfl rfl (Nat.le_refl _) (fun _ _ _ => rfl) (fun b _ hge => Array.getElem?_eq_none hge) hh
  (fun j v hv => by
   have hj := (Array.getElem?_eq_some_iff.1 hv).1
   rw [hpget j (by omega)] at hv
   exact hv) d1 d4 hS (fun a e => absurd rfl (h.memApart _ _ id _ L e hid hg hL)) (fun j o M hj ej hM e => by
   have hne : id ≠ j := by
    intro e'
    subst e'
    rw [get_drop (by omega) (by omega), if_pos rfl] at ej
    exact absurd ej (by simp)
   rw [get_drop (by omega) (by have : j < σ.next := hj; omega), if_neg hne] at ej
   exact hne (h.apart id j _ o L M hid hj hg ej hL hM e.symm)) (fun j M p e1 e2 e => h.pinApart j M p id _ L e1 e2 hid hg hL e.symm) (fun _ e => e) h.tokNd (fun τ U ht hU e => by
   obtain ⟨_, T2, q2, q3⟩ := h.tok τ ht
   rw [hU] at q2
   cases q2
   obtain ⟨_, a2, c2, fr2, q4, _⟩ := q3 U rfl
   exact h.memApart _ _ id _ L q4 hid hg hL e.symm) hlt
 refine ⟨_, hstep.1, hstep.2, fun u hu => ?_⟩
 have main : ∀ c', n ≤ c' → L.off + c' * k ≤ L.size → VRel (ρ.grown L.blk pfx σ.next ⟨L.blk, pfx.size, L.size, ce⟩) (tls k σ.next es) (.slice (some ⟨L.blk, L.off + 0, none⟩) n c') := by
  intro c' h1 h2
  have hP := PRel.lst (M := (ρ.grown L.blk pfx σ.next ⟨L.blk, pfx.size, L.size, ce⟩).mem) (k := k) (nm := "") (ex := false) (es := es) (A := some ⟨L.blk, L.off + 0, none⟩) (c := c') (g := fun q => (ca[L.off + q]?).getD undef) (by omega) (fun h => by simp at h) (fun e => by simp at e) hs (fun _ => ⟨_, rfl, fun j hj => by
    have hj' : j < cs.length := by omega
    obtain ⟨v', hv', _⟩ := d5 j _ (List.getElem?_eq_getElem hj')
    rw [add_none]
    unfold memCell
    simp only [Rho.grown, if_true, Nat.add_zero]
    rw [hpget _ (by omega), hv']
    rfl⟩) (fun i v j x hi hj => by
    have hx : cs[i * k + j]? = some x := by
     rw [hcs]
     exact flat_at hs' (by rw [Array.getElem?_toList]; exact hi) hj
    obtain ⟨v', hv', hr⟩ := d5 _ _ hx
    rw [hv']
    exact ((hp x (List.mem_of_getElem? hx)) ρ v' hr).mono hstep.1.mem)
  rw [hn] at hP
  exact .tok (T := some ⟨L.blk, pfx.size, L.size, ce⟩) hP (by simp [Rho.grown]) ⟨L.off + 0, rfl, by simp only [hpsz, hlen, hn]; omega, by simp only [Nat.add_zero]; exact h2⟩
 cases hu with
 | pure _ hpp => exact absurd hpp (by simp [isP])
 | @sliceX _ _ _ _ L2 hL2 hc2 hn2 =>
  rw [hL] at hL2
  cases hL2
  rcases hc with hc | ⟨hc, _⟩
  ·subst hc; exact absurd hc2 open_big
  ·exact main c hn2 (by omega)
 | @sliceO _ _ _ c2 L2 hL2 hn2 hc2 =>
  rw [hL] at hL2
  cases hL2
  exact main c2 hn2 (by rw [d2] at hc2; omega)
 | sliceE =>
  rcases hc with hc | ⟨_, hc⟩
  ·exact absurd hc.symm open_empty
  ·exact absurd hc empty_big
theorem R.tokNil (h : R w0 S σ ρ w) (hlt : σ.next < 2 ^ D) : ∃ ρ', ρ.le ρ' ∧ R w0 S (σ.newTok σ.toks) ρ' w ∧ (∀ k, Trans ρ ρ' (.slice none 0 0) (tls k σ.next #[])) ∧ ∀ k es, Trans ρ ρ' (lst k true es) (tls k σ.next es) := by
 obtain ⟨ρ', hρ⟩ : ∃ ρ' : Rho, ρ' = ⟨ρ.loc, ρ.mem, fun j => if j = σ.next then some none else ρ.tok j⟩ := ⟨_, rfl⟩
 have hle : ρ.le ρ' := by
  subst hρ
  refine ⟨fun _ _ e => e, fun b o e => ⟨o, e, Pre.refl _⟩, fun i T e => ?_⟩
  simp only
  split
  ·rename_i hi; subst hi; rw [h.tokDom _ (Nat.le_refl _)] at e; exact absurd e (by simp)
  ·exact e
 have hg : ∀ j p, j < σ.next + 1 → (σ.newTok σ.toks).get j = some p → j < σ.next ∧ σ.get j = some p := by
  intro j p hj e
  unfold AW.newTok AW.get at e
  simp only at e
  by_cases x : j = σ.next
  ·subst x
   rw [Tr.get_set_same] at e
   exact absurd e (by simp)
  ·rw [Tr.get_set_other _ _ _ _ _ hlt (by omega) (Ne.symm x)] at e
   exact ⟨by omega, e⟩
 have hT : ρ'.tok σ.next = some none := by subst hρ; simp
 refine ⟨ρ', hle, ?_, fun k u hu => ?_, fun k es u hu => ?_⟩
 ·have hl : ρ'.loc = ρ.loc := by subst hρ; rfl
  have hm : ρ'.mem = ρ.mem := by subst hρ; rfl
  exact
   {base := Rho.le_trans h.base hle
    spec := by rw [hl]; exact h.spec
    pins := by rw [hl]; exact h.pins
    pinInj := by rw [hl]; exact h.pinInj
    pinVal := by rw [hl]; exact h.pinVal
    pinApart := fun i L o j oj M e1 e2 hj ej hM => by
     obtain ⟨x, y⟩ := hg j oj hj ej
     rw [hl] at e1 hM
     exact h.pinApart i L o j oj M e1 e2 x y hM
    mem := by rw [hm]; exact h.mem
    memApart := fun b a j oj M e hj ej hM => by
     obtain ⟨x, y⟩ := hg j oj hj ej
     rw [hl] at hM
     rw [hm] at e
     exact h.memApart b a j oj M e x y hM
    memNew := by rw [hm]; exact h.memNew
    memBase := by rw [hm]; exact h.memBase
    tok := fun τ ht => by
     simp only [AW.newTok] at ht
     rcases List.mem_cons.1 ht with rfl | ht
     ·exact ⟨Nat.lt_succ_self _, none, hT, fun U e => by simp at e⟩
     ·obtain ⟨q1, T, q2, q3⟩ := h.tok τ ht
      exact ⟨Nat.lt_succ_of_lt q1, T, hle.tok _ _ q2, fun U e => by rw [hm]; exact q3 U e⟩
    tokInj := fun τ τ' T T' ht ht' e e' hb => by
     simp only [AW.newTok] at ht ht'
     rcases List.mem_cons.1 ht with rfl | ht
     ·rw [hT] at e; simp at e
     ·rcases List.mem_cons.1 ht' with rfl | ht'
      ·rw [hT] at e'; simp at e'
      ·have h1 : τ ≠ σ.next := by have := (h.tok τ ht).1; omega
       have h2 : τ' ≠ σ.next := by have := (h.tok τ' ht').1; omega
       subst hρ
       simp only [h1, h2, if_false] at e e'
       exact h.tokInj τ τ' T T' ht ht' e e' hb
    tokDom := fun i hi => by
     have hi' : σ.next + 1 ≤ i := hi
     have : i ≠ σ.next := by omega
     subst hρ
     simp only [this, if_false]
     exact h.tokDom i (by omega)
    tokPin := fun τ U i L o ht hU e1 e2 => by
     simp only [AW.newTok] at ht
     rcases List.mem_cons.1 ht with rfl | ht
     ·rw [hT] at hU; simp at hU
     ·have h1 : τ ≠ σ.next := by have := (h.tok τ ht).1; omega
      rw [hl] at e1
      subst hρ
      simp only [h1, if_false] at hU
      exact h.tokPin τ U i L o ht hU e1 e2
    tokNd := by
     simp only [AW.newTok]
     rw [List.nodup_cons]
     exact ⟨fun e => by have := (h.tok _ e).1; omega, h.tokNd⟩
    os := h.os, tape := h.tape, output := h.output, size := h.size, own := h.own, block := h.block
    dom := fun i hi => by rw [hl]; exact h.dom i (Nat.le_of_succ_le hi)
    lim := hlt
    obj := fun j p hj e => by
     obtain ⟨x, y⟩ := hg j p hj e
     obtain ⟨M, e1, e2, e3⟩ := h.obj j p x y
     exact ⟨M, hle _ _ e1, e2, e3.mono hle⟩
    exact := fun j cs e k L hj ej hL he => by
     obtain ⟨x, y⟩ := hg j _ hj ej
     rw [hl] at hL
     exact h.exact j cs e k L x y hL he
    apart := fun a b oa ob La Lb ha hb ea eb => by
     obtain ⟨xa, ya⟩ := hg a oa ha ea
     obtain ⟨xb, yb⟩ := hg b ob hb eb
     rw [hl]
     exact h.apart a b oa ob La Lb xa xb ya yb }
 ·rw [hu.slice0_inv]
  refine .tok (T := none) ?_ hT rfl
  have := PRel.lst (M := ρ'.mem) (k := k) (nm := "") (ex := false) (es := #[]) (A := none) (c := 0) (g := fun _ => undef) (by simp) (fun h => by simp at h) (fun _ => rfl) (fun i v h => by simp at h) (fun h => by simp at h) (fun i v j u h => by simp at h)
  exact this
 ·obtain ⟨A, c, g, rfl, h1, h2, h3, h4, h5, h6⟩ := hu.lst_inv
  have hc := h2 rfl
  subst hc
  refine .tok (T := none) ?_ hT rfl
  exact PRel.lst (by omega) (fun h => by simp at h) h3 h4 (fun h => let ⟨a, e, r⟩ := h5 h; ⟨a, e, fun j hj => memCell_mono hle.mem (r j hj)⟩) (fun i v j u a b => (h6 i v j u a b).mono hle.mem)
end
def Rho.ren (ρ : Rho) (f : Nat → Option Nat) : Rho := ⟨fun i => (f i).bind ρ.loc, ρ.mem, fun i => (f i).bind ρ.tok⟩
def EntT (ρ ρ' : Rho) : List MapEntry → List MapEntry → Prop
 | [], [] => True
 | x :: xs, y :: ys => (y.born = x.born ∧ Trans ρ ρ' x.key y.key ∧ Trans ρ ρ' x.val y.val) ∧ EntT ρ ρ' xs ys
 | _, _ => False
def OTrans (ρ ρ' : Rho) : AObj → AObj → Prop
 | .cells cs e k, .cells cs' e' k' => e' = e ∧ k' = k ∧ TransL ρ ρ' cs cs'
 | .map es c, .map es' c' => c' = c ∧ EntT ρ ρ' es es'
 | _, _ => False
theorem EntT.len {ρ ρ' : Rho} : ∀ {a b : List MapEntry}, EntT ρ ρ' a b → a.length = b.length
 | [], [], _ => rfl
 | _ :: _, _ :: _, h => by simp [EntT.len h.2]
 | [], _ :: _, h => h.elim
 | _ :: _, [], h => h.elim
theorem EntT.at_ {ρ ρ' : Rho} : ∀ {a b : List MapEntry}, EntT ρ ρ' a b → ∀ (i : Nat) (v v' : MapEntry), a[i]? = some v → b[i]? = some v' → v'.born = v.born ∧ Trans ρ ρ' v.key v'.key ∧ Trans ρ ρ' v.val v'.val
 | [], [], _, i, v, v', h, _ => by simp at h
 | x :: xs, y :: ys, h, i, v, v', hv, hv' => by
  cases i with
  | zero => simp at hv hv'; subst hv; subst hv'; exact h.1
  | succ i => exact EntT.at_ h.2 i v v' (by simpa using hv) (by simpa using hv')
 | [], _ :: _, h, _, _, _, _, _ => h.elim
 | _ :: _, [], h, _, _, _, _, _ => h.elim
theorem ORel.trans {ρ ρ' : Rho} {L : Loc} {o o' : AObj} {p : Option Obj} (h : ORel ρ L o p) (ht : OTrans ρ ρ' o o') : ORel ρ' L o' p := by
 cases o with
 | cells cs e k =>
  cases o' with
  | cells cs' e' k' =>
   obtain ⟨rfl, rfl, ht⟩ := ht
   cases p with
   | none => exact h.elim
   | some q =>
    cases q with
    | cells c tc fr =>
     obtain ⟨h1, h2, h3, h4, h5, h6⟩ := h
     have hl := ht.len
     refine ⟨h1, h2, h3, by omega, h5, fun i v hv => ?_⟩
     have hi : i < cs.length := by have := (List.getElem?_eq_some_iff.1 hv).1; omega
     obtain ⟨v', e1, e2⟩ := h6 i cs[i] (List.getElem?_eq_getElem hi)
     exact ⟨v', e1, ht.at_ i _ _ (List.getElem?_eq_getElem hi) hv _ e2⟩
    | _ => exact h.elim
  | _ => exact ht.elim
 | map es c =>
  cases o' with
  | map es' c' =>
   obtain ⟨rfl, ht⟩ := ht
   cases p with
   | none => exact h.elim
   | some q =>
    cases q with
    | map es2 c2 =>
     obtain ⟨h1, h2, h3⟩ := h
     have hl := ht.len
     refine ⟨h1, by omega, fun i v v' hv hv' => ?_⟩
     have hi : i < es.length := by have := (List.getElem?_eq_some_iff.1 hv).1; omega
     obtain ⟨a, b, c⟩ := h3 i es[i] v' (List.getElem?_eq_getElem hi) hv'
     obtain ⟨x, y, z⟩ := ht.at_ i _ _ (List.getElem?_eq_getElem hi) hv
     exact ⟨x.trans a, y _ b, z _ c⟩
    | _ => exact h.elim
  | _ => exact ht.elim
 | _ => cases o' <;> exact ht.elim
def ObjsTo (ρ ρ' : Rho) (σ σ' : AW) : List Nat → Nat → Prop
 | [], _ => True
 | j :: m, i => (match σ'.get i with
   | none => True
   | some o' => ∃ o, σ.get j = some o ∧ OTrans ρ ρ' o o') ∧ ObjsTo ρ ρ' σ σ' m (i + 1)
theorem ObjsTo.at_ {ρ ρ' : Rho} {σ σ' : AW} : ∀ {m : List Nat} {i0 : Nat}, ObjsTo ρ ρ' σ σ' m i0 → ∀ i j o', m[i]? = some j → σ'.get (i0 + i) = some o' → ∃ o, σ.get j = some o ∧ OTrans ρ ρ' o o'
 | [], _, _, i, j, o', h, _ => by simp at h
 | x :: m, i0, h, i, j, o', hj, ho => by
  cases i with
  | zero =>
   simp at hj
   subst hj
   have h1 := h.1
   rw [Nat.add_zero] at ho
   rw [ho] at h1
   exact h1
  | succ i => exact ObjsTo.at_ h.2 i j o' (by simpa using hj) (by rw [← ho]; congr 1; omega)
theorem R.ren {w0 : World} {S : Own} {σ σ' : AW} {ρ : Rho} {w : World} (h : R w0 S σ ρ w) {n0 : Nat} (hb : ∀ i L, S.base i = some L → i < n0) (hbt : ∀ i T, S.base.tok i = some T → i < n0) (hx : ∀ e, ¬ S.exact e) (hsp : ∀ i L, ¬ S.spec i L) (m : List Nat) (hlen : σ'.next = m.length)
  (hn0 : (List.range n0).all (fun i => decide (m[i]? = some i)) = true) (hnd : m.Nodup) (hlt : m.all (fun j => decide (j < σ.next)) = true) (hlim : m.length ≤ 2 ^ D) (htk : σ'.toks.all (fun i => match m[i]? with | some j => σ.toks.contains j | none => false) = true) (htn : σ'.toks.Nodup) (ho : ObjsTo ρ (ρ.ren (fun i => m[i]?)) σ σ' m 0) :
  R w0 S σ' (ρ.ren (fun i => m[i]?)) w := by
 have inv : ∀ {i : Nat} {L : Loc}, (ρ.ren (fun i => m[i]?)) i = some L → ∃ j, m[i]? = some j ∧ ρ j = some L := by
  intro i L e
  simp only [Rho.ren] at e
  cases hm : m[i]? with
  | none => rw [hm] at e; simp at e
  | some j => rw [hm] at e; exact ⟨j, rfl, e⟩
 have invt : ∀ {τ : Nat}, τ ∈ σ'.toks → ∃ j, m[τ]? = some j ∧ j ∈ σ.toks := by
  intro τ ht
  rw [List.all_eq_true] at htk
  have := htk τ ht
  split at this
  ·rename_i j hj; exact ⟨j, hj, List.contains_iff_mem.1 this⟩
  ·exact absurd this (by simp)
 have inj : ∀ {i i' j : Nat}, m[i]? = some j → m[i']? = some j → i = i' := by
  intro i i' j e e'
  obtain ⟨h1, e1⟩ := List.getElem?_eq_some_iff.1 e
  obtain ⟨h2, e2⟩ := List.getElem?_eq_some_iff.1 e'
  exact (List.getElem_inj hnd).1 (e1.trans e2.symm)
 have hobj : ∀ i o', i < σ'.next → σ'.get i = some o' → ∃ j o L, m[i]? = some j ∧ j < σ.next ∧ σ.get j = some o ∧ ρ j = some L ∧ (ρ.ren (fun i => m[i]?)) i = some L ∧ OTrans ρ (ρ.ren (fun i => m[i]?)) o o' := by
  intro i o' hi e
  have him : i < m.length := by omega
  have hj : m[i]? = some m[i] := List.getElem?_eq_getElem him
  obtain ⟨o, e1, e2⟩ := ho.at_ i _ o' hj (by rw [Nat.zero_add]; exact e)
  have hjl : m[i] < σ.next := by
   rw [List.all_eq_true] at hlt
   simpa using hlt m[i] (List.getElem_mem him)
  obtain ⟨L, e3, _⟩ := h.obj _ o hjl e1
  exact ⟨_, o, L, hj, hjl, e1, e3, by simp only [Rho.ren, hj]; exact e3, e2⟩
 exact
  {base := ⟨fun i L e => by
    have hi := hb i L e
    rw [List.all_eq_true] at hn0
    have : m[i]? = some i := by simpa using hn0 i (by simp [hi])
    simp only [Rho.ren, this]
    exact h.base i L e, h.base.mem, fun i T e => by
    have hi := hbt i T e
    rw [List.all_eq_true] at hn0
    have : m[i]? = some i := by simpa using hn0 i (by simp [hi])
    simp only [Rho.ren, this]
    exact h.base.tok i T e⟩
   spec := fun i L v e ev => by
    obtain ⟨j, _, e2⟩ := inv e
    exact absurd (h.spec j L v e2 ev) (hsp j L)
   pins := fun i L o e ep => by
    obtain ⟨j, e1, e2⟩ := inv e
    exact h.pins j L o e2 ep
   pinInj := fun i i' L M o q e e' ep eq eb => by
    obtain ⟨j, e1, e2⟩ := inv e
    obtain ⟨j', e1', e2'⟩ := inv e'
    have := h.pinInj j j' L M o q e2 e2' ep eq eb
    subst this
    exact inj e1 e1'
   pinVal := fun i L o e ep => by
    obtain ⟨j, e1, e2⟩ := inv e
    exact h.pinVal j L o e2 ep
   pinApart := fun i L o j oj M e ep hj ej hM => by
    obtain ⟨a, e1, e2⟩ := inv e
    obtain ⟨b, o2, L2, q1, q2, q3, q4, q5, _⟩ := hobj j oj hj ej
    rw [hM] at q5
    cases q5
    exact h.pinApart a L o b o2 _ e2 ep q2 q3 q4
   mem := h.mem
   memApart := fun b o j oj M e hj ej hM => by
    obtain ⟨a, o2, L2, q1, q2, q3, q4, q5, _⟩ := hobj j oj hj ej
    rw [hM] at q5
    cases q5
    exact h.memApart b o a o2 _ e q2 q3 q4
   memNew := h.memNew
   memBase := h.memBase
   tok := fun τ ht => by
    obtain ⟨j, e1, e2⟩ := invt ht
    obtain ⟨q1, T, q2, q3⟩ := h.tok j e2
    exact ⟨by have := (List.getElem?_eq_some_iff.1 e1).1; omega, T, by simp only [Rho.ren, e1]; exact q2, q3⟩
   tokInj := fun τ τ' T T' ht ht' e e' hb => by
    obtain ⟨j, e1, e2⟩ := invt ht
    obtain ⟨j', e1', e2'⟩ := invt ht'
    simp only [Rho.ren, e1] at e
    simp only [Rho.ren, e1'] at e'
    have := h.tokInj j j' T T' e2 e2' e e' hb
    subst this
    exact inj e1 e1'
   tokDom := fun i hi => by
    simp only [Rho.ren]
    rw [List.getElem?_eq_none (by omega)]
    rfl
   tokPin := fun τ U i L o ht hU e1 e2 => by
    obtain ⟨j, q1, q2⟩ := invt ht
    obtain ⟨i', r1, r2⟩ := inv e1
    simp only [Rho.ren, q1] at hU
    exact h.tokPin j U i' L o q2 hU r2 e2
   tokNd := htn
   os := h.os, tape := h.tape, output := h.output, size := h.size, block := h.block, own := h.own
   dom := fun i hi => by
    simp only [Rho.ren]
    rw [List.getElem?_eq_none (by omega)]
    rfl
   lim := by omega
   obj := fun i o' hi e => by
    obtain ⟨j, o, L, q1, q2, q3, q4, q5, q6⟩ := hobj i o' hi e
    obtain ⟨a, b⟩ := h.at q4 q3
    exact ⟨L, q5, a, b.trans q6⟩
   exact := fun i cs e k L hi ei hL he => absurd he (hx e)
   apart := fun i i' oi oi' L L' hi hi' e e' hL hL' hb => by
    obtain ⟨j, o, M, q1, q2, q3, q4, q5, _⟩ := hobj i oi hi e
    obtain ⟨j', o', M', r1, r2, r3, r4, r5, _⟩ := hobj i' oi' hi' e'
    rw [hL] at q5
    cases q5
    rw [hL'] at r5
    cases r5
    have := h.apart j j' o o' _ _ q2 r2 q3 r3 q4 r4 hb
    subst this
    exact inj q1 r1 }
end Vx
end Go
set_option linter.unusedVariables false
set_option linter.unusedSimpArgs false
namespace Go
namespace Vx
open Go.RowKit (Below)
def KEnd (P : Program) (fn : Func) (Q : AEnd → AW → Prop) : Cont := fun x s => ∃ u n e1 σ1,
 (((x = .normal ∨ x = .ret) ∧ u = .returning) ∨ ∃ ch, x = .panic ch ∧ u = .panicking ch) ∧ leaves P (exec P .none Ext.none n true) fn s.tmps s.defers u s.σ = .ok (e1, σ1) ∧ Q e1 σ1
section
variable {P : Program} {w0 : World} {S : Own}
theorem calls_of_H [NoEx P S] {f : FuncId} {fn : Func} {code : Code} {args args' : Array Value} {σ : AW} {Q : AEnd → AW → Prop} (hf : P.funcs[f]? = some fn) (hcode : fn.body = some code) (hsz : Nat.ble args.size fn.ntmps = true)
  (h : H P w0 S fn.ntmps code ⟨Tm.fill args.toList 0, [], .run, σ⟩ (KEnd P fn Q)) {ρ : Rho} {w : World} (ha : ARel ρ args args') (hR : R w0 S σ ρ w) :
  Calls P f args' w fun e' w' => ∃ e1 σ1 ρ1, Q e1 σ1 ∧ ERel ρ1 e1 e' ∧ R w0 S σ1 ρ1 w' := by
 intro cs
 have hin : SRel w0 S false fn.ntmps cs ρ { tmps := Tm.fill args.toList 0, defers := [], mode := .run, σ := σ } { tmps := args' ++ Array.replicate (fn.ntmps - args'.size) undef, defers := [] } cs w :=
  ⟨start_rel ha (ble_t hsz), trivial, rfl, hR⟩
 have hW := h ρ _ cs w hin
 let b : Frame := { (default : Frame) with fn := f, kind := .normal }
 have henter : Frame.enter P f args' .normal = b.at { tmps := args' ++ Array.replicate (fn.ntmps - args'.size) undef, defers := [] } [.code code] := by
  simp [Frame.enter, Frame.at, hf, hcode, b]
 obtain ⟨e1, a1, cs1, w1, hq, harr⟩ := hW b [] rfl rfl
 rw [← henter] at harr
 obtain ⟨x, s, ρ1, ⟨u, n, e2, σ2, hxu, hl, hQ⟩, hx1, hT1, hds1, hcs1, hR1⟩ := hq
 have hcs1 : cs1 = cs := hcs1
 subst hcs1
 have hD : BodyOk P w0 S true (exec P .none Ext.none n true) := fun nt c s x s' h ρ a cs0 cs w hs => (exec_sound (FactsOk.none P S) (ExtOk.none P w0 S) n true nt c s x s' h ρ a cs0 cs w hs).1
 have fin : ∀ (u' : FrameMode) (todo : List Item), MoRel ρ1 u u' → Steps P (lone (Frame.enter P f args' .normal) cs1 w) (lone { b.at a1 todo with mode := u' } cs1 w1) →
   ∃ e' w' fr, (∃ e1 σ1 ρ1, Q e1 σ1 ∧ ERel ρ1 e1 e' ∧ R w0 S σ1 ρ1 w') ∧ Comes P (lone (Frame.enter P f args' .normal) cs1 w) (lone fr cs1 w') e' ∧ fr.fn = f ∧ fr.leaving P w' e' := by
  intro u' todo hmo hst
  have hL := leaves_sound hD s.defers u s.σ e2 σ2 hl ρ1 a1.defers u' w1 hT1 hds1 hmo hR1
  obtain ⟨e3, w2, fr2, hR2, hs2, hfn2, hl2⟩ := leaves_steps a1.defers u' w1 { b.at a1 todo with mode := u' } cs1 rfl rfl rfl hf rfl hL
  obtain ⟨ρ2, q1, q2, q3⟩ := hR2
  exact ⟨e3, w2, fr2, ⟨e2, σ2, ρ2, hQ, q2, q3⟩, Comes.of_steps hst hs2, hfn2, hl2⟩
 rcases hxu with ⟨hx, rfl⟩ | ⟨ch, rfl, rfl⟩
 ·have hx2 : e1 = .normal ∨ e1 = .ret := by
   rcases hx with rfl | rfl <;> cases e1 <;> first | exact .inl rfl | exact .inr rfl | exact hx1.elim
  rcases hx2 with rfl | rfl
  ·exact fin .returning [] trivial (Steps.trans harr (.one step_end))
  ·obtain ⟨todo, hs⟩ := harr
   exact fin .returning todo trivial hs
 ·cases e1 with
  | panic ch' =>
   obtain ⟨todo, hs⟩ := harr
   exact fin (.panicking ch') todo hx1 hs
  | _ => exact hx1.elim
end
structure Std (W0 w0 : World) (S : Own) (n0 : Nat) : Prop where
 ex : ∀ e, ¬ S.exact e
 sp : ∀ i L, ¬ S.spec i L
 base : ∀ i L, S.base i = some L → i < n0
 baseT : ∀ i T, S.base.tok i = some T → i < n0
 own : ∀ b, S b → W0.heap.size ≤ b
 below : Below W0.heap.size W0 w0
theorem Std.noEx {W0 w0 : World} {S : Own} {n0 : Nat} (h : Std W0 w0 S n0) (P : Program) : NoEx P S := ⟨fun _ e _ _ => h.ex e⟩
section
variable {P : Program} {W0 w0 : World} {S : Own} {n0 : Nat}
theorem R.belowW (hS : Std W0 w0 S n0) {σ : AW} {ρ : Rho} {w : World} (h : R w0 S σ ρ w) : Below W0.heap.size W0 w :=
 ⟨h.os.trans hS.below.os, h.tape.trans hS.below.tape, h.output.trans hS.below.output, Nat.le_trans hS.below.size h.size, fun b hb => by
  have hn : ¬ S b := fun e => by have := hS.own b e; omega
  rw [h.block b hn]
  exact hS.below.block b hb⟩
def PCh (M : Mem) (a b : List PanicEntry) : Prop := a.length = b.length ∧ ∀ (i : Nat) (x y : PanicEntry), a[i]? = some x → b[i]? = some y → PRel M x.v y.v ∧ x.recovered = y.recovered ∧ x.goexit = y.goexit
def PE (M : Mem) : AEnd → Ending → Prop
 | .returned v, .returned v' => PRel M v v'
 | .panicked a, .panicked b => PCh M a b
 | _, _ => False
theorem PE.e {ρ : Rho} {e : AEnd} {u : Ending} (h : PE ρ.mem e u) : ERel ρ e u := by
 cases e with
 | returned v =>
  cases u with
  | returned => exact PRel.v h
  | _ => exact h.elim
 | panicked ch =>
  cases u with
  | panicked => exact ⟨h.1, fun i x y p q => let ⟨a, b⟩ := h.2 i x y p q; ⟨a.v, b⟩⟩
  | _ => exact h.elim
def PTo (P : Program) (W0 : World) (f : FuncId) (args : Array Value) (e : AEnd) : Prop :=
 ∀ (M : Mem) (w : World) (args' : Array Value), Below W0.heap.size W0 w → (∀ b a, M b = some a → ∃ c te fr, w.heap[b]? = some (.cells c te fr) ∧ Pre a c) → (args.size = args'.size ∧ ∀ (i : Nat) (v v' : Value), args[i]? = some v → args'[i]? = some v' → PRel M v v') →
  Calls P f args' w fun e' w' => Below w.heap.size w w' ∧ ∃ M' : Mem, (∀ b o, M b = some o → M' b = some o) ∧ (∀ b o, M' b = some o → M b = some o ∨ w.heap.size ≤ b) ∧ (∀ b a, M' b = some a → ∃ c te fr, w'.heap[b]? = some (.cells c te fr) ∧ Pre a c) ∧ PE M' e e'
theorem PTo.to {f : FuncId} {args : Array Value} {e : AEnd} {σ : AW} (h : PTo P W0 f args e) (hS : Std W0 w0 S n0) (hp : PureL args.toList) : To P w0 S f args σ e σ := by
 intro ρ w args' ha hR
 refine (h ρ.mem w args' (hR.belowW hS) hR.mem ⟨ha.1, arrP hp ha.2⟩).mono ?_
 rintro e' w' ⟨hb, M', h1, h2, h3, h4⟩
 have hle : ρ.le ⟨ρ.loc, M', ρ.tok⟩ := ⟨fun _ _ e => e, fun b o e => ⟨o, h1 b o e, Pre.refl _⟩, fun _ _ e => e⟩
 refine ⟨⟨ρ.loc, M', ρ.tok⟩, hle, PE.e (ρ := ⟨ρ.loc, M', ρ.tok⟩) h4, ?_⟩
 have hg := hR.grow (w' := w') hb.os hb.tape hb.output hb.size (fun b hlt => hb.block b hlt)
 exact
  {base := Rho.le_trans hg.base hle, spec := hg.spec, pins := hg.pins, pinInj := hg.pinInj, pinVal := hg.pinVal, pinApart := hg.pinApart
   mem := h3
   memApart := fun b o j oj M e hj ej hM => by
    rcases h2 b o e with q | q
    ·exact hR.memApart b o j oj M q hj ej hM
    ·have := hR.blk_lt hM ej
     omega
   memNew := fun b o e => by
    rcases h2 b o e with q | q
    ·exact hR.memNew b o q
    ·exact .inr (hR.own b (Nat.le_trans hR.size q))
   memBase := fun b o e hn => h1 b o (hR.memBase b o e hn)
   tok := fun τ ht => by
    obtain ⟨q1, T, q2, q3⟩ := hg.tok τ ht
    refine ⟨q1, T, q2, fun U e => ?_⟩
    obtain ⟨r1, a, c, fr, r2, r3⟩ := q3 U e
    exact ⟨r1, a, c, fr, h1 _ _ r2, r3⟩
   tokInj := hg.tokInj, tokDom := hg.tokDom, tokPin := hg.tokPin, tokNd := hg.tokNd
   os := hg.os, tape := hg.tape, output := hg.output, size := hg.size, block := hg.block, own := hg.own, dom := hg.dom, lim := hg.lim
   obj := fun i o hi e => by
    obtain ⟨L, e1, e2, e3⟩ := hg.obj i o hi e
    exact ⟨L, e1, e2, e3.mono hle⟩
   exact := hg.exact, apart := hg.apart }
def AW.nil : AW := ⟨.leaf, 0, []⟩
def PEnd (w0 : World) (S : Own) (e : AEnd) (e1 : AEnd) (σ1 : AW) : Prop := ∀ ρ u w, ERel ρ e1 u → R w0 S σ1 ρ w → ∃ ρ' σ2, R w0 S σ2 ρ' w ∧ PE ρ'.mem e u
def ownP (M : Mem) (w : World) : Own := ⟨fun b => w.heap.size ≤ b, ⟨fun _ => none, M, fun _ => none⟩, fun _ _ => False, fun _ => False⟩
theorem startP {M : Mem} {w : World} (hM : ∀ b a, M b = some a → ∃ c te fr, w.heap[b]? = some (.cells c te fr) ∧ Pre a c) : R w (ownP M w) AW.nil ⟨fun _ => none, M, fun _ => none⟩ w :=
  {base := Rho.le_refl _, spec := fun _ _ _ h => by simp at h, pins := fun _ _ _ h => by simp at h, pinInj := fun _ _ _ _ _ _ h => by simp at h, pinVal := fun _ _ _ h => by simp at h, pinApart := fun _ _ _ _ _ _ h => by simp at h
   mem := hM, memApart := fun _ _ _ _ _ _ hj => absurd hj (Nat.not_lt_zero _), memNew := fun _ o h => .inl ⟨o, h⟩, memBase := fun _ _ h _ => h
   tok := fun _ h => by simp [AW.nil] at h, tokInj := fun _ _ _ _ h => by simp [AW.nil] at h, tokDom := fun _ _ => rfl, tokPin := fun _ _ _ _ _ h => by simp [AW.nil] at h, tokNd := List.nodup_nil
   os := rfl, tape := rfl, output := rfl, size := Nat.le_refl _, block := fun _ _ => rfl, own := fun _ h => h, dom := fun _ _ => rfl, lim := Nat.zero_le _
   obj := fun i o hi => absurd hi (Nat.not_lt_zero _), exact := fun i _ _ _ _ hi => absurd hi (Nat.not_lt_zero _), apart := fun i j oi oj Li Lj hi => absurd hi (Nat.not_lt_zero _) }
theorem stdP {M : Mem} {w : World} (hb : Below W0.heap.size W0 w) : Std W0 w (ownP M w) 0 :=
 ⟨fun _ h => h, fun _ _ h => h, fun _ _ h => by simp [ownP] at h, fun _ _ h => by simp [ownP] at h, fun b h => Nat.le_trans hb.size h, hb⟩
theorem PTo.of_body {f : FuncId} {fn : Func} {code : Code} {args : Array Value} {e : AEnd} (hf : P.funcs[f]? = some fn) (hcode : fn.body = some code) (hsz : Nat.ble args.size fn.ntmps = true)
  (h : ∀ w0 S, Std W0 w0 S 0 → H P w0 S fn.ntmps code ⟨Tm.fill args.toList 0, [], .run, AW.nil⟩ (KEnd P fn (PEnd w0 S e))) : PTo P W0 f args e := by
 intro M w args' hb hM ha
 have hS := stdP (M := M) hb
 haveI := hS.noEx P
 refine (calls_of_H hf hcode hsz (h w (ownP M w) hS) (ρ := ⟨fun _ => none, M, fun _ => none⟩) ⟨ha.1, fun i v v' x y => PRel.v (ρ := ⟨fun _ => none, M, fun _ => none⟩) (ha.2 i v v' x y)⟩ (startP hM)).mono ?_
 rintro e' w' ⟨e1, σ1, ρ1, hQ, he, hR⟩
 obtain ⟨ρ2, σ2, hR2, hpe⟩ := hQ ρ1 e' w' he hR
 refine ⟨⟨hR2.os, hR2.tape, hR2.output, hR2.size, fun k hk => hR2.block k (Nat.not_le.2 hk)⟩, ρ2.mem, fun b o e => hR2.memBase b o e (fun hn => ?_), fun b o e => ?_, hR2.mem, hpe⟩
 ·obtain ⟨_, _, _, q, _⟩ := hM b o e
  have := heap_lt q
  have hn : w.heap.size ≤ b := hn
  omega
 ·rcases hR2.memNew b o e with ⟨o', q⟩ | q
  ·have q : M b = some o' := q
   obtain ⟨_, _, _, q2, _⟩ := hM b o' q
   have hlt := heap_lt q2
   have := hR2.memBase b o' q (fun hn => by have hn : w.heap.size ≤ b := hn; omega)
   rw [e] at this
   cases this
   exact .inl q
  ·exact .inr q
theorem PEnd.pure {e : AEnd} {σ : AW} (h : match e with | .returned v => PureV v | .panicked ch => ∀ x, x ∈ ch → PureV x.v) : PEnd w0 S e e σ := by
 intro ρ u w he hR
 refine ⟨ρ, σ, hR, ?_⟩
 cases e with
 | returned v =>
  cases u with
  | returned => exact h _ _ he
  | _ => exact he.elim
 | panicked ch =>
  cases u with
  | panicked => exact ⟨he.1, fun i x y p q => let ⟨a, b⟩ := he.2 i x y p q; ⟨h x (List.mem_of_getElem? p) _ _ a, b⟩⟩
  | _ => exact he.elim
theorem PEnd.freeze {e : AEnd} {v v1 : Value} {σ : AW} {id : Nat} {cs : List Value} {te k : Nat} (hg : σ.get id = some (.cells cs te k)) (hid : Nat.blt id σ.next = true)
  (hv : ∀ ρ w L ca ce fr, R w0 S σ ρ w → ρ id = some L → w.heap[L.blk]? = some (.cells ca ce fr) → Trans ρ (ρ.frz L.blk ca) v v1) (hk : PEnd w0 S e (.returned v1) (σ.drop id)) : PEnd w0 S e (.returned v) σ := by
 intro ρ u w he hR
 obtain ⟨L, hL, _⟩ := hR.obj id _ (blt_t hid) hg
 obtain ⟨ca, ce, fr, hh, _⟩ := cells_of hR hL hg
 obtain ⟨hle, hR2⟩ := hR.freeze hL hg hh
 cases u with
 | returned v' => exact hk _ _ _ (hv ρ w L ca ce fr hR hL hh v' he) hR2
 | _ => exact he.elim
theorem PEnd.chg {e : AEnd} {v v1 : Value} {σ σ1 : AW} (h : ∀ ρ w, R w0 S σ ρ w → ∃ ρ', R w0 S σ1 ρ' w ∧ Trans ρ ρ' v v1) (hk : PEnd w0 S e (.returned v1) σ1) : PEnd w0 S e (.returned v) σ := by
 intro ρ u w he hR
 obtain ⟨ρ', hR2, ht⟩ := h ρ w hR
 cases u with
 | returned v' => exact hk _ _ _ (ht v' he) hR2
 | _ => exact he.elim
theorem Trans.frz {σ : AW} {ρ : Rho} {w : World} {L : Loc} {id : Nat} {cs : List Value} {te k n c : Nat} {es : Array Value} (hR : R w0 S σ ρ w) (hL : ρ id = some L) (hg : σ.get id = some (.cells cs te k))
  (hn : es.size = n) (hcs : cs = flatL es) (hs : ∀ (i : Nat) (v : Value), es[i]? = some v → v.cells.size = k) (hp : ∀ x, x ∈ cs → PureV x) (ex : Bool) (hex : ex = true → c = n ∧ c ≤ 2 ^ 64) (hne : c ≠ EMPTY)
  {ca : Array Value} {ce : TypeId} {fr : Nat × Nat} (hh : w.heap[L.blk]? = some (.cells ca ce fr)) : Trans ρ (ρ.frz L.blk ca) (.slice (some ⟨id, 0, none⟩) n c) (lst k ex es) := fun u hu => VRel.freeze hR hL hg hu hn hcs hs hp ex hex hne hh
end
end Vx
end Go
set_option linter.unusedVariables false
set_option linter.unusedSimpArgs false
namespace Go
namespace Vx
open Go.RowKit (Below)
def cL : Code → Code
 | .seq a _ => a
 | .cond _ a _ => a
 | .block _ a => a
 | .loop a => a
 | .scope a => a
 | c => c
def cR : Code → Code
 | .seq _ b => b
 | .cond _ _ b => b
 | c => c
def cOps : Code → Array Oper
 | .region _ ops _ => ops
 | _ => #[]
def cB (f : Func) : Code := f.body.getD .skip
def kindC : Code → Nat
 | .seq _ _ => 1
 | .cond _ _ _ => 2
 | .block _ _ => 3
 | .loop _ => 4
 | .region _ _ false => 5
 | .region _ _ true => 6
 | .ret => 7
 | .exit _ => 8
 | .skip => 9
 | .scope _ => 10
 | .label _ => 11
 | _ => 0
def idC : Code → Nat
 | .block id _ => id
 | .exit id => id
 | _ => 0
def conC : Code → Operand
 | .cond x _ _ => x
 | _ => .const .nilFunc
section
variable {P : Program} {W0 w0 : World} {S : Own} {nt : Nat} {s s' : St} {K K' : Cont} {c : Code}
theorem H.seqP (hc : kindC c = 1) (h : H P w0 S nt (cL c) s (Kseq P w0 S nt (cR c) K)) : H P w0 S nt c s K := by
 unfold kindC at hc
 split at hc <;> first | (exfalso; revert hc; decide) | exact H.seq h
theorem H.blockP (hc : kindC c = 3) (h : H P w0 S nt (cL c) s (Kblock (idC c) K)) : H P w0 S nt c s K := by
 unfold kindC at hc
 split at hc <;> first | (exfalso; revert hc; decide) | exact H.block h
theorem H.loopP (hc : kindC c = 4) (h : HL P w0 S nt (cL c) s K) : H P w0 S nt c s K := by
 unfold kindC at hc
 split at hc <;> first | (exfalso; revert hc; decide) | exact H.loop h
theorem H.retP (hc : kindC c = 7) (h : K .ret s) : H P w0 S nt c s K := by
 unfold kindC at hc
 split at hc <;> first | (exfalso; revert hc; decide) | exact H.ret h
theorem H.exitP (hc : kindC c = 8) (h : K (.exit (idC c)) s) : H P w0 S nt c s K := by
 unfold kindC at hc
 split at hc <;> first | (exfalso; revert hc; decide) | exact H.exit h
theorem H.skipP (hc : kindC c = 9) (h : K .normal s) : H P w0 S nt c s K := by
 unfold kindC at hc
 split at hc <;> first | (exfalso; revert hc; decide) | exact H.skip h
theorem W.scope {c : Code} {Q : Exit → Act → List Frame → World → Prop} {a : Act} {cs : List Frame} {w : World} (hg : ∀ l a cs w, ¬ Q (.goto l) a cs w) (h : W P false c Q a cs w) : W P false (.scope c) Q a cs w := by
 intro b k hb hr
 obtain ⟨e, a₁, cs₁, w₁, hq, harr⟩ := h b (.inScope c :: k) hb hr
 cases e with
 | normal => exact ⟨.normal, a₁, cs₁, w₁, hq, .head step_scope (Steps.trans harr (.one step_inScope))⟩
 | exit id => exact ⟨.exit id, a₁, cs₁, w₁, hq, fun k' hk => .head step_scope (harr k' (by simp [exitTo, hk]))⟩
 | goto l => exact absurd hq (hg _ _ _ _)
 | ret => exact ⟨_, a₁, cs₁, w₁, hq, .of_steps (.one step_scope) harr⟩
 | panic ch => exact ⟨_, a₁, cs₁, w₁, hq, .of_steps (.one step_scope) harr⟩
 | outgrown => exact ⟨_, a₁, cs₁, w₁, hq, .of_steps (.one step_scope) harr⟩
theorem H.scope {p : Code} (h : H P w0 S nt p s K) : H P w0 S nt (.scope p) s K := by
 intro ρ a cs w hs
 refine W.scope ?_ (h ρ a cs w hs)
 rintro l a cs w ⟨x, s1, ρ1, k, hx, _⟩
 cases x <;> exact hx.elim
theorem H.label {l : Nat} (h : K .normal s) : H P w0 S nt (.label l) s K := fun ρ a cs w hs => W.of_wp (wp_label ⟨_, _, ρ, h, trivial, hs⟩)
theorem H.condP {b : Bool} (hc : kindC c = 2) (hok : (okOperand nt (conC c) && seenO s.tmps (conC c)) = true) (hb : ev s.tmps (conC c) = .bool b) (h1 : b = true → H P w0 S nt (cL c) s K) (h2 : b = false → H P w0 S nt (cR c) s K) : H P w0 S nt c s K := by
 unfold kindC at hc
 split at hc <;> first | (exfalso; revert hc; decide) | exact H.cond hok hb h1 h2
theorem H.condT (hc : kindC c = 2) (hb : (okOperand nt (conC c) && seenO s.tmps (conC c), ev s.tmps (conC c)) = (true, .bool true)) (h : H P w0 S nt (cL c) s K) : H P w0 S nt c s K := by
 simp only [Prod.mk.injEq] at hb
 exact H.condP hc hb.1 hb.2 (fun _ => h) (fun e => by simp at e)
theorem H.condF (hc : kindC c = 2) (hb : (okOperand nt (conC c) && seenO s.tmps (conC c), ev s.tmps (conC c)) = (true, .bool false)) (h : H P w0 S nt (cR c) s K) : H P w0 S nt c s K := by
 simp only [Prod.mk.injEq] at hb
 exact H.condP hc hb.1 hb.2 (fun e => by simp at e) (fun _ => h)
theorem H.regP (hc : (Nat.beq (kindC c) 5 && (cOps c).toList.all (okOp nt)) = true) (h : HO P w0 S nt (cOps c) 0 s K) : H P w0 S nt c s K := by
 simp only [Bool.and_eq_true] at hc
 have h1 := beq_t hc.1
 have h2 := hc.2
 unfold kindC at h1
 split at h1 <;> first | (exfalso; revert h1; decide) | exact H.region h2 h
def goS (P : Program) (ops : Array Oper) (n i : Nat) (s : St) : St := (goA P ops n i s).getD s
theorem HO.goP [NoEx P S] {ops : Array Oper} (n : Nat) {i : Nat} (h : (goA P ops n i s).isSome = true) (hk : HO P w0 S nt ops (i + n) (goS P ops n i s) K) : HO P w0 S nt ops i s K := by
 obtain ⟨s', hs⟩ := Option.isSome_iff_exists.1 h
 refine HO.go n hs ?_
 unfold goS at hk
 rw [hs] at hk
 exact hk
def opG (ops : Array Oper) (i : Nat) : Oper := (ops[i]?).getD ⟨none, .move (.const .nilFunc), 0, "", #[], none⟩
theorem opG_at {ops : Array Oper} {i : Nat} (h : Nat.blt i ops.size = true) : ops[i]? = some (opG ops i) := by
 unfold opG
 rw [Array.getElem?_eq_getElem (blt_t h)]
 rfl
def atG (ops : Array Oper) (i : Nat) (s : St) : Bool := Nat.blt i ops.size && (match wantedA ops s.tmps (opG ops i) with | some true => true | _ => false) && (opG ops i).op.operands.toList.all (seenO s.tmps)
theorem atG_spec {ops : Array Oper} {i : Nat} (h : atG ops i s = true) : ops[i]? = some (opG ops i) ∧ wantedA ops s.tmps (opG ops i) = some true ∧ (opG ops i).op.operands.toList.all (seenO s.tmps) = true := by
 simp only [atG, Bool.and_eq_true] at h
 refine ⟨opG_at h.1.1, ?_, h.2⟩
 have := h.1.2
 split at this
 ·assumption
 ·exact absurd this (by simp)
def putG (ops : Array Oper) (i : Nat) (s : St) (v : Value) : St := { s with tmps := putT s.tmps (opG ops i).dst v }
def effG (ops : Array Oper) (i : Nat) (s : St) (v : Value) (σ' : AW) : St := { s with tmps := putT s.tmps (opG ops i).dst v, σ := σ' }
theorem HO.val [NoEx P S] {ops : Array Oper} {i : Nat} (v : Value) (h0 : atG ops i s = true) (h : aop P .none (ev s.tmps) (opG ops i) s.σ = some (.val v)) (hk : HO P w0 S nt ops (i + 1) (putG ops i s v) K) : HO P w0 S nt ops i s K := by
 obtain ⟨h1, h2, h3⟩ := atG_spec h0
 exact HO.told h1 h2 (r := .val v) (by unfold aopT; rw [h3]; exact h) hk
theorem HO.eff [NoEx P S] {ops : Array Oper} {i : Nat} (v : Value) (σ' : AW) (h0 : atG ops i s = true) (h : aop P .none (ev s.tmps) (opG ops i) s.σ = some (.eff v σ')) (hk : HO P w0 S nt ops (i + 1) (effG ops i s v σ') K) : HO P w0 S nt ops i s K := by
 obtain ⟨h1, h2, h3⟩ := atG_spec h0
 exact HO.told h1 h2 (r := .eff v σ') (by unfold aopT; rw [h3]; exact h) hk
theorem HO.boolP [NoEx P S] {ops : Array Oper} {i : Nat} (b : Bool) (h0 : atG ops i s = true) (h : aop P .none (ev s.tmps) (opG ops i) s.σ = some (.val (.bool b)))
  (h1 : b = true → HO P w0 S nt ops (i + 1) (putG ops i s (.bool true)) K) (h2 : b = false → HO P w0 S nt ops (i + 1) (putG ops i s (.bool false)) K) : HO P w0 S nt ops i s K := by
 cases b with
 | true => exact HO.val (.bool true) h0 h (h1 rfl)
 | false => exact HO.val (.bool false) h0 h (h2 rfl)
def callG (P : Program) (ops : Array Oper) (i : Nat) (s : St) : Option (FuncId × Array Value) :=
 match aop P .none (ev s.tmps) (opG ops i) s.σ with
 | some (.call f args) => some (f, args)
 | _ => none
theorem PureL.of_all : ∀ {l : List Value}, l.all pureB = true → PureL l
 | [], _ => trivial
 | x :: xs, h => by
  simp only [List.all_cons, Bool.and_eq_true] at h
  exact ⟨fun ρ u hu => pureB_rel h.1 hu, PureL.of_all h.2⟩
theorem PureV.of {v : Value} (h : pureB v = true) : PureV v := fun ρ u hu => pureB_rel h hu
end
def ls {α : Type} (k : Nat) (ex : Bool) (enc : α → Value) (l : List α) : Value := lst k ex (l.map enc).toArray
def tl {α : Type} (k τ : Nat) (enc : α → Value) (l : List α) : Value := tls k τ (l.map enc).toArray
theorem ls_size {α : Type} (enc : α → Value) (l : List α) : (l.map enc).toArray.size = l.length := by simp
theorem ls_extract {α : Type} (enc : α → Value) (l : List α) (a b : Nat) : (l.map enc).toArray.extract a b = (((l.take b).drop a).map enc).toArray := by
 simp [List.drop_take]
def idxG (P : Program) (ops : Array Oper) (i : Nat) (s : St) : Option (Array Value × Int) :=
 match (opG ops i).op with
 | .indexAddr t x ix => match P.underlying t, ev s.tmps x, ev s.tmps ix with
  | some (.slice e), .func (.methodOf k _) _ es, .int _ j => match sizeT P e with
   | some k' => if k' = k then some (es, j) else none
   | none => none
  | _, _, _ => none
 | _ => none
section
variable {P : Program} {W0 w0 : World} {S : Own} {nt : Nat} {s s' : St} {K K' : Cont} {c : Code}
theorem HO.index [NoEx P S] {ops : Array Oper} {i : Nat} {es : Array Value} {j : Int} (v : Value) (h0 : atG ops i s = true) (h : idxG P ops i s = some (es, j)) (hj : 0 ≤ j) (hv : es[j.toNat]? = some v)
  (hk : HO P w0 S nt ops (i + 1) (putG ops i s (fpt 0 v.cells)) K) : HO P w0 S nt ops i s K := by
 refine HO.val (fpt 0 v.cells) h0 ?_ hk
 unfold idxG at h
 unfold aop
 split at h
 ·rename_i t x ix hop
  rw [hop]
  simp only
  split at h
  ·rename_i e k nm f es' ik j' hu hx hi
   split at h
   ·rename_i k' hk'
    split at h
    ·rename_i hkk
     subst hkk
     cases h
     unfold indexAddrA
     rw [hu, hx, hi]
     obtain ⟨n, rfl⟩ := Int.eq_ofNat_of_zero_le hj
     simp only [Int.toNat_natCast] at hv
     show valOf (match (Int.ofNat n : Int) with | _ => _) = _
     simp only [hk', hv, if_true, valOf]
    ·exact absurd h (by simp)
   ·exact absurd h (by simp)
  ·exact absurd h (by simp)
 ·exact absurd h (by simp)
def lenG (P : Program) (ops : Array Oper) (i : Nat) (s : St) : Option (Array Value) :=
 match (opG ops i).op with
 | .call ⟨.builtin .len, args, ts⟩ => match ts[0]?, ((args.map (ev s.tmps))[0]? : Option Value) with
  | some t, some (Value.func (.methodOf _ _) _ es) => match P.underlying t with
   | some (.slice _) => some es
   | _ => none
  | _, _ => none
 | _ => none
theorem HO.len [NoEx P S] {ops : Array Oper} {i : Nat} {es : Array Value} {n : Nat} (h0 : atG ops i s = true) (h : lenG P ops i s = some es) (hn : es.size = n) (hk : HO P w0 S nt ops (i + 1) (putG ops i s (.int .i64 (n : Int))) K) : HO P w0 S nt ops i s K := by
 refine HO.val (.int .i64 (n : Int)) h0 ?_ hk
 subst hn
 unfold lenG at h
 unfold aop
 split at h
 ·rename_i args ts hop
  rw [hop]
  simp only [callA, builtinR]
  split at h
  ·rename_i t k nm f es' ht hx
   split at h
   ·rename_i e hu
    cases h
    rw [ht, hx]
    simp only [lenA, hu]
    rfl
   ·exact absurd h (by simp)
  ·exact absurd h (by simp)
 ·exact absurd h (by simp)
end
def mkT : List (Nat × Value) → Tm
 | [] => .nil
 | p :: l => .put p.1 p.2 (mkT l)
def mkW (nx : Nat) (tk : List Nat) (l : List (Nat × AObj)) : AW := ⟨l.foldr (fun p t => Tr.set D t p.1 (some p.2)) .leaf, nx, tk⟩
def mkS (sl : List (Nat × Value)) (ob : List (Nat × AObj)) (nx : Nat) (tk : List Nat) : St := ⟨mkT sl, [], .run, mkW nx tk ob⟩
def obsT (t : Tm) : List (Nat × Value) → List (Bool × Value)
 | [] => []
 | p :: l => (t.has p.1, t.get p.1) :: obsT t l
def obsO (σ : AW) : List (Nat × AObj) → List (Option AObj)
 | [] => []
 | p :: l => σ.get p.1 :: obsO σ l
def wantT : List (Nat × Value) → List (Bool × Value)
 | [] => []
 | p :: l => (true, p.2) :: wantT l
def wantO : List (Nat × AObj) → List (Option AObj)
 | [] => []
 | p :: l => some p.2 :: wantO l
theorem obsT_sub {t : Tm} : ∀ {sl : List (Nat × Value)}, obsT t sl = wantT sl → Sub t (mkT sl)
 | [], _ => trivial
 | p :: l, h => by
  simp only [obsT, wantT, List.cons.injEq, Prod.mk.injEq] at h
  exact ⟨⟨h.1.1, h.1.2⟩, obsT_sub h.2⟩
theorem mkW_get {nx : Nat} {tk : List Nat} {σ : AW} : ∀ {l : List (Nat × AObj)}, obsO σ l = wantO l → l.all (fun p => Nat.blt p.1 (2 ^ D)) = true → ∀ i o, i < 2 ^ D → (mkW nx tk l).get i = some o → σ.get i = some o
 | [], _, _, i, o, _, h => by
  simp only [mkW, AW.get, List.foldr_nil, Tr.get_leaf] at h
  exact absurd h (by simp)
 | p :: l, h, hb, i, o, hi, hg => by
  simp only [obsO, wantO, List.cons.injEq] at h
  simp only [List.all_cons, Bool.and_eq_true] at hb
  by_cases e : i = p.1
  ·subst e
   simp only [mkW, AW.get, List.foldr_cons, Tr.get_set_same] at hg
   cases hg
   exact h.1
  ·refine mkW_get (nx := nx) (tk := tk) h.2 hb.2 i o hi ?_
   simp only [mkW, AW.get, List.foldr_cons] at hg ⊢
   rw [Tr.get_set_other _ _ _ _ _ (blt_t hb.1) hi (Ne.symm e)] at hg
   exact hg
theorem R.view {w0 : World} {S : Own} {σ σ' : AW} {ρ : Rho} {w : World} (h : R w0 S σ ρ w) (hn : σ'.next = σ.next) (ht : σ'.toks = σ.toks) (hg : ∀ i o, i < 2 ^ D → σ'.get i = some o → σ.get i = some o) : R w0 S σ' ρ w := by
 have lim := h.lim
 have hg' : ∀ i o, i < σ'.next → σ'.get i = some o → i < σ.next ∧ σ.get i = some o := fun i o hi e => ⟨by omega, hg i o (by omega) e⟩
 exact
  {base := h.base, spec := h.spec, pins := h.pins, pinInj := h.pinInj, pinVal := h.pinVal
   pinApart := fun i L o j oj M e1 e2 hj ej hM => let ⟨x, y⟩ := hg' j oj hj ej; h.pinApart i L o j oj M e1 e2 x y hM
   mem := h.mem
   memApart := fun b a j oj M e hj ej hM => let ⟨x, y⟩ := hg' j oj hj ej; h.memApart b a j oj M e x y hM
   memNew := h.memNew, memBase := h.memBase
   tok := by rw [ht, hn]; exact h.tok
   tokInj := by rw [ht]; exact h.tokInj
   tokDom := by rw [hn]; exact h.tokDom
   tokPin := by rw [ht]; exact h.tokPin
   tokNd := by rw [ht]; exact h.tokNd
   os := h.os, tape := h.tape, output := h.output, size := h.size, block := h.block, own := h.own
   dom := by rw [hn]; exact h.dom
   lim := by rw [hn]; exact h.lim
   obj := fun j p hj e => let ⟨x, y⟩ := hg' j p hj e; h.obj j p x y
   exact := fun j cs e k L hj ej hL he => let ⟨x, y⟩ := hg' j _ hj ej; h.exact j cs e k L x y hL he
   apart := fun a b oa ob La Lb ha hb ea eb => let ⟨xa, ya⟩ := hg' a oa ha ea; let ⟨xb, yb⟩ := hg' b ob hb eb; h.apart a b oa ob La Lb xa xb ya yb }
section
variable {P : Program} {W0 w0 : World} {S : Own} {nt : Nat} {s s' : St} {K K' : Cont} {c : Code}
theorem SRel.view {cs : List Frame} {ρ : Rho} {a : Act} {w : World} (hs : SRel w0 S false nt cs ρ s a cs w) (sl : List (Nat × Value)) (ob : List (Nat × AObj)) {nx : Nat} {tk : List Nat}
  (h : (obsT s.tmps sl, obsO s.σ ob, s.σ.next, s.σ.toks, s.defers.isEmpty, ob.all (fun p => Nat.blt p.1 (2 ^ D))) = (wantT sl, wantO ob, nx, tk, true, true)) : SRel w0 S false nt cs ρ (mkS sl ob nx tk) a cs w := by
 simp only [Prod.mk.injEq] at h
 obtain ⟨h1, h2, h3, h4, h5, h6⟩ := h
 have hd : a.defers = [] := by
  have := hs.ds
  cases hds : s.defers with
  | nil =>
   rw [hds] at this
   cases had : a.defers with
   | nil => rfl
   | cons d l => rw [had] at this; exact this.elim
  | cons d l => rw [hds] at h5; simp at h5
 refine ⟨⟨hs.t.size, fun i hi hh => ?_⟩, by rw [hd]; trivial, rfl, hs.r.view h3.symm h4.symm (mkW_get h2 h6)⟩
 obtain ⟨a1, a2⟩ := (Sub.to (ρ := ρ) (obsT_sub h1)).at_ i hh
 exact a2 _ (hs.t.at_ i hi a1)
theorem H.view (sl : List (Nat × Value)) (ob : List (Nat × AObj)) {nx : Nat} {tk : List Nat}
  (h : (obsT s.tmps sl, obsO s.σ ob, s.σ.next, s.σ.toks, s.defers.isEmpty, ob.all (fun p => Nat.blt p.1 (2 ^ D))) = (wantT sl, wantO ob, nx, tk, true, true)) (hk : H P w0 S nt c (mkS sl ob nx tk) K) : H P w0 S nt c s K :=
 fun ρ a cs w hs => hk ρ a cs w (hs.view sl ob h)
theorem HL.view (sl : List (Nat × Value)) (ob : List (Nat × AObj)) {nx : Nat} {tk : List Nat}
  (h : (obsT s.tmps sl, obsO s.σ ob, s.σ.next, s.σ.toks, s.defers.isEmpty, ob.all (fun p => Nat.blt p.1 (2 ^ D))) = (wantT sl, wantO ob, nx, tk, true, true)) (hk : HL P w0 S nt c (mkS sl ob nx tk) K) : HL P w0 S nt c s K :=
 fun ρ a cs w hs => hk ρ a cs w (hs.view sl ob h)
theorem HO.view {ops : Array Oper} {i : Nat} (sl : List (Nat × Value)) (ob : List (Nat × AObj)) {nx : Nat} {tk : List Nat}
  (h : (obsT s.tmps sl, obsO s.σ ob, s.σ.next, s.σ.toks, s.defers.isEmpty, ob.all (fun p => Nat.blt p.1 (2 ^ D))) = (wantT sl, wantO ob, nx, tk, true, true)) (hk : HO P w0 S nt ops i (mkS sl ob nx tk) K) : HO P w0 S nt ops i s K :=
 fun ho ρ a cs w hs => hk ho ρ a cs w (hs.view sl ob h)
theorem KEnd.ret {fn : Func} {x : AExit} {v : Value} (hx : (match x with | .normal => true | .ret => true | _ => false) = true) (h : leaves P (exec P .none Ext.none 60 true) fn s.tmps s.defers .returning s.σ = .ok (.returned v, s.σ)) (hp : pureB v = true) :
  KEnd P fn (PEnd w0 S (.returned v)) x s := by
 refine ⟨.returning, 60, .returned v, s.σ, .inl ⟨?_, rfl⟩, h, PEnd.pure (PureV.of hp)⟩
 cases x <;> simp at hx <;> simp
theorem KEnd.pan {fn : Func} {ch : List PanicEntry} (h : leaves P (exec P .none Ext.none 60 true) fn s.tmps s.defers (.panicking ch) s.σ = .ok (.panicked ch, s.σ)) (hp : ch.all (fun x => pureB x.v) = true) :
  KEnd P fn (PEnd w0 S (.panicked ch)) (.panic ch) s := by
 refine ⟨.panicking ch, 60, .panicked ch, s.σ, .inr ⟨ch, rfl, rfl⟩, h, PEnd.pure ?_⟩
 intro x hx
 rw [List.all_eq_true] at hp
 exact PureV.of (hp x hx)
end
end Vx
end Go
set_option linter.unusedVariables false
set_option linter.unusedSimpArgs false
namespace Go
namespace Vx
open Go.RowKit (Below)
def invM (m : List Nat) (i : Nat) : Option Nat :=
 match m.findIdx? (fun j => Nat.beq j i) with
 | some j => some j
 | none => none
theorem invM_spec {m : List Nat} {i j : Nat} (h : invM m i = some j) : m[j]? = some i := by
 unfold invM at h
 split at h
 ·rename_i k hk
  cases h
  obtain ⟨h1, h2, _⟩ := List.findIdx?_eq_some_iff_getElem.1 hk
  rw [List.getElem?_eq_getElem h1]
  congr 1
  exact beq_t h2
 ·exact absurd h (by simp)
def mapO {α β : Type} (f : α → Option β) : List α → Option (List β)
 | [] => some []
 | x :: xs => match f x, mapO f xs with
  | some y, some ys => some (y :: ys)
  | _, _ => none
def renF (f : Nat → Option Nat) : Nat → Value → Option Value
 | _, .bool b => some (.bool b)
 | _, .int k n => some (.int k n)
 | _, .string s => some (.string s)
 | _, .nilFunc => some .nilFunc
 | _, .nilIface => some .nilIface
 | _, .pointer none => some (.pointer none)
 | _, .map none => some (.map none)
 | _, .slice none 0 0 => some (.slice none 0 0)
 | _, .pointer (some ⟨i, o, none⟩) => match f i with
  | some j => some (.pointer (some ⟨j, o, none⟩))
  | none => none
 | _, .slice (some ⟨i, o, none⟩) n c => match f i with
  | some j => some (.slice (some ⟨j, o, none⟩) n c)
  | none => none
 | _, .map (some i) => match f i with
  | some j => some (.map (some j))
  | none => none
 | _, .func (.methodOf k nm) fs es => match fs.toList with
  | [.bool ex] => some (.func (.methodOf k nm) #[.bool ex] es)
  | [.pointer (some ⟨τ, 0, none⟩)] => match f τ with
   | some j => if nm = "" then some (tls k j es) else none
   | none => none
  | _ => none
 | _, .func (.yield o) fs cs => some (.func (.yield o) fs cs)
 | n + 1, .func (.func g) a c => match mapO (renF f n) a.toList, mapO (renF f n) c.toList with
  | some a', some c' => some (.func (.func g) a'.toArray c'.toArray)
  | _, _ => none
 | n + 1, .iface t v => match renF f n v with
  | some v' => some (.iface t v')
  | none => none
 | n + 1, .agg cs => match mapO (renF f n) cs.toList with
  | some cs' => some (.agg cs'.toArray)
  | none => none
 | n + 1, .tuple cs => match mapO (renF f n) cs.toList with
  | some cs' => some (.tuple cs'.toArray)
  | none => none
 | _, _ => none
def renN (m : List Nat) : Nat → Value → Option Value := renF (invM m)
section
variable {ρ : Rho} {m : List Nat}
theorem ren_loc {i j : Nat} (h : invM m i = some j) : ∀ L, ρ i = some L → (ρ.ren (fun i => m[i]?)) j = some L := by
 intro L hL
 simp only [Rho.ren, invM_spec h]
 exact hL
theorem mapO_trans {f : Value → Option Value} {ρ' : Rho} : ∀ {a b : List Value}, (∀ v v', v ∈ a → f v = some v' → Trans ρ ρ' v v') → mapO f a = some b → TransL ρ ρ' a b
 | [], b, _, h => by simp [mapO] at h; subst h; trivial
 | x :: xs, b, hf, h => by
  simp only [mapO] at h
  split at h
  ·rename_i y ys hx hxs
   cases h
   exact ⟨hf x y (by simp) hx, mapO_trans (fun v v' hv => hf v v' (by simp [hv])) hxs⟩
  ·exact absurd h (by simp)
theorem renF_trans {f : Nat → Option Nat} {ρ' : Rho} (hm : ∀ b o, ρ.mem b = some o → ∃ o', ρ'.mem b = some o' ∧ Pre o o') (hl : ∀ i j, f i = some j → ∀ L, ρ i = some L → ρ' j = some L) (ht : ∀ i j, f i = some j → ∀ T, ρ.tok i = some T → ρ'.tok j = some T) : ∀ (n : Nat) (v v' : Value), renF f n v = some v' → Trans ρ ρ' v v' := by
 intro n
 induction n with
 | zero =>
  intro v v' h
  unfold renF at h
  split at h
  any_goals (first | (cases h; first | exact .pure hm (.bool _) | exact .pure hm (.int _ _) | exact .pure hm (.string _) | exact .pure hm .nilFunc | exact .pure hm .nilIface | exact .pure hm .ptr0 | exact .pure hm .map0 | exact .pure hm .slice0 | exact .pure hm (.fpt _ _ _)))
  ·split at h
   ·rename_i j hj; cases h; exact .ptr (hl _ _ hj)
   ·exact absurd h (by simp)
  ·split at h
   ·rename_i j hj; cases h; exact .slice (hl _ _ hj)
   ·exact absurd h (by simp)
  ·split at h
   ·rename_i j hj; cases h; exact .map (hl _ _ hj)
   ·exact absurd h (by simp)
  ·rename_i k nm fs es
   split at h
   ·rename_i ex hf
    cases h
    have : fs = #[.bool ex] := by rw [← Array.toArray_toList (xs := fs), hf]
    subst this
    exact .pure hm (.lst _ _ _ _)
   ·rename_i τ hf
    split at h
    ·rename_i j hj
     split at h
     ·rename_i hn
      cases h
      subst hn
      have : fs = #[.pointer (some ⟨τ, 0, none⟩)] := by rw [← Array.toArray_toList (xs := fs), hf]
      subst this
      exact Trans.tok hm (ht _ _ hj)
     ·exact absurd h (by simp)
    ·exact absurd h (by simp)
   ·exact absurd h (by simp)
  all_goals first | (rename_i hz; cases hz; done) | (rename_i hz _; cases hz; done) | exact absurd h (by simp)
 | succ n ih =>
  intro v v' h
  unfold renF at h
  split at h
  any_goals (first | (cases h; first | exact .pure hm (.bool _) | exact .pure hm (.int _ _) | exact .pure hm (.string _) | exact .pure hm .nilFunc | exact .pure hm .nilIface | exact .pure hm .ptr0 | exact .pure hm .map0 | exact .pure hm .slice0 | exact .pure hm (.fpt _ _ _)))
  ·split at h
   ·rename_i j hj; cases h; exact .ptr (hl _ _ hj)
   ·exact absurd h (by simp)
  ·split at h
   ·rename_i j hj; cases h; exact .slice (hl _ _ hj)
   ·exact absurd h (by simp)
  ·split at h
   ·rename_i j hj; cases h; exact .map (hl _ _ hj)
   ·exact absurd h (by simp)
  ·rename_i k nm fs es
   split at h
   ·rename_i ex hf
    cases h
    have : fs = #[.bool ex] := by rw [← Array.toArray_toList (xs := fs), hf]
    subst this
    exact .pure hm (.lst _ _ _ _)
   ·rename_i τ hf
    split at h
    ·rename_i j hj
     split at h
     ·rename_i hn
      cases h
      subst hn
      have : fs = #[.pointer (some ⟨τ, 0, none⟩)] := by rw [← Array.toArray_toList (xs := fs), hf]
      subst this
      exact Trans.tok hm (ht _ _ hj)
     ·exact absurd h (by simp)
    ·exact absurd h (by simp)
   ·exact absurd h (by simp)
  ·rename_i x g a c hx
   cases hx
   split at h
   ·rename_i a' c' ha hc
    cases h
    exact .func (by simpa using mapO_trans (fun v v' _ => ih v v') ha) (by simpa using mapO_trans (fun v v' _ => ih v v') hc)
   ·exact absurd h (by simp)
  ·rename_i x t u hx
   cases hx
   split at h
   ·rename_i u' hu; cases h; exact .iface (ih _ _ hu)
   ·exact absurd h (by simp)
  ·rename_i x cs hx
   cases hx
   split at h
   ·rename_i cs' hc; cases h; exact .agg (by simpa using mapO_trans (fun v v' _ => ih v v') hc)
   ·exact absurd h (by simp)
  ·rename_i x cs hx
   cases hx
   split at h
   ·rename_i cs' hc; cases h; exact .tuple (by simpa using mapO_trans (fun v v' _ => ih v v') hc)
   ·exact absurd h (by simp)
  ·exact absurd h (by simp)
theorem renN_trans (n : Nat) (v v' : Value) (h : renN m n v = some v') : Trans ρ (ρ.ren (fun i => m[i]?)) v v' :=
 renF_trans (ρ := ρ) (ρ' := ρ.ren (fun i => m[i]?)) (fun b o h => ⟨o, h, Pre.refl _⟩) (fun i j h => ren_loc h) (fun i j h T hT => by simp only [Rho.ren, invM_spec h]; exact hT) n v v' h
end
def renEF (f : Nat → Option Nat) (e : MapEntry) : Option MapEntry :=
 match renF f 12 e.key, renF f 12 e.val with
 | some k, some v => some { key := k, val := v, born := e.born }
 | _, _ => none
def renOF (f : Nat → Option Nat) : AObj → Option AObj
 | .cells cs e k => match mapO (renF f 12) cs with
  | some cs' => some (.cells cs' e k)
  | none => none
 | .map es c => match mapO (renEF f) es with
  | some es' => some (.map es' c)
  | none => none
 | _ => none
def renO (m : List Nat) : AObj → Option AObj := renOF (invM m)
theorem renEF_trans {ρ ρ' : Rho} {f : Nat → Option Nat} (ht : ∀ v v', renF f 12 v = some v' → Trans ρ ρ' v v') : ∀ {a b : List MapEntry}, mapO (renEF f) a = some b → EntT ρ ρ' a b
 | [], b, h => by simp [mapO] at h; subst h; trivial
 | x :: xs, b, h => by
  simp only [mapO] at h
  split at h
  ·rename_i y ys hx hxs
   cases h
   unfold renEF at hx
   split at hx
   ·rename_i k v hk hv
    cases hx
    exact ⟨⟨rfl, ht _ _ hk, ht _ _ hv⟩, renEF_trans ht hxs⟩
   ·exact absurd hx (by simp)
  ·exact absurd h (by simp)
theorem renOF_trans {ρ ρ' : Rho} {f : Nat → Option Nat} (ht : ∀ v v', renF f 12 v = some v' → Trans ρ ρ' v v') {o o' : AObj} (h : renOF f o = some o') : OTrans ρ ρ' o o' := by
 cases o with
 | cells cs e k =>
  simp only [renOF] at h
  split at h
  ·rename_i cs' hc; cases h; exact ⟨rfl, rfl, mapO_trans (fun v v' _ => ht v v') hc⟩
  ·exact absurd h (by simp)
 | map es c =>
  simp only [renOF] at h
  split at h
  ·rename_i es' hc; cases h; exact ⟨rfl, renEF_trans ht hc⟩
  ·exact absurd h (by simp)
 | _ => simp [renOF] at h
theorem renO_trans {ρ : Rho} {m : List Nat} {o o' : AObj} (h : renO m o = some o') : OTrans ρ (ρ.ren (fun i => m[i]?)) o o' := renOF_trans (fun v v' h => renN_trans _ _ _ h) h
def renT (m : List Nat) (t : Tm) : List (Nat × Value) → List (Bool × Option Value)
 | [] => []
 | p :: l => (t.has p.1, renN m 12 (t.get p.1)) :: renT m t l
def renTw : List (Nat × Value) → List (Bool × Option Value)
 | [] => []
 | p :: l => (true, some p.2) :: renTw l
def renOs (m : List Nat) (σ : AW) : List (Nat × AObj) → List (Option AObj)
 | [] => []
 | p :: l => ((m[p.1]?).bind σ.get).bind (renO m) :: renOs m σ l
def nodupB : List Nat → Bool
 | [] => true
 | x :: xs => !xs.contains x && nodupB xs
theorem nodupB_t : ∀ {l : List Nat}, nodupB l = true → l.Nodup
 | [], _ => List.nodup_nil
 | x :: xs, h => by
  simp only [nodupB, Bool.and_eq_true, Bool.not_eq_true'] at h
  rw [List.nodup_cons]
  refine ⟨fun hm => ?_, nodupB_t h.2⟩
  have := List.contains_iff_mem.2 hm
  rw [h.1] at this
  exact absurd this (by simp)
def renB (n0 : Nat) (m : List Nat) (σ : AW) (ob : List (Nat × AObj)) (tk : List Nat) : Bool :=
 (List.range n0).all (fun i => decide (m[i]? = some i)) && nodupB m && m.all (fun j => decide (j < σ.next)) && Nat.ble m.length (2 ^ D) && tk.all (fun i => match m[i]? with | some j => σ.toks.contains j | none => false) && nodupB tk && ob.all (fun p => Nat.blt p.1 m.length)
theorem renT_slots {ρ : Rho} {m : List Nat} {t : Tm} : ∀ {sl : List (Nat × Value)}, renT m t sl = renTw sl → SlotsTo ρ (ρ.ren (fun i => m[i]?)) t (mkT sl)
 | [], _ => trivial
 | p :: l, h => by
  simp only [renT, renTw, List.cons.injEq, Prod.mk.injEq] at h
  exact ⟨⟨h.1.1, renN_trans _ _ _ h.1.2⟩, renT_slots h.2⟩
theorem renOs_get {m : List Nat} {σ : AW} {nx : Nat} {tk : List Nat} : ∀ {l : List (Nat × AObj)}, renOs m σ l = wantO l → l.all (fun p => Nat.blt p.1 (2 ^ D)) = true → ∀ i o', i < 2 ^ D → (mkW nx tk l).get i = some o' → ∃ j o, m[i]? = some j ∧ σ.get j = some o ∧ renO m o = some o'
 | [], _, _, i, o', _, h => by
  simp only [mkW, AW.get, List.foldr_nil, Tr.get_leaf] at h
  exact absurd h (by simp)
 | p :: l, h, hb, i, o', hi, hg => by
  simp only [renOs, wantO, List.cons.injEq] at h
  simp only [List.all_cons, Bool.and_eq_true] at hb
  by_cases e : i = p.1
  ·subst e
   simp only [mkW, AW.get, List.foldr_cons, Tr.get_set_same] at hg
   cases hg
   have h1 := h.1
   cases hm : m[p.1]? with
   | none => rw [hm] at h1; simp at h1
   | some j =>
    rw [hm] at h1
    simp only [Option.bind_some] at h1
    cases hs : σ.get j with
    | none => rw [hs] at h1; simp at h1
    | some o => rw [hs] at h1; exact ⟨j, o, rfl, hs, h1⟩
  ·refine renOs_get (nx := nx) (tk := tk) h.2 hb.2 i o' hi ?_
   simp only [mkW, AW.get, List.foldr_cons] at hg ⊢
   rw [Tr.get_set_other _ _ _ _ _ (blt_t hb.1) hi (Ne.symm e)] at hg
   exact hg
theorem ObjsTo.of {ρ ρ' : Rho} {σ σ' : AW} : ∀ {m : List Nat} {i0 : Nat}, (∀ i j o', m[i]? = some j → σ'.get (i0 + i) = some o' → ∃ o, σ.get j = some o ∧ OTrans ρ ρ' o o') → ObjsTo ρ ρ' σ σ' m i0
 | [], _, _ => trivial
 | x :: m, i0, h => by
  refine ⟨?_, ObjsTo.of fun i j o' hj ho => h (i + 1) j o' (by simpa using hj) (by rw [← ho]; congr 1; omega)⟩
  split
  ·trivial
  ·rename_i o' ho
   exact h 0 x o' rfl (by simpa using ho)
section
variable {P : Program} {W0 w0 : World} {S : Own} {nt n0 : Nat} {s s' : St} {K K' : Cont} {c : Code}
theorem SRel.ren (hS : Std W0 w0 S n0) {cs : List Frame} {ρ : Rho} {a : Act} {w : World} (hs : SRel w0 S false nt cs ρ s a cs w) (m : List Nat) (sl : List (Nat × Value)) (ob : List (Nat × AObj)) (tk : List Nat)
  (h : (renT m s.tmps sl, renOs m s.σ ob, s.defers.isEmpty, renB n0 m s.σ ob tk) = (renTw sl, wantO ob, true, true)) : ∃ ρ', SRel w0 S false nt cs ρ' (mkS sl ob m.length tk) a cs w := by
 simp only [Prod.mk.injEq] at h
 obtain ⟨h1, h2, h5, h6⟩ := h
 simp only [renB, Bool.and_eq_true] at h6
 obtain ⟨⟨⟨⟨⟨⟨b1, b2⟩, b3⟩, b4⟩, b5⟩, b6⟩, b7⟩ := h6
 have b4 := ble_t b4
 have hd : a.defers = [] := by
  have := hs.ds
  cases hds : s.defers with
  | nil =>
   rw [hds] at this
   cases had : a.defers with
   | nil => rfl
   | cons d l => rw [had] at this; exact this.elim
  | cons d l => rw [hds] at h5; simp at h5
 have hbD : ob.all (fun p => Nat.blt p.1 (2 ^ D)) = true := by
  rw [List.all_eq_true] at b7 ⊢
  intro p hp
  have := blt_t (b7 p hp)
  exact Nat.ble_eq_true_of_le (by omega)
 have hR := hs.r.ren (σ' := mkW m.length tk ob) hS.base hS.baseT hS.ex hS.sp m rfl b1 (nodupB_t b2) b3 b4 b5 (nodupB_t b6) (ObjsTo.of fun i j o' hj ho => by
  rw [Nat.zero_add] at ho
  have hi : i < m.length := (List.getElem?_eq_some_iff.1 hj).1
  obtain ⟨j', o, e1, e2, e3⟩ := renOs_get (nx := m.length) (tk := tk) h2 hbD i o' (by omega) ho
  rw [hj] at e1
  cases e1
  exact ⟨o, e2, renO_trans e3⟩)
 refine ⟨_, ⟨hs.t.size, fun i hi hh => ?_⟩, by rw [hd]; trivial, rfl, hR⟩
 obtain ⟨a1, a2⟩ := (renT_slots (ρ := s.σ |> fun _ => ρ) h1).at_ i hh
 exact a2 _ (hs.t.at_ i hi a1)
theorem H.ren (hS : Std W0 w0 S n0) (m : List Nat) (sl : List (Nat × Value)) (ob : List (Nat × AObj)) (tk : List Nat) (h : (renT m s.tmps sl, renOs m s.σ ob, s.defers.isEmpty, renB n0 m s.σ ob tk) = (renTw sl, wantO ob, true, true))
  (hk : H P w0 S nt c (mkS sl ob m.length tk) K) : H P w0 S nt c s K := fun ρ a cs w hs => let ⟨ρ', h'⟩ := hs.ren hS m sl ob tk h; hk ρ' a cs w h'
theorem HL.ren (hS : Std W0 w0 S n0) (m : List Nat) (sl : List (Nat × Value)) (ob : List (Nat × AObj)) (tk : List Nat) (h : (renT m s.tmps sl, renOs m s.σ ob, s.defers.isEmpty, renB n0 m s.σ ob tk) = (renTw sl, wantO ob, true, true))
  (hk : HL P w0 S nt c (mkS sl ob m.length tk) K) : HL P w0 S nt c s K := fun ρ a cs w hs => let ⟨ρ', h'⟩ := hs.ren hS m sl ob tk h; hk ρ' a cs w h'
theorem HO.ren (hS : Std W0 w0 S n0) {ops : Array Oper} {i : Nat} (m : List Nat) (sl : List (Nat × Value)) (ob : List (Nat × AObj)) (tk : List Nat) (h : (renT m s.tmps sl, renOs m s.σ ob, s.defers.isEmpty, renB n0 m s.σ ob tk) = (renTw sl, wantO ob, true, true))
  (hk : HO P w0 S nt ops i (mkS sl ob m.length tk) K) : HO P w0 S nt ops i s K := fun ho ρ a cs w hs => let ⟨ρ', h'⟩ := hs.ren hS m sl ob tk h; hk ho ρ' a cs w h'
theorem Kseq_exit {q : Code} {i : Nat} (h : K (.exit i) s) : Kseq P w0 S nt q K (.exit i) s := h
theorem Kseq_ret {q : Code} (h : K .ret s) : Kseq P w0 S nt q K .ret s := h
theorem Kseq_pan {q : Code} {ch : List PanicEntry} (h : K (.panic ch) s) : Kseq P w0 S nt q K (.panic ch) s := h
theorem Kseq_norm {q : Code} (h : H P w0 S nt q s K) : Kseq P w0 S nt q K .normal s := h
theorem Kblock_hit {i : Nat} (h : K .normal s) : Kblock i K (.exit i) s := by simp only [Kblock]; exact h
theorem Kblock_norm {i : Nat} (h : K .normal s) : Kblock i K .normal s := h
theorem Kblock_ret {i : Nat} (h : K .ret s) : Kblock i K .ret s := h
theorem Kblock_pan {i : Nat} {ch : List PanicEntry} (h : K (.panic ch) s) : Kblock i K (.panic ch) s := h
theorem Kloop_norm {q : Code} (h : HL P w0 S nt q s K) : Kloop P w0 S nt q K .normal s := h
theorem Kloop_exit {q : Code} {i : Nat} (h : K (.exit i) s) : Kloop P w0 S nt q K (.exit i) s := h
theorem Kloop_ret {q : Code} (h : K .ret s) : Kloop P w0 S nt q K .ret s := h
theorem Kloop_pan {q : Code} {ch : List PanicEntry} (h : K (.panic ch) s) : Kloop P w0 S nt q K (.panic ch) s := h
theorem H.exitI (i : Nat) (hc : (kindC c, idC c) = (8, i)) (h : K (.exit i) s) : H P w0 S nt c s K := by
 simp only [Prod.mk.injEq] at hc
 have := H.exitP (P := P) (w0 := w0) (S := S) (nt := nt) (s := s) (K := K) (c := c) hc.1
 rw [hc.2] at this
 exact this h
theorem H.blockI (i : Nat) (hc : (kindC c, idC c) = (3, i)) (h : H P w0 S nt (cL c) s (Kblock i K)) : H P w0 S nt c s K := by
 simp only [Prod.mk.injEq] at hc
 have := H.blockP (P := P) (w0 := w0) (S := S) (nt := nt) (s := s) (K := K) (c := c) hc.1
 rw [hc.2] at this
 exact this h
end
inductive Shp where
 | keep
 | list (k : Nat) (ex : Bool)
 | agg (l : List Shp)
 | tuple (l : List Shp)
def wkTo : Nat → Shp → Value → Option Value
 | _, .keep, v => some v
 | _, .list k ex, .slice none 0 0 => some (lst k ex #[])
 | _, .list k ex, .func (.methodOf k' nm) f es => match f.toList with
  | [.bool ex'] => if k = k' ∧ nm = "" ∧ (ex = true → ex' = true) then some (lst k ex es) else none
  | [.pointer (some ⟨τ, 0, none⟩)] => if k = k' ∧ nm = "" ∧ ex = false then some (lst k false es) else none
  | _ => none
 | n + 1, .agg l, .agg cs => match wkL n l cs.toList with
  | some cs' => some (.agg cs'.toArray)
  | none => none
 | n + 1, .tuple l, .tuple cs => match wkL n l cs.toList with
  | some cs' => some (.tuple cs'.toArray)
  | none => none
 | _, _, _ => none
where
 wkL (n : Nat) : List Shp → List Value → Option (List Value)
  | [], [] => some []
  | p :: l, v :: vs => match wkTo n p v, wkL n l vs with
   | some v', some vs' => some (v' :: vs')
   | _, _ => none
  | _, _ => none
section
variable {ρ : Rho}
theorem wk_trans : ∀ (n : Nat) (p : Shp) (v v' : Value), wkTo n p v = some v' → Trans ρ ρ v v' := by
 have leaf : ∀ (n : Nat) (k : Nat) (ex : Bool) (v v' : Value), wkTo n (.list k ex) v = some v' → Trans ρ ρ v v' := by
  intro n k ex v v' h
  unfold wkTo at h
  split at h
  ·rename_i e; cases e
  ·rename_i e
   cases e
   cases h
   intro u hu
   rw [hu.slice0_inv]
   exact .pure (PRel.lst (A := none) (c := 0) (g := fun _ => undef) (by simp) (fun _ => rfl) (fun _ => rfl) (fun i v h => by simp at h) (fun h => by simp at h) (fun i v j u h => by simp at h)) rfl
  ·rename_i k2 ex2 k' nm f es e
   cases e
   split at h
   ·rename_i ex' hf
    split at h
    ·rename_i hc
     cases h
     have : f = #[.bool ex'] := by rw [← Array.toArray_toList (xs := f), hf]
     subst this
     obtain ⟨rfl, rfl, hx⟩ := hc
     intro u hu
     obtain ⟨A, c, g, rfl, h1, h2, h3, h4, h5, h6⟩ := hu.lst_inv
     exact .pure (PRel.lst h1 (fun e => h2 (hx e)) h3 h4 h5 h6) rfl
    ·exact absurd h (by simp)
   ·rename_i τ hf
    split at h
    ·rename_i hc
     cases h
     have : f = #[.pointer (some ⟨τ, 0, none⟩)] := by rw [← Array.toArray_toList (xs := f), hf]
     subst this
     obtain ⟨rfl, rfl, rfl⟩ := hc
     exact Trans.untok _ _ _
    ·exact absurd h (by simp)
   ·exact absurd h (by simp)
  ·rename_i e; cases e
  ·rename_i e; cases e
  ·exact absurd h (by simp)
 intro n
 induction n with
 | zero =>
  intro p v v' h
  cases p with
  | keep => simp [wkTo] at h; subst h; exact .refl v
  | list k ex => exact leaf 0 k ex v v' h
  | agg l => simp [wkTo] at h
  | tuple l => simp [wkTo] at h
 | succ n ih =>
  have lst : ∀ (l : List Shp) (a b : List Value), wkTo.wkL n l a = some b → TransL ρ ρ a b := by
   intro l
   induction l with
   | nil => intro a b h; cases a <;> simp [wkTo.wkL] at h; subst h; trivial
   | cons p l ihl =>
    intro a b h
    cases a with
    | nil => simp [wkTo.wkL] at h
    | cons v vs =>
     simp only [wkTo.wkL] at h
     split at h
     ·rename_i v' vs' h1 h2; cases h; exact ⟨ih _ _ _ h1, ihl _ _ h2⟩
     ·exact absurd h (by simp)
  intro p v v' h
  cases p with
  | keep => simp [wkTo] at h; subst h; exact .refl v
  | list k ex => exact leaf (n + 1) k ex v v' h
  | agg l =>
   cases v with
   | agg cs =>
    simp only [wkTo] at h
    split at h
    ·rename_i cs' hc; cases h; exact .agg (by simpa using lst _ _ _ hc)
    ·exact absurd h (by simp)
   | _ => simp [wkTo] at h
  | tuple l =>
   cases v with
   | tuple cs =>
    simp only [wkTo] at h
    split at h
    ·rename_i cs' hc; cases h; exact .tuple (by simpa using lst _ _ _ hc)
    ·exact absurd h (by simp)
   | _ => simp [wkTo] at h
end
section
variable {P : Program} {W0 w0 : World} {S : Own} {nt n0 : Nat} {s s' : St} {K K' : Cont} {c : Code}
theorem KEnd.retW {fn : Func} {x : AExit} {v v' : Value} (p : Shp) (hx : (match x with | .normal => true | .ret => true | _ => false) = true) (h : leaves P (exec P .none Ext.none 60 true) fn s.tmps s.defers .returning s.σ = .ok (.returned v, s.σ)) (hw : wkTo 12 p v = some v') (hp : pureB v' = true) :
  KEnd P fn (PEnd w0 S (.returned v')) x s := by
 refine ⟨.returning, 60, .returned v, s.σ, .inl ⟨?_, rfl⟩, h, ?_⟩
 ·cases x <;> simp at hx <;> simp
 ·exact PEnd.chg (fun ρ w hR => ⟨ρ, hR, wk_trans _ _ _ _ hw⟩) (PEnd.pure (PureV.of hp))
theorem HO.wk {ops : Array Oper} {i : Nat} (d : Nat) (p : Shp) {v' : Value} (h : (s.tmps.has d, wkTo 12 p (s.tmps.get d)) = (true, some v')) (hk : HO P w0 S nt ops i { s with tmps := .put d v' s.tmps } K) : HO P w0 S nt ops i s K := by
 simp only [Prod.mk.injEq] at h
 intro hops ρ a cs w hs
 refine hk hops ρ a cs w ⟨⟨hs.t.size, fun j hj hh => ?_⟩, hs.ds, hs.cs, hs.r⟩
 by_cases e : d = j
 ·subst e
  rw [Tm.put_same]
  exact wk_trans _ _ _ _ h.2 _ (hs.t.at_ d hj h.1)
 ·have hg := Tm.gh_other (d := d) (i := j) v' s.tmps e
  show VRel ρ ((Tm.put d v' s.tmps).get j) _
  rw [Tm.gh_get hg]
  exact hs.t.at_ j hj (by rw [← Tm.gh_has hg]; exact hh)
theorem HO.tokNil {ops : Array Oper} {i : Nat} (d : Nat) (k : Nat) (h : (s.tmps.has d, s.tmps.get d, Nat.blt s.σ.next (2 ^ D)) = (true, .slice none 0 0, true)) (hk : HO P w0 S nt ops i { s with tmps := .put d (tls k s.σ.next #[]) s.tmps, σ := s.σ.newTok s.σ.toks } K) : HO P w0 S nt ops i s K := by
 simp only [Prod.mk.injEq] at h
 obtain ⟨h1, h2, h3⟩ := h
 intro hops ρ a cs w hs
 obtain ⟨ρ', hle, hR, hnil, _⟩ := hs.r.tokNil (blt_t h3)
 refine hk hops ρ' a cs w ⟨⟨hs.t.size, fun j hj hh => ?_⟩, hs.ds.mono hle, rfl, hR⟩
 by_cases e : d = j
 ·subst e
  rw [Tm.put_same]
  have := hs.t.at_ d hj h1
  rw [h2] at this
  exact hnil k _ this
 ·have hg := Tm.gh_other (d := d) (i := j) (tls k s.σ.next #[]) s.tmps e
  show VRel ρ' ((Tm.put d (tls k s.σ.next #[]) s.tmps).get j) _
  rw [Tm.gh_get hg]
  exact (hs.t.at_ j hj (by rw [← Tm.gh_has hg]; exact hh)).mono hle
end
end Vx
end Go
