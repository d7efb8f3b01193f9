import Derived.Test.YtcokmnpgeokfpaaDoorAmRun4
/- The abstract machine's runs and the model's: calls. -/
set_option linter.unusedVariables false
set_option linter.unusedSimpArgs false
namespace Go
namespace Am
section
variable {P : Program} {w0 : World} {S : Own}

theorem fill_get : ∀ (l : List Value) (i j : Nat), (Tm.fill l i).get j = if i ≤ j ∧ j < i + l.length then l.getD (j - i) undef else undef
  | [], i, j => by
    rw [if_neg (by simp)]
    rfl
  | v :: l, i, j => by
    simp only [Tm.fill]
    by_cases h2 : j = i
    · subst h2
      rw [Tm.put_same, if_pos (by simp)]
      simp
    · rw [Tm.put_other _ _ (Ne.symm h2), fill_get l (i + 1) j]
      by_cases h1 : i + 1 ≤ j ∧ j < i + 1 + l.length
      · rw [if_pos h1, if_pos (by simp; omega), show j - i = (j - (i + 1)) + 1 by omega]
        simp
      · rw [if_neg h1, if_neg (by simp; omega)]

theorem start_rel {ρ : Rho} {nt : Nat} {args args' : Array Value} (ha : ARel ρ args args') (hsz : args.size ≤ nt) :
    TRel ρ nt (Tm.fill args.toList 0) (args' ++ Array.replicate (nt - args'.size) undef) := by
  have hs := ha.1
  refine ⟨by simp; omega, fun i hi => ?_⟩
  rw [fill_get, Array.getD_eq_getD_getElem?]
  by_cases h : i < args.size
  · rw [if_pos (by simp; exact h)]
    rw [Array.getElem?_append_left (by omega), Array.getElem?_eq_getElem (by omega)]
    rw [List.getD_eq_getElem?_getD]
    simp only [Nat.sub_zero, Array.getElem?_toList, Array.getElem?_eq_getElem h, Option.getD_some]
    exact ha.2 i _ _ (Array.getElem?_eq_getElem h) (Array.getElem?_eq_getElem (by omega))
  · rw [if_neg (by simp; omega)]
    rw [Array.getElem?_append_right (by omega), Array.getElem?_replicate]
    split <;> exact undef_rel ρ

/- results -/
def resFn (tmps : Array Value) : ResultVar → Sem Value
  | .tmp t => pure (tmps.getD t undef)
  | .cell a t => do loadVar t (← asAddr (tmps.getD a undef))

theorem results_eq (fn : Func) (tmps : Array Value) : results fn tmps = (do let vs ← fn.results.mapM (resFn tmps); pure (if h : vs.size = 1 then vs[0] else .tuple vs)) := by
  unfold results
  congr 1

theorem results_list {ρ : Rho} {nt : Nat} {t : Tm} {σ : AW} {w : World} {tmps : Array Value} (hT : TRel ρ nt t tmps) (hR : R w0 S σ ρ w) : ∀ {l : List ResultVar} {vs : List Value}, resultsA P nt t σ l = some vs →
    ∃ vs', (l.mapM (m := Sem) (resFn tmps)).run P w = .ok vs' w ∧ LRel ρ vs vs'
  | [], vs, h => by
    simp only [resultsA, Option.some.injEq] at h
    subst h
    exact ⟨[], by simp, .nil⟩
  | .tmp d :: l, vs, h => by
    unfold resultsA at h
    split at h
    · rename_i vs1 hd hl
      cases h
      obtain ⟨vs', h1, h2⟩ := results_list hT hR hl
      refine ⟨tmps.getD d undef :: vs', ?_, .cons (hT.at_ d (blt_t hd)) h2⟩
      simp only [List.mapM_cons, resFn, Sem.run_bind, Sem.run_pure, Result.andThen_ok, h1]
    · exact absurd h (by simp)
  | .cell a ty :: l, vs, h => by
    unfold resultsA at h
    split at h
    · rename_i v vs1 hd hv hl
      cases h
      obtain ⟨vs', h1, h2⟩ := results_list hT hR hl
      have hrel := hT.at_ a (blt_t hd)
      obtain ⟨v', hrun, hvr⟩ := ok_load (P := P) hR hv hrel
      refine ⟨v' :: vs', ?_, .cons hvr h2⟩
      have : (do loadVar ty (← asAddr (tmps.getD a undef)) : Sem Value).run P w = .ok v' w := by
        rw [← hrun]
        generalize tmps.getD a undef = q at hrel
        have hp : ∃ b, q = .pointer (some b) := by
          unfold loadA at hv
          split at hv
          · rename_i he
            simp only [ev] at he
            rw [he] at hrel
            cases hrel
            exact ⟨_, rfl⟩
          · exact absurd hv (by simp)
        obtain ⟨b, rfl⟩ := hp
        simp [asAddr, Instr.loadAt, Instr.sureAddr]
      simp only [List.mapM_cons, resFn, Sem.run_bind, Sem.run_pure] at this ⊢
      rw [this]
      simp only [Result.andThen_ok, h1]
    · exact absurd h (by simp)

theorem results_sound {ρ : Rho} {fn : Func} {t : Tm} {σ : AW} {w : World} {tmps : Array Value} (hT : TRel ρ fn.ntmps t tmps) (hR : R w0 S σ ρ w) {vs : List Value} (h : resultsA P fn.ntmps t σ fn.results.toList = some vs) :
    ∃ v', (results fn tmps).run P w = .ok v' w ∧ VRel ρ (oneOf vs) v' := by
  obtain ⟨vs', h1, h2⟩ := results_list (P := P) hT hR h
  refine ⟨if h : vs'.toArray.size = 1 then vs'.toArray[0] else .tuple vs'.toArray, ?_, ?_⟩
  · rw [results_eq, Array.mapM_eq_mapM_toList]
    simp only [Sem.run_bind, Sem.run_map, h1, Result.andThen_ok, Sem.run_pure]
  · have hlen := h2.1
    match vs, vs', h2 with
    | [], [], _ => exact plain_rel ρ rfl
    | [v], [v'], h2 =>
      have := h2.2 0 v v' rfl rfl
      simpa [oneOf] using this
    | v :: u :: l, v' :: u' :: l', h2 =>
      have := h2.toA
      simp only [oneOf]
      rw [dif_neg (by simp)]
      exact .tuple this.1 this.2

/- modes -/
theorem ChRel.of_cons {ρ : Rho} {x : PanicEntry} {l m : List PanicEntry} (h : ChRel ρ (x :: l) m) : ∃ y m', m = y :: m' ∧ VRel ρ x.v y.v ∧ x.recovered = y.recovered ∧ x.goexit = y.goexit ∧ ChRel ρ l m' := by
  cases m with
  | nil => have := h.1; simp at this
  | cons y m' =>
    obtain ⟨a, b, c⟩ := h.2 0 x y rfl rfl
    exact ⟨y, m', rfl, a, b, c, by have := h.1; simpa using this, fun i u v p q => h.2 (i + 1) u v (by simpa using p) (by simpa using q)⟩

theorem drop_rel {ρ : Rho} : ∀ {l m : List PanicEntry}, ChRel ρ l m → ChRel ρ (l.dropWhile (!·.goexit)) (m.dropWhile (!·.goexit))
  | [], m, h => by
    have : m = [] := List.eq_nil_of_length_eq_zero h.1.symm
    subst this
    exact h
  | x :: l, m, h => by
    obtain ⟨y, m', rfl, a, b, c, d⟩ := h.of_cons
    simp only [List.dropWhile_cons, c]
    split
    · exact drop_rel d
    · exact h

theorem settle_rel {ρ : Rho} {u u' : FrameMode} (h : MoRel ρ u u') : MoRel ρ (settle u) (settle u') := by
  cases u with
  | run => cases u' <;> first | exact h | exact h.elim
  | returning => cases u' <;> first | exact h | exact h.elim
  | panicking l =>
    cases u' with
    | run => exact h.elim
    | returning => exact h.elim
    | panicking m =>
      cases l with
      | nil =>
        have : m = [] := List.eq_nil_of_length_eq_zero h.1.symm
        subst this
        exact h
      | cons x l =>
        obtain ⟨y, m', rfl, a, b, c, d⟩ := ChRel.of_cons h
        obtain ⟨xv, xr, xg⟩ := x
        obtain ⟨yv, yr, yg⟩ := y
        simp only at b c
        subst b; subst c
        cases xr with
        | false => exact h
        | true =>
          have hd := drop_rel d
          simp only [settle]
          cases hl : l.dropWhile (!·.goexit) with
          | nil =>
            rw [hl] at hd
            have : m'.dropWhile (!·.goexit) = [] := List.eq_nil_of_length_eq_zero hd.1.symm
            rw [this]
            trivial
          | cons z zs =>
            rw [hl] at hd
            obtain ⟨y2, m2, e, _⟩ := ChRel.of_cons hd
            rw [e] at hd ⊢
            exact hd

def ExtOk (P : Program) (w0 : World) (S : Own) (Y : Ext) : Prop :=
  ∀ f args σ e σ', Y f args σ = some (e, σ') → ∀ ρ w args', ARel ρ args args' → R w0 S σ ρ w →
    Calls P f args' w fun e' w' => ∃ ρ', ρ.le ρ' ∧ ERel ρ' e e' ∧ R w0 S σ' ρ' w'

theorem ExtOk.none (P : Program) (w0 : World) (S : Own) : ExtOk P w0 S Ext.none := fun _ _ _ _ _ h => by simp [Ext.none] at h

def BodyOk (P : Program) (w0 : World) (S : Own) (d : Bool) (exec : Nat → Code → St → Res (AExit × St)) : Prop :=
  ∀ nt c s x s', exec nt c s = .ok (x, s') → ∀ ρ a cs0 cs w, SRel w0 S d nt cs0 ρ s a cs w → W P d c (Post w0 S d nt cs0 ρ x s') a cs w

theorem leaves_mono {fn : Func} {tmps : Array Value} {Q Q' : Ending → World → Prop} (hq : ∀ e w, Q e w → Q' e w) : ∀ {ds : List Deferred} {u : FrameMode} {w : World}, Leaves P fn tmps Q ds u w → Leaves P fn tmps Q' ds u w
  | [], .returning, w, ⟨v, a, b⟩ => ⟨v, a, hq _ _ b⟩
  | [], .panicking _, w, h => hq _ _ h
  | [], .run, _, h => h
  | d :: ds, u, w, ⟨h1, fv, cap, f, args, h2, h3, h4⟩ => ⟨h1, fv, cap, f, args, h2, h3, CallsD.mono h4 fun e u' w' h => by
      cases e with
      | returned v => exact leaves_mono hq h
      | panicked ch => exact leaves_mono hq h
      | outgrown => exact hq _ _ h⟩

theorem leaves_sound {execD : Nat → Code → St → Res (AExit × St)} (hD : BodyOk P w0 S true execD) {fn : Func} {t : Tm} {tmps : Array Value} : ∀ (ds : List Deferred) (u : FrameMode) (σ : AW) (e : AEnd) (σ' : AW),
    leaves P execD fn t ds u σ = .ok (e, σ') → ∀ (ρ : Rho) (ds' : List Deferred) (u' : FrameMode) (w : World), TRel ρ fn.ntmps t tmps → DsRel ρ ds ds' → MoRel ρ u u' → R w0 S σ ρ w →
      Leaves P fn tmps (fun e' w' => ∃ ρ', ρ.le ρ' ∧ ERel ρ' e e' ∧ R w0 S σ' ρ' w') ds' u' w := by
  intro ds
  induction ds with
  | nil =>
    intro u σ e σ' h ρ ds' u' w hT hds hu hR
    cases ds' with
    | cons => exact hds.elim
    | nil =>
    cases u with
    | run => simp [leaves] at h
    | returning =>
      cases u' with
      | run => exact hu.elim
      | panicking => exact hu.elim
      | returning =>
        simp only [leaves] at h
        split at h
        · rename_i vs hvs
          simp only [Res.ok.injEq, Prod.mk.injEq] at h
          obtain ⟨rfl, rfl⟩ := h
          obtain ⟨v', h1, h2⟩ := results_sound hT hR hvs
          exact ⟨v', h1, ρ, ρ.le_refl, h2, hR⟩
        · exact absurd h (by simp)
    | panicking ch =>
      cases u' with
      | run => exact hu.elim
      | returning => exact hu.elim
      | panicking ch' =>
        simp only [leaves, Res.ok.injEq, Prod.mk.injEq] at h
        obtain ⟨rfl, rfl⟩ := h
        exact ⟨ρ, ρ.le_refl, hu, hR⟩
  | cons d ds ih =>
    intro u σ e σ' h ρ ds' u' w hT hds hu hR
    cases ds' with
    | nil => exact hds.elim
    | cons d' ds' =>
    obtain ⟨⟨f, c, c', x, x', rfl, rfl, hcc, hxx⟩, hds⟩ := hds
    unfold leaves at h
    simp only at h
    split at h
    · rename_i f1 captured hu1 htg
      cases htg
      split at h
      · rename_i fd hfd
        have hargs : ARel ρ (x ++ c) (x' ++ c') := ARel.append hxx hcc
        have hrun : u' ≠ .run := by
          intro e
          subst e
          cases u with
          | run => simp [isRun] at hu1
          | returning => exact hu.elim
          | panicking => exact hu.elim
        -- the deferred call's end
        have fin : ∀ (xx : AExit) (s : St), (xx = .normal ∨ xx = .ret) → body P execD fd (x ++ c) u σ = .ok (xx, s) → s.defers = [] → (∃ vs, resultsA P fd.ntmps s.tmps s.σ fd.results.toList = some vs) → (fd.name == "runtime.NumGoroutine") = false →
            leaves P execD fn t ds (settle s.mode) s.σ = .ok (e, σ') →
            Leaves P fn tmps (fun e' w' => ∃ ρ', ρ.le ρ' ∧ ERel ρ' e e' ∧ R w0 S σ' ρ' w') ({ target := .fn (.func f) c', args := x' } :: ds') u' w := by
          intro xx s hxx2 hb hsd hvs hname hl
          unfold body at hb
          split at hb
          · rename_i code hcode hsz
            have hasz := ble_t hsz
            have hname' : ¬ fd.name = "runtime.NumGoroutine" := by simpa using hname
            refine leaves_cons (f := f) (args := x' ++ c') hrun (by simp [invoke, callFunc, hfd, hname', hcode]) ?_
            refine callsD_of_wpS hfd hcode ?_
            intro c₀ cs hc0
            have hin : SRel w0 S true fd.ntmps (c₀ :: cs) ρ { tmps := Tm.fill (x ++ c).toList 0, defers := [], mode := u, σ := σ } { tmps := (x' ++ c') ++ Array.replicate (fd.ntmps - (x' ++ c').size) undef, defers := [] } (c₀ :: cs) w :=
              ⟨start_rel hargs hasz, trivial, ⟨c₀, cs, u', rfl, by subst hc0; rfl, hu⟩, hR⟩
            have hW := hD _ _ _ _ _ hb _ _ _ _ _ hin
            intro b k hb1 hb2
            obtain ⟨e1, a1, cs1, w1, hq, harr⟩ := hW b k hb1 hb2
            refine ⟨e1, a1, cs1, w1, ?_, harr⟩
            obtain ⟨ρ1, hle1, hx1, hT1, hds1, ⟨c0', rest, u1', e0, e0', hmo⟩, hR1⟩ := hq
            simp only [List.cons.injEq] at e0
            obtain ⟨rfl, rfl⟩ := e0
            obtain ⟨vs, hvs⟩ := hvs
            obtain ⟨v', hv1, hv2⟩ := results_sound hT1 hR1 hvs
            have hnext := ih (settle s.mode) s.σ e σ' hl ρ1 ds' (settle u1') w1 (hT.mono hle1) (hds.mono hle1) (settle_rel hmo) hR1
            have hdnil : a1.defers = [] := by
              rw [hsd] at hds1
              cases hq : a1.defers with
              | nil => rfl
              | cons z zs => rw [hq] at hds1; exact hds1.elim
            have hpost : a1.defers = [] ∧ ∃ u2, cs1 = { c₀ with mode := u2 } :: cs ∧ ∃ v, (results fd a1.tmps).run P w1 = .ok v w1 ∧ Leaves P fn tmps (fun e' w' => ∃ ρ', ρ.le ρ' ∧ ERel ρ' e e' ∧ R w0 S σ' ρ' w') ds' (settle u2) w1 := by
              refine ⟨hdnil, u1', e0', v', hv1, ?_⟩
              exact leaves_mono (fun e2 w2 ⟨r, q1, q2, q3⟩ => ⟨r, Rho.le_trans hle1 q1, q2, q3⟩) hnext
            rcases hxx2 with rfl | rfl
            · cases e1 <;> first | exact hpost | exact hx1.elim
            · cases e1 <;> first | exact hpost | exact hx1.elim
          · exact absurd hb (by simp)
        split at h
        · rename_i s hname hb
          split at h
          · rename_i vs hsd hvs
            exact fin _ s (.inl rfl) hb hsd ⟨_, hvs⟩ hname h
          · exact absurd h (by simp)
        · rename_i s hname hb
          split at h
          · rename_i vs hsd hvs
            exact fin _ s (.inr rfl) hb hsd ⟨_, hvs⟩ hname h
          · exact absurd h (by simp)
        · exact absurd h (by simp)
        · exact absurd h (by simp)
      · exact absurd h (by simp)
    · exact absurd h (by simp)

theorem call_sound {Y : Ext} (hY : ExtOk P w0 S Y) {exec execD : Nat → Code → St → Res (AExit × St)} (hN : BodyOk P w0 S false exec) (hD : BodyOk P w0 S true execD) : CallsOk P w0 S (callWith P Y exec execD) := by
  intro f args σ e σ' h ρ w args' ha hR
  unfold callWith at h
  split at h
  · rename_i r hr
    simp only [Res.ok.injEq] at h
    subst h
    exact hY _ _ _ _ _ hr ρ w args' ha hR
  split at h
  · rename_i fn hf
    have key : ∀ (x : AExit) (s : St) (u : FrameMode), body P exec fn args .run σ = .ok (x, s) → ((x = .normal ∨ x = .ret) ∧ u = .returning ∨ ∃ ch, x = .panic ch ∧ u = .panicking ch) →
        leaves P execD fn s.tmps s.defers u s.σ = .ok (e, σ') → Calls P f args' w fun e' w' => ∃ ρ', ρ.le ρ' ∧ ERel ρ' e e' ∧ R w0 S σ' ρ' w' := by
      intro x s u hb hxu hl cs
      unfold body at hb
      split at hb
      · rename_i code hcode hsz
        have hin : SRel w0 S false fn.ntmps cs ρ { tmps := Tm.fill args.toList 0, defers := [], mode := .run, σ := σ } { tmps := args' ++ Array.replicate (fn.ntmps - args'.size) undef, defers := [] } cs w :=
          ⟨start_rel ha (ble_t hsz), trivial, rfl, hR⟩
        have hW := hN _ _ _ _ _ hb _ _ _ _ _ hin
        let b : Frame := { (default : Frame) with fn := f, kind := .normal }
        have henter : Frame.enter P f args' .normal = b.at { tmps := args' ++ Array.replicate (fn.ntmps - args'.size) undef, defers := [] } [.code code] := by
          simp [Frame.enter, Frame.at, hf, hcode, b]
        obtain ⟨e1, a1, cs1, w1, hq, harr⟩ := hW b [] rfl rfl
        rw [← henter] at harr
        obtain ⟨ρ1, hle1, hx1, hT1, hds1, hcs1, hR1⟩ := hq
        have hcs1 : cs1 = cs := hcs1
        subst hcs1
        have fin : ∀ (u' : FrameMode) (todo : List Item), MoRel ρ1 u u' → Steps P (lone (Frame.enter P f args' .normal) cs1 w) (lone { b.at a1 todo with mode := u' } cs1 w1) →
            ∃ e' w' fr, (∃ ρ', ρ.le ρ' ∧ ERel ρ' e e' ∧ R w0 S σ' ρ' w') ∧ Comes P (lone (Frame.enter P f args' .normal) cs1 w) (lone fr cs1 w') e' ∧ fr.fn = f ∧ fr.leaving P w' e' := by
          intro u' todo hmo hst
          have hL := leaves_sound hD s.defers u s.σ e σ' hl ρ1 a1.defers u' w1 hT1 hds1 hmo hR1
          obtain ⟨e2, w2, fr2, hR2, hs2, hfn2, hl2⟩ := leaves_steps a1.defers u' w1 { b.at a1 todo with mode := u' } cs1 rfl rfl rfl hf rfl hL
          obtain ⟨ρ2, q1, q2, q3⟩ := hR2
          exact ⟨e2, w2, fr2, ⟨ρ2, Rho.le_trans hle1 q1, q2, q3⟩, Comes.of_steps hst hs2, hfn2, hl2⟩
        rcases hxu with ⟨hx, rfl⟩ | ⟨ch, rfl, rfl⟩
        · have hx2 : e1 = .normal ∨ e1 = .ret := by
            rcases hx with rfl | rfl <;> cases e1 <;> first | exact .inl rfl | exact .inr rfl | exact hx1.elim
          rcases hx2 with rfl | rfl
          · exact fin .returning [] trivial (Steps.trans harr (.one step_end))
          · obtain ⟨todo, hs⟩ := harr
            exact fin .returning todo trivial hs
        · cases e1 with
          | panic ch' =>
            obtain ⟨todo, hs⟩ := harr
            exact fin (.panicking ch') todo hx1 hs
          | _ => exact hx1.elim
      · exact absurd hb (by simp)
    split at h
    · rename_i s hb; exact key _ s .returning hb (.inl ⟨.inl rfl, rfl⟩) h
    · rename_i s hb; exact key _ s .returning hb (.inl ⟨.inr rfl, rfl⟩) h
    · rename_i ch s hb; exact key _ s (.panicking ch) hb (.inr ⟨ch, rfl, rfl⟩) h
    · exact absurd h (by simp)
    · exact absurd h (by simp)
  · exact absurd h (by simp)

theorem exec_sound [NoEx P S] {X : Facts} {Y : Ext} (hX : FactsOk P X S) (hY : ExtOk P w0 S Y) : ∀ (n : Nat) (d : Bool) (nt : Nat) (c : Code) (s : St) (x : AExit) (s' : St), exec P X Y n d nt c s = .ok (x, s') → ∀ ρ a cs0 cs w, SRel w0 S d nt cs0 ρ s a cs w →
    W P d c (Post w0 S d nt cs0 ρ x s') a cs w ∧ ∀ b, c = .loop b → WLoop P d b (Post w0 S d nt cs0 ρ x s') a cs w := by
  intro n
  induction n with
  | zero => intro d nt c s x s' h; simp [exec] at h
  | succ n ih =>
    intro d nt c s x s' h ρ a cs0 cs w hs
    have wp1 : ∀ {c0 : Code} {e : Exit}, (∀ {Q : Exit → Act → World → Prop}, Q e a w → c0.wp P Q a w) → ∀ {x0 : AExit}, XRel ρ x0 e → W P d c0 (Post w0 S d nt cs0 ρ x0 s) a cs w := by
      intro c0 e hw x0 hx
      exact W.of_wp (hw (hs.post hx))
    cases c with
    | skip =>
      simp only [exec, Res.ok.injEq, Prod.mk.injEq] at h
      obtain ⟨rfl, rfl⟩ := h
      exact ⟨wp1 (e := .normal) (fun h => wp_skip h) trivial, fun b e => by simp at e⟩
    | ret =>
      simp only [exec, Res.ok.injEq, Prod.mk.injEq] at h
      obtain ⟨rfl, rfl⟩ := h
      exact ⟨wp1 (e := .ret) (fun h => wp_ret h) trivial, fun b e => by simp at e⟩
    | exit id =>
      simp only [exec, Res.ok.injEq, Prod.mk.injEq] at h
      obtain ⟨rfl, rfl⟩ := h
      exact ⟨wp1 (e := .exit id) (fun h => wp_exit h) rfl, fun b e => by simp at e⟩
    | seq p q =>
      refine ⟨?_, fun b e => by simp at e⟩
      simp only [exec] at h
      cases hp : exec P X Y n d nt p s with
      | bad w => rw [hp] at h; simp at h
      | ok r =>
        obtain ⟨x1, s1⟩ := r
        rw [hp] at h
        have h1 := (ih _ _ _ _ _ _ hp _ _ _ _ _ hs).1
        refine W.seq (W.mono h1 ?_)
        rintro e a1 cs1 w1 ⟨ρ1, hle1, hx1, hT1, hds1, hcs1, hR1⟩
        cases x1 with
        | normal =>
          cases e with
          | normal =>
            simp only at h
            exact W.mono (ih _ _ _ _ _ _ h _ _ cs0 _ _ ⟨hT1, hds1, hcs1, hR1⟩).1 fun e a cs w p => Post.le hle1 p
          | _ => exact hx1.elim
        | exit i =>
          simp only [Res.ok.injEq, Prod.mk.injEq] at h
          obtain ⟨rfl, rfl⟩ := h
          cases e with
          | exit j => exact ⟨ρ1, hle1, hx1, hT1, hds1, hcs1, hR1⟩
          | _ => exact hx1.elim
        | ret =>
          simp only [Res.ok.injEq, Prod.mk.injEq] at h
          obtain ⟨rfl, rfl⟩ := h
          cases e with
          | ret => exact ⟨ρ1, hle1, hx1, hT1, hds1, hcs1, hR1⟩
          | _ => exact hx1.elim
        | panic ch =>
          simp only [Res.ok.injEq, Prod.mk.injEq] at h
          obtain ⟨rfl, rfl⟩ := h
          cases e with
          | panic ch' => exact ⟨ρ1, hle1, hx1, hT1, hds1, hcs1, hR1⟩
          | _ => exact hx1.elim
    | cond c p q =>
      refine ⟨?_, fun b e => by simp at e⟩
      simp only [exec] at h
      split at h
      · rename_i hok hc
        have hrel := ev_rel hs.t hok
        rw [hc] at hrel
        have hc' : a.eval c = .bool true := (plain_eq hrel rfl).symm
        exact W.cond hc' (ih _ _ _ _ _ _ h _ _ _ _ _ hs).1
      · rename_i hok hc
        have hrel := ev_rel hs.t hok
        rw [hc] at hrel
        have hc' : a.eval c = .bool false := (plain_eq hrel rfl).symm
        exact W.cond hc' (ih _ _ _ _ _ _ h _ _ _ _ _ hs).1
      · exact absurd h (by simp)
    | block id p =>
      refine ⟨?_, fun b e => by simp at e⟩
      simp only [exec] at h
      cases hp : exec P X Y n d nt p s with
      | bad w => rw [hp] at h; simp at h
      | ok r =>
        obtain ⟨x1, s1⟩ := r
        rw [hp] at h
        have h1 := (ih _ _ _ _ _ _ hp _ _ _ _ _ hs).1
        refine W.block (W.mono h1 ?_)
        rintro e a1 cs1 w1 ⟨ρ1, hle1, hx1, hT1, hds1, hcs1, hR1⟩
        cases x1 with
        | normal =>
          simp only [Res.ok.injEq, Prod.mk.injEq] at h
          obtain ⟨rfl, rfl⟩ := h
          cases e with
          | normal => exact ⟨ρ1, hle1, hx1, hT1, hds1, hcs1, hR1⟩
          | _ => exact hx1.elim
        | exit i =>
          simp only at h
          cases e with
          | exit j =>
            have hij : i = j := hx1
            subst hij
            unfold inBlockS
            simp only
            split at h
            · rename_i he
              simp only [Res.ok.injEq, Prod.mk.injEq] at h
              obtain ⟨rfl, rfl⟩ := h
              rw [if_pos he]
              exact ⟨ρ1, hle1, trivial, hT1, hds1, hcs1, hR1⟩
            · rename_i he
              simp only [Res.ok.injEq, Prod.mk.injEq] at h
              obtain ⟨rfl, rfl⟩ := h
              rw [if_neg he]
              exact ⟨ρ1, hle1, rfl, hT1, hds1, hcs1, hR1⟩
          | _ => exact hx1.elim
        | ret =>
          simp only [Res.ok.injEq, Prod.mk.injEq] at h
          obtain ⟨rfl, rfl⟩ := h
          cases e with
          | ret => exact ⟨ρ1, hle1, hx1, hT1, hds1, hcs1, hR1⟩
          | _ => exact hx1.elim
        | panic ch =>
          simp only [Res.ok.injEq, Prod.mk.injEq] at h
          obtain ⟨rfl, rfl⟩ := h
          cases e with
          | panic ch' => exact ⟨ρ1, hle1, hx1, hT1, hds1, hcs1, hR1⟩
          | _ => exact hx1.elim
    | loop p =>
      have main : WLoop P d p (Post w0 S d nt cs0 ρ x s') a cs w := by
        simp only [exec] at h
        cases hp : exec P X Y n d nt p s with
        | bad w => rw [hp] at h; simp at h
        | ok r =>
          obtain ⟨x1, s1⟩ := r
          rw [hp] at h
          have h1 := (ih _ _ _ _ _ _ hp _ _ _ _ _ hs).1
          refine WLoop.round (W.mono h1 ?_)
          rintro e a1 cs1 w1 ⟨ρ1, hle1, hx1, hT1, hds1, hcs1, hR1⟩
          cases x1 with
          | normal =>
            cases e with
            | normal =>
              simp only at h
              have h2 := (ih _ _ _ _ _ _ h _ a1 cs0 cs1 w1 ⟨hT1, hds1, hcs1, hR1⟩).2 p rfl
              intro b k hb hr
              obtain ⟨e, a', cs', w', q, r⟩ := h2 b k hb hr
              exact ⟨e, a', cs', w', Post.le hle1 q, r⟩
            | _ => exact hx1.elim
          | exit i =>
            simp only [Res.ok.injEq, Prod.mk.injEq] at h
            obtain ⟨rfl, rfl⟩ := h
            cases e with
            | exit j => exact ⟨ρ1, hle1, hx1, hT1, hds1, hcs1, hR1⟩
            | _ => exact hx1.elim
          | ret =>
            simp only [Res.ok.injEq, Prod.mk.injEq] at h
            obtain ⟨rfl, rfl⟩ := h
            cases e with
            | ret => exact ⟨ρ1, hle1, hx1, hT1, hds1, hcs1, hR1⟩
            | _ => exact hx1.elim
          | panic ch =>
            simp only [Res.ok.injEq, Prod.mk.injEq] at h
            obtain ⟨rfl, rfl⟩ := h
            cases e with
            | panic ch' => exact ⟨ρ1, hle1, hx1, hT1, hds1, hcs1, hR1⟩
            | _ => exact hx1.elim
      exact ⟨W.loop main, fun b e => by cases e; exact main⟩
    | region id ops draw =>
      refine ⟨?_, fun b e => by simp at e⟩
      simp only [exec] at h
      have hcalls : CallsOk P w0 S (callWith P Y (exec P X Y n false) (exec P X Y n true)) :=
        call_sound hY (fun nt c s x s' h ρ a cs0 cs w hs => (ih _ _ _ _ _ _ h _ _ _ _ _ hs).1) (fun nt c s x s' h ρ a cs0 cs w hs => (ih _ _ _ _ _ _ h _ _ _ _ _ hs).1)
      split at h
      · rename_i hops
        split at h
        · cases d with
          | false =>
            have := ops_sound hcalls hX hops ops.toList 0 ops.toList.length rfl rfl s _ _ h _ _ _ _ hs
            refine W.of_wp (wp_region ?_)
            rw [← List.range_eq_range'] at this
            simpa using this
          | true =>
            have := opsS_sound hcalls hX hops ops.toList 0 ops.toList.length rfl rfl s _ _ h _ _ _ _ hs
            refine W.of_wpS (wpS_region ?_)
            rw [← List.range_eq_range'] at this
            simpa using this
        · exact drawn_sound hcalls hX hops h hs
      · exact absurd h (by simp)
    | _ => simp [exec] at h

/-- THE LAW: what the abstract machine comes to, the model comes to -/
theorem calls [NoEx P S] {X : Facts} {Y : Ext} (hX : FactsOk P X S) (hY : ExtOk P w0 S Y) {n : Nat} {f : FuncId} {args args' : Array Value} {σ σ' : AW} {e : AEnd} (h : call P X Y n f args σ = .ok (e, σ')) {ρ : Rho} {w : World} (ha : ARel ρ args args') (hR : R w0 S σ ρ w) :
    Calls P f args' w fun e' w' => ∃ ρ', ρ.le ρ' ∧ ERel ρ' e e' ∧ R w0 S σ' ρ' w' :=
  call_sound hY (fun _ _ _ _ _ h _ _ _ _ _ hs => (exec_sound hX hY n _ _ _ _ _ _ h _ _ _ _ _ hs).1) (fun _ _ _ _ _ h _ _ _ _ _ hs => (exec_sound hX hY n _ _ _ _ _ _ h _ _ _ _ _ hs).1) f args σ e σ' h ρ w args' ha hR

/-- the start from nothing -/
def ownC (w : World) (ex : TypeId → Prop) : Own := ⟨fun b => w.heap.size ≤ b, fun _ => none, fun _ _ => True, ex⟩
instance noExC (P : Program) (w : World) : NoEx P (ownC w fun _ => False) := ⟨fun _ _ _ _ h => h⟩

theorem startC (w : World) (ex : TypeId → Prop) : R w (ownC w ex) { objs := .leaf, next := 0 } (fun _ => none) w :=
    { base := Rho.le_refl _, spec := fun _ _ _ h => by simp at h, pins := fun _ _ _ h => by simp at h, pinInj := fun _ _ _ _ _ _ h => by simp at h, pinApart := fun _ _ _ _ _ _ h => by simp at h, os := rfl, tape := rfl, output := rfl, size := Nat.le_refl _, block := fun _ _ => rfl, own := fun _ h => h, dom := fun _ _ => rfl, lim := Nat.zero_le _
      obj := fun i o hi => absurd hi (Nat.not_lt_zero _), exact := fun i _ _ _ _ hi => absurd hi (Nat.not_lt_zero _), apart := fun i j oi oj Li Lj hi => absurd hi (Nat.not_lt_zero _) }

/-- of a call without arguments, from nothing, with contracts -/
theorem calls_closedY {w : World} {ex : TypeId → Prop} [NoEx P (ownC w ex)] {Y : Ext} (hY : ExtOk P w (ownC w ex) Y) {n : Nat} {f : FuncId} {v : Value} {σ' : AW} (h : call P .none Y n f #[] { objs := .leaf, next := 0 } = .ok (.returned v, σ')) (hv : plain v = true) :
    Calls P f #[] w fun e w' => e = .returned v ∧ RowKit.Below w.heap.size w w' := by
  refine (calls (FactsOk.none _ _) hY h (ρ := fun _ => none) (args' := #[]) ⟨rfl, fun i v v' x => by simp at x⟩ (startC w ex)).mono ?_
  rintro e w' ⟨ρ', _, he, hR'⟩
  cases e with
  | returned v' =>
    rw [plain_eq he hv]
    exact ⟨rfl, hR'.os, hR'.tape, hR'.output, hR'.size, fun k hk => hR'.block k (Nat.not_le.2 hk)⟩
  | panicked ch => exact he.elim
  | outgrown => exact he.elim

/-- of a call without arguments, from nothing -/
theorem calls_closed {n : Nat} {f : FuncId} {v : Value} {σ' : AW} (h : call P .none Ext.none n f #[] { objs := .leaf, next := 0 } = .ok (.returned v, σ')) (hv : plain v = true) (w : World) :
    Calls P f #[] w fun e w' => e = .returned v ∧ RowKit.Below w.heap.size w w' := calls_closedY (ex := fun _ => False) (ExtOk.none _ _ _) h hv

end
end Am
end Go
