import Derived.Test.YtcokmnpgeokfpaaDoorAmRun1
/- The abstract machine's runs and the model's: a region in the order of the text. -/
set_option linter.unusedVariables false
set_option linter.unusedSimpArgs false
namespace Go
namespace Am
section
variable {P : Program} {w0 : World} {S : Own} [NoEx P S]

/-- the calls that the machine makes are the model's -/
def CallsOk (P : Program) (w0 : World) (S : Own) (call : FuncId → Array Value → AW → Res (AEnd × AW)) : Prop :=
  ∀ f args σ e σ', call f args σ = .ok (e, σ') → ∀ ρ w args', ARel ρ args args' → R w0 S σ ρ w →
    Calls P f args' w fun e' w' => ∃ ρ', ρ.le ρ' ∧ ERel ρ' e e' ∧ R w0 S σ' ρ' w'

/-- what holds behind a piece of code -/
def Post (w0 : World) (S : Own) (d : Bool) (nt : Nat) (cs0 : List Frame) (ρ : Rho) (x : AExit) (s : St) : Exit → Act → List Frame → World → Prop :=
  fun e a cs w => ∃ ρ', ρ.le ρ' ∧ XRel ρ' x e ∧ TRel ρ' nt s.tmps a.tmps ∧ DsRel ρ' s.defers a.defers ∧ CsRel ρ' d s.mode cs0 cs ∧ R w0 S s.σ ρ' w

structure SRel (w0 : World) (S : Own) (d : Bool) (nt : Nat) (cs0 : List Frame) (ρ : Rho) (s : St) (a : Act) (cs : List Frame) (w : World) : Prop where
  t : TRel ρ nt s.tmps a.tmps
  ds : DsRel ρ s.defers a.defers
  cs : CsRel ρ d s.mode cs0 cs
  r : R w0 S s.σ ρ w

theorem Post.le {d : Bool} {nt : Nat} {cs0 : List Frame} {ρ ρ' : Rho} (h : ρ.le ρ') {x : AExit} {s : St} {e : Exit} {a : Act} {cs : List Frame} {w : World} (p : Post w0 S d nt cs0 ρ' x s e a cs w) :
    Post w0 S d nt cs0 ρ x s e a cs w := let ⟨q, a1, a2⟩ := p; ⟨q, Rho.le_trans h a1, a2⟩

theorem SRel.post {d : Bool} {nt : Nat} {cs0 : List Frame} {ρ : Rho} {s : St} {a : Act} {cs : List Frame} {w : World} (h : SRel w0 S d nt cs0 ρ s a cs w) {x : AExit} {e : Exit} (hx : XRel ρ x e) :
    Post w0 S d nt cs0 ρ x s e a cs w := ⟨ρ, ρ.le_refl, hx, h.t, h.ds, h.cs, h.r⟩

theorem drop_cons {α : Type} {l : List α} {i : Nat} {x : α} {rest : List α} (h : l.drop i = x :: rest) : l[i]? = some x ∧ l.drop (i + 1) = rest := by
  constructor
  · rw [← List.head?_drop, h]; rfl
  · rw [← List.tail_drop, h]; rfl

theorem chain_one {ρ : Rho} {v v' : Value} (h : VRel ρ v v') : ChRel ρ [{ v, recovered := false }] [{ v := v', recovered := false }] :=
  ⟨rfl, fun i x y p q => by
    cases i with
    | zero => simp at p q; subst p; subst q; exact ⟨h, rfl, rfl⟩
    | succ i => simp at p⟩

theorem upon_mono {o : Oper} {a : Act} {K K' : Act → World → Prop} {Q Q' : Exit → Act → World → Prop} (hk : ∀ a w, K a w → K' a w) (hq : ∀ e a w, Q e a w → Q' e a w) {r : Result Next}
    (h : o.upon P a K Q r) : o.upon P a K' Q' r := by
  have hl : LetsOut Q → LetsOut Q' := fun ⟨a, w, x⟩ => ⟨a, w, hq _ _ _ x⟩
  cases r with
  | ok n w' =>
    cases n <;> simp only [Oper.upon] at h ⊢ <;>
      first
        | exact hk _ _ h
        | exact Calls.mono h (fun e w'' he => by cases e <;> first | exact hk _ _ he | exact hq _ _ _ he | exact hl he)
        | exact Rows.mono h (fun _ _ he => hk _ _ he)
  | halt x w' => cases x <;> simp only [Oper.upon] at h ⊢ <;> exact hq _ _ _ h

theorem wpOps_mono_q {ops : Array Oper} {Q Q' : Exit → Act → World → Prop} (hq : ∀ e a w, Q e a w → Q' e a w) : ∀ {l : List Nat} {a : Act} {w : World}, wpOps P ops Q l a w → wpOps P ops Q' l a w := by
  intro l
  induction l with
  | nil => intro a w h; exact hq _ _ _ h
  | cons i rest ih =>
    intro a w h
    simp only [wpOps] at h ⊢
    split
    · rename_i ho
      rw [ho] at h
      exact ih h
    · rename_i o ho
      rw [ho] at h
      simp only at h
      split
      · rename_i hw
        rw [if_pos hw] at h
        rcases h with h | ⟨h1, a1, w1, h2⟩
        · exact .inl (upon_mono (fun a w x => ih x) hq h)
        · exact .inr ⟨h1, a1, w1, hq _ _ _ h2⟩
      · rename_i hw
        rw [if_neg hw] at h
        exact ih h

theorem wpOpsS_mono_q {ops : Array Oper} {Q Q' : Exit → Act → List Frame → World → Prop} (hq : ∀ e a cs w, Q e a cs w → Q' e a cs w) : ∀ {l : List Nat} {a : Act} {cs : List Frame} {w : World}, wpOpsS P ops Q l a cs w → wpOpsS P ops Q' l a cs w := by
  intro l
  induction l with
  | nil => intro a cs w h; exact hq _ _ _ _ h
  | cons i rest ih =>
    intro a cs w h
    simp only [wpOpsS] at h ⊢
    split
    · rename_i ho
      rw [ho] at h
      exact ih h
    · rename_i o ho
      rw [ho] at h
      simp only at h
      split
      · rename_i hw
        rw [if_pos hw] at h
        generalize (execOp a.eval o).run P w = r at h ⊢
        split
        · simp only at h
          split
          · rename_i hr; rw [hr] at h; exact ih h
          · rename_i hr; rw [hr] at h; exact ih h
        · rename_i r hne
          split at h
          · exact absurd rfl (hne _)
          · exact upon_mono (fun a w x => ih x) (fun e a w x => hq _ _ _ _ x) h
      · rename_i hw
        rw [if_neg hw] at h
        exact ih h

theorem ops_sound {call : FuncId → Array Value → AW → Res (AEnd × AW)} (hc : CallsOk P w0 S call) {X : Facts} (hX : FactsOk P X S) {nt : Nat} {cs0 : List Frame} {ops : Array Oper} (hops : ops.toList.all (okOp nt) = true) :
    ∀ (l : List Oper) (i k : Nat), ops.toList.drop i = l → k = l.length → ∀ (s s' : St) (x : AExit), runOps P X false call ops l s.tmps s.defers s.mode s.σ = .ok (x, s') → ∀ (ρ : Rho) (a : Act) (cs : List Frame) (w : World), SRel w0 S false nt cs0 ρ s a cs w →
      wpOps P ops (fun e a' w' => Post w0 S false nt cs0 ρ x s' e a' cs w') (List.range' i k) a w := by
  intro l
  induction l with
  | nil =>
    intro i k _ hk s s' x h ρ a cs w hs
    subst hk
    simp only [runOps, Res.ok.injEq, Prod.mk.injEq] at h
    obtain ⟨rfl, rfl⟩ := h
    exact hs.post trivial
  | cons o rest ih =>
    intro i k hl hk s s' x h ρ a cs w hs
    obtain ⟨ho, hrest⟩ := drop_cons hl
    rw [Array.getElem?_toList] at ho
    subst hk
    have hok : okOp nt o = true := by
      rw [List.all_eq_true] at hops
      exact hops o (by rw [Array.mem_toList_iff]; exact Array.mem_of_getElem? ho)
    have hdst := okOp_dst hok
    show wpOps P ops _ (List.range' i (rest.length + 1)) a w
    rw [List.range'_succ]
    simp only [wpOps, ho]
    unfold runOps at h
    split at h
    · exact absurd h (by simp)
    · rename_i hw0
      have hw := wanted_eq hs.t hops hw0
      rw [if_pos hw]
      refine .inl ?_
      unfold Oper.wp
      cases hop : aop P X (ev s.tmps) o s.σ with
      | none => rw [hop] at h; simp at h
      | some r =>
        rw [hop] at h
        have hout := aop_sound hs.r hX hop (e' := a.eval) (ev_rels hs.t hok)
        generalize (execOp a.eval o).run P w = res at hout
        cases hout with
        | val hle hv hR =>
          simp only at h
          have := ih (i + 1) _ hrest rfl ⟨_, _, _, _⟩ _ _ h _ (a.put o.dst _) cs _ ⟨put_rel (hs.t.mono hle) hdst hv, by rw [put_defers]; exact hs.ds.mono hle, hs.cs.mono hle, hR⟩
          exact wpOps_mono_q (fun e a' w' p => Post.le hle p) this
        | eff hle hv hR =>
          simp only at h
          have := ih (i + 1) _ hrest rfl ⟨_, _, _, _⟩ _ _ h _ (a.put o.dst _) cs _ ⟨put_rel (hs.t.mono hle) hdst hv, by rw [put_defers]; exact hs.ds.mono hle, hs.cs.mono hle, hR⟩
          exact wpOps_mono_q (fun e a' w' p => Post.le hle p) this
        | skip hle hR =>
          simp only at h
          have := ih (i + 1) _ hrest rfl ⟨_, _, _, _⟩ _ _ h _ (a.put o.dst _) cs _ ⟨put_rel (hs.t.mono hle) hdst (undef_rel _), by rw [put_defers]; exact hs.ds.mono hle, hs.cs.mono hle, hR⟩
          exact wpOps_mono_q (fun e a' w' p => Post.le hle p) this
        | pan hv hR =>
          simp only [Res.ok.injEq, Prod.mk.injEq] at h
          obtain ⟨rfl, rfl⟩ := h
          exact SRel.post ⟨hs.t, hs.ds, hs.cs, hR⟩ (chain_one hv)
        | defer hc1 hx hR =>
          simp only at h
          have := ih (i + 1) _ hrest rfl ⟨_, _, _, _⟩ _ _ h _ (({ a with defers := _ :: a.defers } : Act).put o.dst undef) cs _ ⟨put_rel (a := { a with defers := _ :: a.defers }) hs.t hdst (undef_rel _), by rw [put_defers]; exact ⟨⟨_, _, _, _, _, rfl, rfl, hc1, hx⟩, hs.ds⟩, hs.cs, hR⟩
          exact this
        | recover hR => simp at h
        | call ha hR =>
          simp only at h
          split at h
          · rename_i v σ' hcall
            refine Calls.mono (hc _ _ _ _ _ hcall _ _ _ ha hR) ?_
            rintro e w' ⟨ρ', hle, he, hR'⟩
            cases e with
            | returned v' =>
              have := ih (i + 1) _ hrest rfl ⟨_, _, _, _⟩ _ _ h _ (a.put o.dst v') cs _ ⟨put_rel (hs.t.mono hle) hdst he, by rw [put_defers]; exact hs.ds.mono hle, hs.cs.mono hle, hR'⟩
              exact wpOps_mono_q (fun e a' w' p => Post.le hle p) this
            | panicked ch => exact he.elim
            | outgrown => exact he.elim
          · rename_i ch σ' hcall
            simp only [Res.ok.injEq, Prod.mk.injEq] at h
            obtain ⟨rfl, rfl⟩ := h
            refine Calls.mono (hc _ _ _ _ _ hcall _ _ _ ha hR) ?_
            rintro e w' ⟨ρ', hle, he, hR'⟩
            cases e with
            | returned v' => exact he.elim
            | panicked ch => exact Post.le hle (SRel.post (s := { s with σ := σ' }) (x := .panic _) (e := .panic _) ⟨hs.t.mono hle, hs.ds.mono hle, hs.cs.mono hle, hR'⟩ he)
            | outgrown => exact he.elim
          · exact absurd h (by simp)
    · rename_i hw0
      have hw := wanted_eq hs.t hops hw0
      rw [if_neg (by rw [hw]; simp)]
      exact ih (i + 1) _ hrest rfl ⟨_, _, _, _⟩ _ _ h _ (a.put o.dst _) cs _ ⟨put_rel hs.t hdst (undef_rel _), by rw [put_defers]; exact hs.ds, hs.cs, hs.r⟩

theorem opsS_sound {call : FuncId → Array Value → AW → Res (AEnd × AW)} (hc : CallsOk P w0 S call) {X : Facts} (hX : FactsOk P X S) {nt : Nat} {cs0 : List Frame} {ops : Array Oper} (hops : ops.toList.all (okOp nt) = true) :
    ∀ (l : List Oper) (i k : Nat), ops.toList.drop i = l → k = l.length → ∀ (s s' : St) (x : AExit), runOps P X true call ops l s.tmps s.defers s.mode s.σ = .ok (x, s') → ∀ (ρ : Rho) (a : Act) (cs : List Frame) (w : World), SRel w0 S true nt cs0 ρ s a cs w →
      wpOpsS P ops (Post w0 S true nt cs0 ρ x s') (List.range' i k) a cs w := by
  intro l
  induction l with
  | nil =>
    intro i k _ hk s s' x h ρ a cs w hs
    subst hk
    simp only [runOps, Res.ok.injEq, Prod.mk.injEq] at h
    obtain ⟨rfl, rfl⟩ := h
    exact hs.post trivial
  | cons o rest ih =>
    intro i k hl hk s s' x h ρ a cs w hs
    obtain ⟨ho, hrest⟩ := drop_cons hl
    rw [Array.getElem?_toList] at ho
    subst hk
    have hok : okOp nt o = true := by
      rw [List.all_eq_true] at hops
      exact hops o (by rw [Array.mem_toList_iff]; exact Array.mem_of_getElem? ho)
    have hdst := okOp_dst hok
    show wpOpsS P ops _ (List.range' i (rest.length + 1)) a cs w
    rw [List.range'_succ]
    simp only [wpOpsS, ho]
    unfold runOps at h
    split at h
    · exact absurd h (by simp)
    · rename_i hw0
      have hw := wanted_eq hs.t hops hw0
      rw [if_pos hw]
      cases hop : aop P X (ev s.tmps) o s.σ with
      | none => rw [hop] at h; simp at h
      | some r =>
        rw [hop] at h
        have hout := aop_sound hs.r hX hop (e' := a.eval) (ev_rels hs.t hok)
        generalize (execOp a.eval o).run P w = res at hout
        cases hout with
        | val hle hv hR =>
          simp only at h
          have := ih (i + 1) _ hrest rfl ⟨_, _, _, _⟩ _ _ h _ (a.put o.dst _) cs _ ⟨put_rel (hs.t.mono hle) hdst hv, by rw [put_defers]; exact hs.ds.mono hle, hs.cs.mono hle, hR⟩
          exact wpOpsS_mono_q (fun e a' cs' w' p => Post.le hle p) this
        | eff hle hv hR =>
          simp only at h
          have := ih (i + 1) _ hrest rfl ⟨_, _, _, _⟩ _ _ h _ (a.put o.dst _) cs _ ⟨put_rel (hs.t.mono hle) hdst hv, by rw [put_defers]; exact hs.ds.mono hle, hs.cs.mono hle, hR⟩
          exact wpOpsS_mono_q (fun e a' cs' w' p => Post.le hle p) this
        | skip hle hR =>
          simp only at h
          have := ih (i + 1) _ hrest rfl ⟨_, _, _, _⟩ _ _ h _ (a.put o.dst _) cs _ ⟨put_rel (hs.t.mono hle) hdst (undef_rel _), by rw [put_defers]; exact hs.ds.mono hle, hs.cs.mono hle, hR⟩
          exact wpOpsS_mono_q (fun e a' cs' w' p => Post.le hle p) this
        | pan hv hR =>
          simp only [Res.ok.injEq, Prod.mk.injEq] at h
          obtain ⟨rfl, rfl⟩ := h
          exact SRel.post ⟨hs.t, hs.ds, hs.cs, hR⟩ (chain_one hv)
        | defer hc1 hx hR =>
          simp only at h
          have := ih (i + 1) _ hrest rfl ⟨_, _, _, _⟩ _ _ h _ (({ a with defers := _ :: a.defers } : Act).put o.dst undef) cs _ ⟨put_rel (a := { a with defers := _ :: a.defers }) hs.t hdst (undef_rel _), by rw [put_defers]; exact ⟨⟨_, _, _, _, _, rfl, rfl, hc1, hx⟩, hs.ds⟩, hs.cs, hR⟩
          exact this
        | recover hR =>
          simp only at h
          obtain ⟨c0, rcs, u, e1, e2, e3⟩ := hs.cs
          subst e1; subst e2
          simp only
          split at h
          · rename_i v m hm
            have hu : ∃ v' u', recoverD ({ c0 with mode := u } :: rcs) = some (v', { c0 with mode := u' } :: rcs) ∧ VRel ρ v v' ∧ MoRel ρ m u' := by
              unfold recoverA at hm
              split at hm
              · rename_i v1 older hmode
                simp only [Option.some.injEq, Prod.mk.injEq] at hm
                obtain ⟨rfl, rfl⟩ := hm
                rw [hmode] at e3
                cases u with
                | run => exact e3.elim
                | returning => exact e3.elim
                | panicking ch =>
                  obtain ⟨hl, hc2⟩ := e3
                  cases ch with
                  | nil => simp at hl
                  | cons y ys =>
                    obtain ⟨h1, h2, h3⟩ := hc2 0 _ y rfl rfl
                    obtain ⟨yv, yr, yg⟩ := y
                    simp only at h1 h2 h3
                    subst h2; subst h3
                    refine ⟨yv, .panicking ({ v := yv, recovered := true } :: ys), rfl, h1, ?_⟩
                    refine ⟨by simpa using hl, fun i x y p q => ?_⟩
                    cases i with
                    | zero => simp at p q; subst p; subst q; exact ⟨h1, rfl, rfl⟩
                    | succ i => exact hc2 (i + 1) x y (by simpa using p) (by simpa using q)
              · exact absurd hm (by simp)
            obtain ⟨v', u', hr1, hr2, hr3⟩ := hu
            rw [hr1]
            exact ih (i + 1) _ hrest rfl ⟨_, _, _, _⟩ _ _ h _ (a.put o.dst v') _ _ ⟨put_rel hs.t hdst hr2, by rw [put_defers]; exact hs.ds, ⟨c0, rcs, u', rfl, rfl, hr3⟩, hR⟩
          · rename_i hm
            have hu : recoverD ({ c0 with mode := u } :: rcs) = none := by
              cases u with
              | run => rfl
              | returning => rfl
              | panicking ch =>
                cases ch with
                | nil => rfl
                | cons y ys =>
                  obtain ⟨yv, yr, yg⟩ := y
                  cases yr
                  · cases yg
                    · exfalso
                      cases hsm : s.mode with
                      | run => rw [hsm] at e3; exact e3.elim
                      | returning => rw [hsm] at e3; exact e3.elim
                      | panicking ch0 =>
                        rw [hsm] at e3 hm
                        obtain ⟨hl, hc2⟩ := e3
                        cases ch0 with
                        | nil => simp at hl
                        | cons z zs =>
                          obtain ⟨h1, h2, h3⟩ := hc2 0 z _ rfl rfl
                          obtain ⟨zv, zr, zg⟩ := z
                          simp only at h1 h2 h3
                          subst h2; subst h3
                          simp [recoverA] at hm
                    · rfl
                  · cases yg <;> rfl
            rw [hu]
            exact ih (i + 1) _ hrest rfl ⟨_, _, _, _⟩ _ _ h _ (a.put o.dst _) _ _ ⟨put_rel hs.t hdst .nilIface, by rw [put_defers]; exact hs.ds, ⟨c0, rcs, u, rfl, rfl, e3⟩, hR⟩
        | call ha hR =>
          simp only at h
          split at h
          · rename_i v σ' hcall
            refine Calls.mono (hc _ _ _ _ _ hcall _ _ _ ha hR) ?_
            rintro e w' ⟨ρ', hle, he, hR'⟩
            cases e with
            | returned v' =>
              have := ih (i + 1) _ hrest rfl ⟨_, _, _, _⟩ _ _ h _ (a.put o.dst v') cs _ ⟨put_rel (hs.t.mono hle) hdst he, by rw [put_defers]; exact hs.ds.mono hle, hs.cs.mono hle, hR'⟩
              exact wpOpsS_mono_q (fun e a' cs' w' p => Post.le hle p) this
            | panicked ch => exact he.elim
            | outgrown => exact he.elim
          · rename_i ch σ' hcall
            simp only [Res.ok.injEq, Prod.mk.injEq] at h
            obtain ⟨rfl, rfl⟩ := h
            refine Calls.mono (hc _ _ _ _ _ hcall _ _ _ ha hR) ?_
            rintro e w' ⟨ρ', hle, he, hR'⟩
            cases e with
            | returned v' => exact he.elim
            | panicked ch => exact Post.le hle (SRel.post (s := { s with σ := σ' }) (x := .panic _) (e := .panic _) ⟨hs.t.mono hle, hs.ds.mono hle, hs.cs.mono hle, hR'⟩ he)
            | outgrown => exact he.elim
          · exact absurd h (by simp)
    · rename_i hw0
      have hw := wanted_eq hs.t hops hw0
      rw [if_neg (by rw [hw]; simp)]
      exact ih (i + 1) _ hrest rfl ⟨_, _, _, _⟩ _ _ h _ (a.put o.dst _) cs _ ⟨put_rel hs.t hdst (undef_rel _), by rw [put_defers]; exact hs.ds, hs.cs, hs.r⟩

end
end Am
end Go
