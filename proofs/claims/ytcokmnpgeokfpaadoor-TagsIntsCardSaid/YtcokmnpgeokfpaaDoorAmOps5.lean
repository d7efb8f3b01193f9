import Derived.Test.YtcokmnpgeokfpaaDoorAmOps4
import Derived.MapKept
/- The abstract machine's operations and the model's: the rest. -/
set_option linter.unusedVariables false
set_option linter.unusedSimpArgs false
namespace Go
namespace Am
section
variable {P : Program} {w0 : World} {S : Own} {σ : AW} {ρ : Rho} {w : World}

theorem run_pureOf {α : Type} {P : Program} : ∀ (s : Sem α) (a : α), pureOf P s = some a → ∀ w, s.run P w = .ok a w := by
  intro s
  induction s with
  | pure a => intro b h w; simp [pureOf] at h; subst h; rfl
  | program k ih => intro b h w; simp only [pureOf] at h; exact ih P b h w
  | mark m k ih => intro b h w; simp only [pureOf] at h; exact ih b h w
  | _ => intro b h; simp [pureOf] at h

theorem extract_rel {a b : Array Value} (h : ARel ρ a b) (i j : Nat) : ARel ρ (a.extract i j) (b.extract i j) := by
  refine ⟨by simp [h.1], fun k v v' x y => ?_⟩
  rw [Array.getElem?_extract] at x y
  split at x
  · rename_i c
    rw [if_pos (by rw [← h.1]; exact c)] at y
    exact h.2 _ v v' x y
  · exact absurd x (by simp)

theorem ARel.get {a b : Array Value} (h : ARel ρ a b) {i : Nat} {v : Value} (hv : a[i]? = some v) : ∃ v', b[i]? = some v' ∧ VRel ρ v v' := by
  have hi : i < a.size := by
    rcases Nat.lt_or_ge i a.size with g | g
    · exact g
    · rw [Array.getElem?_eq_none g] at hv; exact absurd hv (by simp)
  have hj : i < b.size := by rw [← h.1]; exact hi
  exact ⟨b[i], Array.getElem?_eq_getElem hj, h.2 i v _ hv (Array.getElem?_eq_getElem hj)⟩

theorem ok_part {t : TypeId} {a b : Array Value} {off : Nat} {v : Value} (h : partA P t a off = some v) (hr : ARel ρ a b) :
    ∃ v', (part t b off).run P w = .ok v' w ∧ VRel ρ v v' := by
  unfold partA at h
  split at h
  · rename_i n h1 h2
    cases h
    have := extract_rel hr off (off + n)
    exact ⟨.agg (b.extract off (off + n)), by simp [part, run_isAggT h1, run_sizeT h2], .agg this.1 this.2⟩
  · rename_i h1
    obtain ⟨v', hv', hrel⟩ := hr.get h
    exact ⟨v', by simp [part, run_isAggT h1, hv'], hrel⟩
  · exact absurd h (by simp)

theorem ok_fieldv {t : TypeId} {x x' v : Value} {f : Nat} (h : fieldA P t x f = some v) (hx : VRel ρ x x') :
    ∃ v', (Instr.field t x' f).run P w = .ok v' w ∧ VRel ρ v v' := by
  unfold fieldA at h
  split at h
  · rename_i fs cs hu
    split at h
    · rename_i fd hf
      cases hx with
      | agg h1 h2 =>
        obtain ⟨v', a, b⟩ := ok_part (P := P) (w := w) h ⟨h1, h2⟩
        exact ⟨v', by simp [Instr.field, run_underlying hu, hf, asAgg, a], b⟩
    · exact absurd h (by simp)
  · exact absurd h (by simp)

/- equality with nil -/
theorem equal_eq (t : TypeId) (x y : Value) : Op.equal t x y = Op.equalIn (9999 + 1) t x y := rfl

theorem ok_equalNil {t : TypeId} {x y x' y' : Value} {b : Bool} (h : eqNil P t x y = some b) (hx : VRel ρ x x') (hy : VRel ρ y y') :
    (Op.equal t x' y').run P w = .ok b w ∧ (∀ op xo yo, (eqGuard op t xo yo x' y').run P w = .ok () w) ∧
      binOp .eql t x' y' = (do pure (.bool (← Op.equal t x' y'))) ∧ binOp .neq t x' y' = (do pure (.bool (!(← Op.equal t x' y')))) := by
  unfold eqNil at h
  split at h
  case h_12 => simp at h
  all_goals
    rename_i hu
    simp only [Option.some.injEq] at h
    subst h
    cases hx <;> cases hy <;> refine ⟨?_, ?_, ?_, ?_⟩ <;> first
      | (rw [equal_eq, Op.equalIn, Sem.run_bind, run_underlying hu]; rfl)
      | (intro op xo yo; cases op <;> rfl)
      | rfl

theorem ok_eqNil {t : TypeId} {x y x' y' : Value} {b : Bool} (h : eqNil P t x y = some b) (hx : VRel ρ x x') (hy : VRel ρ y y') (op : BinOp) (xo yo : Operand)
    (hop : op = .eql ∨ op = .neq) :
    (do eqGuard op t xo yo x' y'; binOp op t x' y' : Sem Value).run P w = .ok (.bool (if op = .eql then b else !b)) w := by
  obtain ⟨h1, h2, h3, h4⟩ := ok_equalNil (w := w) h hx hy
  rcases hop with rfl | rfl
  · simp [h2, h3, h1]
  · simp [h2, h4, h1]

/- build -/
def PRel (ρ : Rho) (a b : List (Nat × Value)) : Prop := a.length = b.length ∧ ∀ (i : Nat) (x y : Nat × Value), a[i]? = some x → b[i]? = some y → x.1 = y.1 ∧ VRel ρ x.2 y.2

theorem set_rel {a b : Array Value} (h : ARel ρ a b) {v v' : Value} (hv : VRel ρ v v') (i : Nat) : ARel ρ (a.setIfInBounds i v) (b.setIfInBounds i v') := by
  refine ⟨by simp [h.1], fun k u u' x y => ?_⟩
  rw [Array.getElem?_setIfInBounds] at x y
  split at x
  · rename_i e
    rw [if_pos e] at y
    split at x
    · rename_i g
      rw [if_pos (by rw [← h.1]; exact g)] at y
      cases x; cases y; exact hv
    · exact absurd x (by simp)
  · rename_i e
    rw [if_neg e] at y
    exact h.2 k u u' x y

theorem fold_rel (off : Nat) : ∀ (l l' : List Value) (j : Nat) (a b : Array Value), LRel ρ l l' → ARel ρ a b →
    ARel ρ ((l.zipIdx j).foldl (fun cs (c, j) => cs.setIfInBounds (off + j) c) a) ((l'.zipIdx j).foldl (fun cs (c, j) => cs.setIfInBounds (off + j) c) b)
  | [], l', j, a, b, h, hab => by
    have : l' = [] := List.eq_nil_of_length_eq_zero h.1.symm
    subst this
    exact hab
  | x :: l, l', j, a, b, h, hab => by
    obtain ⟨y, m, rfl, hxy, hm⟩ := h.of_cons
    simp only [List.zipIdx_cons, List.foldl_cons]
    exact fold_rel off l m (j + 1) _ _ hm (set_rel hab hxy _)

theorem fill_rel (place : Nat → Option (Nat × Nat)) : ∀ (l l' : List (Nat × Value)) (a b : Array Value) (r : Array Value), PRel ρ l l' → ARel ρ a b → Instr.fill place a l = some r →
    ∃ r', Instr.fill place b l' = some r' ∧ ARel ρ r r'
  | [], l', a, b, r, h, hab, hr => by
    have : l' = [] := List.eq_nil_of_length_eq_zero h.1.symm
    subst this
    simp only [Instr.fill, Option.some.injEq] at hr
    subst hr
    exact ⟨b, rfl, hab⟩
  | (i, v) :: l, l', a, b, r, h, hab, hr => by
    cases l' with
    | nil => have := h.1; simp at this
    | cons y m =>
      obtain ⟨i', v'⟩ := y
      obtain ⟨e1, e2⟩ := h.2 0 (i, v) (i', v') rfl rfl
      simp only at e1 e2
      subst e1
      have hm : PRel ρ l m := ⟨by have := h.1; simpa using this, fun k x y hx hy => h.2 (k + 1) x y (by simpa using hx) (by simpa using hy)⟩
      unfold Instr.fill at hr ⊢
      cases hp : place i with
      | none => rw [hp] at hr; exact absurd hr (by simp)
      | some q =>
        obtain ⟨off, size⟩ := q
        rw [hp] at hr
        simp only at hr ⊢
        have hc := e2.cells
        have hcs : v'.cells.size = v.cells.size := by have := hc.1; simpa using this.symm
        have hz1 : v.cells.zipIdx = (v.cells.toList.zipIdx).toArray := by apply Array.ext'; simp
        have hz2 : v'.cells.zipIdx = (v'.cells.toList.zipIdx).toArray := by apply Array.ext'; simp
        rw [hcs, ← hab.1]
        split at hr
        · exact absurd hr (by simp)
        · rename_i hcond
          rw [if_neg hcond]
          rw [hz1, List.foldl_toArray] at hr
          rw [hz2, List.foldl_toArray]
          exact fill_rel place l m _ _ r hm (fold_rel off _ _ 0 _ _ hc hab) hr

theorem plain_cells {z : Value} (h : plain z = true) : ARel ρ z.cells z.cells := by
  have := (plain_rel ρ h).cells
  exact ⟨rfl, fun i v v' x y => this.2 i v v' (by simpa using x) (by simpa using y)⟩

theorem ok_build {t : TypeId} {ps ps' : Array (Nat × Value)} {v : Value} (h : buildA P t ps = some v) (hp : PRel ρ ps.toList ps'.toList) :
    ∃ v', (Instr.build t ps').run P w = .ok v' w ∧ VRel ρ v v' := by
  unfold buildA at h
  split at h
  · rename_i z hz
    have hrun := run_pureOf _ _ h w
    have hpl := plain_cells (ρ := ρ) (zeroT_plain hz)
    unfold Instr.build at hrun ⊢
    simp only [Sem.run_bind, run_zeroT hz, Result.andThen_ok] at hrun ⊢
    cases hu : P.underlying t with
    | none => simp [underlying, hu] at hrun
    | some d =>
      simp only [run_underlying hu, Result.andThen_ok] at hrun ⊢
      cases d <;> simp only [Sem.run_bind, run_stuck] at hrun ⊢
      case array n e =>
        cases hk : (sizeOf e).run P w with
        | halt hh ww => rw [hk] at hrun; simp at hrun
        | ok k w1 =>
          rw [hk] at hrun
          simp only [Result.andThen_ok] at hrun ⊢
          cases hf : Instr.fill (fun i => some (i * k, k)) z.cells ps.toList with
          | none => rw [hf] at hrun; simp at hrun
          | some r =>
            rw [hf] at hrun
            simp only [Sem.run_pure, Result.ok.injEq] at hrun
            obtain ⟨r', hr', hrel⟩ := fill_rel _ _ _ _ _ r hp hpl hf
            rw [hr']
            refine ⟨.agg r', by rw [hrun.2]; rfl, ?_⟩
            rw [← hrun.1]
            exact .agg hrel.1 hrel.2
      case struct fs =>
        generalize hX : (fs.mapM fun f => do pure (f.offset, ← sizeOf f.type) : Sem (Array (Nat × Nat))) = X at hrun ⊢
        cases hk : X.run P w with
        | halt hh ww => rw [hk] at hrun; simp at hrun
        | ok k w1 =>
          rw [hk] at hrun
          simp only [Result.andThen_ok] at hrun ⊢
          cases hf : Instr.fill (k[·]?) z.cells ps.toList with
          | none => rw [hf] at hrun; simp at hrun
          | some r =>
            rw [hf] at hrun
            simp only [Sem.run_pure, Result.ok.injEq] at hrun
            obtain ⟨r', hr', hrel⟩ := fill_rel _ _ _ _ _ r hp hpl hf
            rw [hr']
            refine ⟨.agg r', by rw [hrun.2]; rfl, ?_⟩
            rw [← hrun.1]
            exact .agg hrel.1 hrel.2
      all_goals simp at hrun
  · exact absurd h (by simp)
end
end Am
end Go
