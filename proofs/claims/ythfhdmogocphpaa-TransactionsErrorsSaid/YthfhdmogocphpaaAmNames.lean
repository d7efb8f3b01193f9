import Derived.Test.YthfhdmogocphpaaAmRun5
/- The abstract machine's runs of named values: what the names stand for. -/
namespace Go
namespace Am

def nm (v : Value) : Loc := ⟨0, 0, 0, 0, some v, none⟩
def names (vals : List Value) : Rho := fun i => (vals[i]?).map nm
def own0 (w : World) (vals : List Value) (more : Nat → Loc → Prop) : Own :=
  ⟨fun b => w.heap.size ≤ b, names vals, fun i L => (∃ v, vals[i]? = some v ∧ L = nm v) ∨ (vals[i]? = none ∧ more i L)⟩

theorem start (w : World) (vals : List Value) (more : Nat → Loc → Prop) {n : Nat} (hn : vals.length ≤ n) (hD : n ≤ 2 ^ D) : R w (own0 w vals more) { objs := .leaf, next := n } (names vals) w :=
  { base := Rho.le_refl _
    spec := fun i L v h _ => by
      simp only [names, Option.map_eq_some_iff] at h
      obtain ⟨u, h1, h2⟩ := h
      exact .inl ⟨u, h1, h2.symm⟩
    pins := fun i L o h e => by
      simp only [names, Option.map_eq_some_iff] at h
      obtain ⟨u, h1, h2⟩ := h
      subst h2
      simp [nm] at e
    pinApart := fun i L o j oj M h e => by
      simp only [names, Option.map_eq_some_iff] at h
      obtain ⟨u, h1, h2⟩ := h
      subst h2
      simp [nm] at e
    os := rfl, tape := rfl, output := rfl, size := Nat.le_refl _, block := fun _ _ => rfl, own := fun _ h => h
    dom := fun i h => by
      have h : n ≤ i := h
      simp only [names]
      rw [List.getElem?_eq_none (by omega)]
      rfl
    lim := hD
    obj := fun i o _ e => by
      simp only [AW.get, Tr.get_leaf] at e
      exact absurd e (by simp)
    apart := fun i j oi oj Li Lj _ _ e => by
      simp only [AW.get, Tr.get_leaf] at e
      exact absurd e (by simp) }

/-- what an abstract value stands for -/
def den (vals : List Value) : Value → Option Value
  | .float .f64 i => vals[i]?
  | v => if plain v then some v else none

section
variable {P : Program} {w0 : World} {vals : List Value} {more : Nat → Loc → Prop} {ρ : Rho}

theorem den_eq (hS : Says (own0 w0 vals more) ρ) {x x' u : Value} (h : den vals x = some u) (hx : VRel ρ x x') : x' = u := by
  unfold den at h
  split at h
  · rename_i i
    have hρ : ρ i = some (nm u) := hS.1 i _ (by simp [own0, names, h])
    cases hx with
    | sym h1 hv hn =>
      rw [hρ] at h1
      cases h1
      simp [nm] at hv
      exact hv.symm
  · split at h
    · rename_i hp
      cases h
      exact (plain_eq hx hp).symm
    · exact absurd h (by simp)

theorem den_rel (hS : Says (own0 w0 vals more) ρ) {x u : Value} (h : den vals x = some u) (hn : notCell u = false) : VRel ρ x u := by
  unfold den at h
  split at h
  · rename_i i
    exact .sym (hS.1 i (nm u) (by simp [own0, names, h])) rfl hn
  · split at h
    · rename_i hp
      cases h
      exact plain_rel ρ hp
    · exact absurd h (by simp)

def BinOk (P : Program) (op : BinOp) (a b c : Value) : Prop := ∀ t xo yo w, (do eqGuard op t xo yo a b; binOp op t a b : Sem Value).run P w = .ok c w

theorem intBin_ok {op : BinOp} {k k' : IntKind} {a b : Int} {c : Value} (h : intBin op (.int k a) (.int k' b) = some c) : BinOk P op (.int k a) (.int k' b) c :=
  fun t xo yo _ => (ok_intBin (ρ := fun _ => none) h (.int _ _) (.int _ _) t xo yo).1

theorem rem_ok (k : IntKind) (a b : Int) (hb : b ≠ 0) : BinOk P .rem (.int k a) (.int k b) (.int k (a.tmod b)) := by
  intro t xo yo w
  simp [eqGuard, binOp, Op.intDiv, hb]

def BinsOk (P : Program) (vals : List Value) (l : List (BinOp × Value × Value × Value)) : Prop :=
  ∀ e ∈ l, ∃ a b c, den vals e.2.1 = some a ∧ den vals e.2.2.1 = some b ∧ den vals e.2.2.2 = some c ∧ notCell c = false ∧ BinOk P e.1 a b c

theorem bins_ok {l : List (BinOp × Value × Value × Value)} (h : BinsOk P vals l) : ∀ op x y r, (op, x, y, r) ∈ l → ∀ ρ, Says (own0 w0 vals more) ρ → ∀ t xo yo x' y' w, VRel ρ x x' → VRel ρ y y' → ∃ r', (do eqGuard op t xo yo x' y'; binOp op t x' y' : Sem Value).run P w = .ok r' w ∧ VRel ρ r r' := by
  intro op x y r hm ρ hS t xo yo x' y' w hx hy
  obtain ⟨a, b, c, ha, hb, hc, hn, hrun⟩ := h _ hm
  rw [den_eq hS ha hx, den_eq hS hb hy]
  exact ⟨c, hrun t xo yo w, den_rel hS hc hn⟩

theorem conv_int {s d : TypeId} {k k' : IntKind} {n m : Int} {ts : TypeDesc} (h1 : P.underlying s = some ts) (h2 : P.underlying d = some (.int k')) (hm : m = k'.wrap n) (w : World) : (convert s d (.int k n)).run P w = .ok (.int k' m) w := by
  subst hm
  simp [convert, run_underlying h1, run_underlying h2, Conv.intToInt]

theorem len_slice {t ty : TypeId} {ts : Array TypeId} {args : Array Value} {e : TypeId} {a : Option Addr} {n c : Nat} (hu : P.underlying t = some (.slice e)) (hts : ts[0]? = some t) (ha : args[0]? = some (.slice a n c)) (w : World) :
    (Builtin.len_ ts ty args).run P w = .ok (.int .i64 n) w := by
  simp [Builtin.len_, hts, ha, run_underlying hu, goInt]

end
end Am
end Go
