/-
  Neighbouring equals struck out of an ascending list: the plain part. Rows under many stores. No program is named here.
-/
import Derived.Test.YtpfcoeenblmifaaRow
import Derived.Laws.IdiomCopy
namespace Go.PC

theorem Row.setCells {e : TypeId} {g N : Nat} {xs : List Value} : ∀ (vs : List Value) {w : World} {o : Nat}, Row w g e N xs → xs.length ≤ o → Row (w.setCells g o vs) g e N xs
  | [], _, _, h, _ => h
  | v :: vs, w, o, h, ho => by
    have h1 : Row (w.setCell ⟨g, o, none⟩ v) g e N xs := by
      have := h.set o v
      rwa [List.set_eq_of_length_le ho] at this
    exact Row.setCells vs h1 (by omega)

theorem Only.setCells {S : Nat → Prop} {a : World} {g : Nat} (hg : S g) : ∀ (vs : List Value) {b : World} {o : Nat}, Only S a b → Only S a (b.setCells g o vs)
  | [], _, _, h => h
  | v :: vs, _, o, h => Only.setCells hg vs (h.setCell (p := ⟨g, o, none⟩) v (fun _ => hg))

/-- q of ys are behind; what stays of them lies in the first k. -/
structure CInv (ys : List Int) (q k : Nat) (zs A : List Int) : Prop where
  parts : ∃ M, zs = A ++ (M ++ ys.drop (q - 1)) ∧ A.length + M.length = q - 1
  len : A.length = k
  asc : A.Pairwise fun x y => x < y
  mem : ∀ z, z ∈ A ↔ z ∈ ys.take q
  last : A.getLast? = ys[q - 1]?
  pos : 1 ≤ q
  le : q ≤ ys.length

variable {ys zs A : List Int} {q k : Nat}

theorem CInv.size (h : CInv ys q k zs A) : zs.length = ys.length := by
  obtain ⟨M, rfl, hM⟩ := h.parts
  have := h.pos
  have := h.le
  simp
  omega

theorem CInv.klt (h : CInv ys q k zs A) : k < q := by
  obtain ⟨M, rfl, hM⟩ := h.parts
  have := h.pos
  have := h.len
  omega

theorem CInv.high (h : CInv ys q k zs A) {i : Nat} (hi : q - 1 ≤ i) : zs[i]? = ys[i]? := by
  obtain ⟨M, rfl, hM⟩ := h.parts
  rw [← List.append_assoc, List.getElem?_append_right (by simp; omega), List.getElem?_drop]
  congr 1
  simp
  omega

theorem CInv.first (h : CInv ys q k zs A) : zs.take k = A := by
  obtain ⟨M, rfl, hM⟩ := h.parts
  rw [← h.len]
  exact List.take_left

/-- No neighbouring equals among the first i: they ascend. -/
theorem asc_take {i : Nat} (hs : ys.Pairwise fun x y => x ≤ y) (hd : ∀ j x y, j < i → ys[j]? = some x → ys[j + 1]? = some y → j + 1 < i → x ≠ y) (hi : i ≤ ys.length) : (ys.take i).Pairwise fun x y => x < y := by
  rw [List.pairwise_iff_getElem]
  have key : ∀ n a b, b = a + n + 1 → (hb : b < i) → ∀ x y, ys[a]? = some x → ys[b]? = some y → x < y := by
    intro n
    induction n with
    | zero =>
      intro a b hab hb x y hx hy
      subst hab
      have hle := List.pairwise_iff_getElem.1 hs a (a + 1) (List.getElem?_eq_some_iff.1 hx).1 (List.getElem?_eq_some_iff.1 hy).1 (by omega)
      rw [(List.getElem?_eq_some_iff.1 hx).2, (List.getElem?_eq_some_iff.1 hy).2] at hle
      have := hd a x y (by omega) hx hy hb
      omega
    | succ n ih =>
      intro a b hab hb x y hx hy
      obtain ⟨z, hz⟩ : ∃ z, ys[b - 1]? = some z := ⟨_, List.getElem?_eq_getElem (by omega)⟩
      have h1 := ih a (b - 1) (by omega) (by omega) x z hx hz
      have e : b - 1 + 1 = b := by omega
      have hy' : ys[b - 1 + 1]? = some y := by rw [e]; exact hy
      have hle := List.pairwise_iff_getElem.1 hs (b - 1) b (by omega) (List.getElem?_eq_some_iff.1 hy).1 (by omega)
      rw [(List.getElem?_eq_some_iff.1 hz).2, (List.getElem?_eq_some_iff.1 hy).2] at hle
      omega
  intro a b ha hb hab
  rw [List.getElem_take, List.getElem_take]
  simp at ha hb
  exact key (b - a - 1) a b (by omega) (by omega) _ _ (List.getElem?_eq_getElem (by omega)) (List.getElem?_eq_getElem (by omega))

/-- No equals among the first k: nothing has turned. -/
theorem CInv.start {i : Nat} (hs : ys.Pairwise fun x y => x ≤ y) (hd : ∀ j x y, j < i → ys[j]? = some x → ys[j + 1]? = some y → j + 1 < i → x ≠ y) (hi : i < ys.length) (h1 : 1 ≤ i) {v : Int} (hv : ys[i]? = some v) (hu : ys[i - 1]? = some v) : CInv ys (i + 1) i ys (ys.take i) := by
  refine ⟨⟨[], by simp, by simp; omega⟩, by simp; omega, ?_, ?_, ?_, by omega, by omega⟩
  · exact asc_take hs hd (by omega)
  · intro z
    rw [List.take_add_one, hv, Option.toList_some, List.mem_append]
    constructor
    · exact Or.inl
    · rintro (h | h)
      · exact h
      · rw [List.mem_singleton] at h
        subst h
        exact List.mem_of_getElem? (i := i - 1) (by rw [List.getElem?_take, if_pos (by omega)]; exact hu)
  · rw [List.getLast?_eq_getElem?, List.length_take, List.getElem?_take, if_pos (by omega), show min i ys.length - 1 = i - 1 by omega, show i + 1 - 1 = i by omega, hu, hv]

theorem CInv.skip (h : CInv ys q k zs A) {v : Int} (hu : ys[q]? = some v) (hv : ys[q - 1]? = some v) : CInv ys (q + 1) k zs A := by
  obtain ⟨M, hz, hM⟩ := h.parts
  have hq := h.pos
  have hl := (List.getElem?_eq_some_iff.1 hu).1
  obtain ⟨hq1, ev⟩ := List.getElem?_eq_some_iff.1 hv
  refine ⟨⟨M ++ [v], ?_, by simp; omega⟩, h.len, h.asc, ?_, ?_, by omega, by omega⟩
  · rw [hz, List.append_assoc M, ← ev, List.singleton_append, show q + 1 - 1 = q - 1 + 1 by omega, ← List.drop_eq_getElem_cons hq1]
  · intro z
    rw [h.mem z, List.take_add_one, hu, Option.toList_some, List.mem_append, List.mem_singleton]
    constructor
    · exact Or.inl
    · rintro (h' | rfl)
      · exact h'
      · exact List.mem_of_getElem? (i := q - 1) (by rw [List.getElem?_take, if_pos (by omega)]; exact hv)
  · rw [h.last, hv, show q + 1 - 1 = q by omega, hu]

theorem CInv.keep (h : CInv ys q k zs A) (hs : ys.Pairwise fun x y => x ≤ y) {u v : Int} (hu : ys[q]? = some u) (hv : ys[q - 1]? = some v) (hne : u ≠ v) : CInv ys (q + 1) (k + 1) (zs.set k u) (A ++ [u]) := by
  obtain ⟨M, hz, hM⟩ := h.parts
  have hq := h.pos
  have hk := h.len
  obtain ⟨hl, eu⟩ := List.getElem?_eq_some_iff.1 hu
  obtain ⟨hq1, ev⟩ := List.getElem?_eq_some_iff.1 hv
  have hvu : v < u := by
    have := List.pairwise_iff_getElem.1 hs (q - 1) q hq1 hl (by omega)
    rw [ev, eu] at this
    omega
  refine ⟨⟨(M ++ [v]).drop 1, ?_, by simp; omega⟩, by simp [hk], ?_, ?_, ?_, by omega, by omega⟩
  · have e1 : M ++ ys.drop (q - 1) = (M ++ [v]) ++ ys.drop q := by
      rw [List.append_assoc M, ← ev, List.singleton_append]
      have e := List.drop_eq_getElem_cons hq1
      rw [e, show q - 1 + 1 = q by omega]
    rw [hz, e1, List.set_append, if_neg (by omega), hk, Nat.sub_self, show q + 1 - 1 = q by omega]
    cases M with
    | nil => simp
    | cons m M => simp
  · rw [List.pairwise_append]
    refine ⟨h.asc, by simp, ?_⟩
    intro a ha b hb
    rw [List.mem_singleton] at hb
    subst hb
    have : a ≤ v := by
      obtain ⟨i, hi, ei⟩ := List.getElem_of_mem ((h.mem a).1 ha)
      rw [List.getElem_take] at ei
      simp at hi
      rcases Nat.lt_or_ge i (q - 1) with hlt | hge
      · have := List.pairwise_iff_getElem.1 hs i (q - 1) (by omega) hq1 hlt
        rw [ei, ev] at this
        exact this
      · have : i = q - 1 := by omega
        subst this
        omega
    omega
  · intro z
    rw [List.mem_append, h.mem z, List.take_add_one, hu, Option.toList_some, List.mem_append]
  · rw [List.getLast?_append, show q + 1 - 1 = q by omega, hu]
    rfl

theorem CInv.all (h : CInv ys q k zs A) (hq : ys.length ≤ q) : (∀ z, z ∈ A ↔ z ∈ ys) := by
  intro z
  rw [h.mem z, List.take_of_length_le hq]
end Go.PC
