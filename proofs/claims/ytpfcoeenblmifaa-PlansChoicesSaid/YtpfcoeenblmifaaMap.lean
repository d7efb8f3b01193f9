/-
  Maps with typed keys and elements: what a block that holds a map is good for, and the laws of Go's operations on it. No program is named here.
-/
import Derived.Maps.RangeWalk
import Derived.WalkKit
namespace Go.PC
open Go.ChangeMaps (setBlock heap_setBlock_same heap_setBlock_other modify_eq_set)
open Go.MapKept
open Go.Maps (Keyed)

/-- Of the blocks that were there, those in S alone may have turned. -/
structure Only (S : Nat → Prop) (w w' : World) : Prop where
  os : w'.os = w.os
  tape : w'.tape = w.tape
  output : w'.output = w.output
  size : w.heap.size ≤ w'.heap.size
  block : ∀ i, i < w.heap.size → ¬ S i → w'.heap[i]? = w.heap[i]?

theorem Only.refl (S : Nat → Prop) (w : World) : Only S w w := ⟨rfl, rfl, rfl, Nat.le_refl _, fun _ _ _ => rfl⟩

theorem Only.trans {S : Nat → Prop} {a b c : World} (h : Only S a b) (k : Only S b c) : Only S a c :=
  ⟨k.os.trans h.os, k.tape.trans h.tape, k.output.trans h.output, Nat.le_trans h.size k.size,
    fun i hi hS => (k.block i (Nat.lt_of_lt_of_le hi h.size) hS).trans (h.block i hi hS)⟩

/-- The second step may also have turned blocks that are new since the first world. -/
theorem Only.andThen {S S' : Nat → Prop} {a b c : World} (h : Only S a b) (k : Only S' b c) (hs : ∀ i, i < a.heap.size → S' i → S i) : Only S a c :=
  ⟨k.os.trans h.os, k.tape.trans h.tape, k.output.trans h.output, Nat.le_trans h.size k.size,
    fun i hi hS => (k.block i (Nat.lt_of_lt_of_le hi h.size) (fun h' => hS (hs i hi h'))).trans (h.block i hi hS)⟩

theorem Only.mono {S S' : Nat → Prop} {a b : World} (h : Only S a b) (hs : ∀ i, i < a.heap.size → S i → S' i) : Only S' a b :=
  ⟨h.os, h.tape, h.output, h.size, fun i hi hS => h.block i hi (fun h' => hS (hs i hi h'))⟩

theorem Only.alloc {S : Nat → Prop} {a b : World} (h : Only S a b) (o : Obj) : Only S a (b.alloc o) :=
  h.andThen (S' := fun _ => False) ⟨rfl, rfl, rfl, by simp, fun i hi _ => (MapKept.heap_alloc b o).2 i hi⟩ (fun _ _ h => h.elim)

theorem Only.drew {S : Nat → Prop} {a b : World} (h : Only S a b) : Only S a b.drew := ⟨h.os, h.tape, h.output, h.size, h.block⟩

theorem Only.setCell {S : Nat → Prop} {a b : World} (h : Only S a b) (p : Addr) (u : Value) (hp : p.block < a.heap.size → S p.block) : Only S a (b.setCell p u) :=
  h.andThen (S' := fun i => i = p.block) ⟨rfl, rfl, rfl, by simp, fun i _ hS => RowKit.Below.heap_setCell b p u i hS⟩ (fun _ hi h => h ▸ hp (h ▸ hi))

theorem Only.below {S : Nat → Prop} {a b : World} {B : Nat} (h : Only S a b) (hS : ∀ i, i < B → i < a.heap.size ∧ ¬ S i) : RowKit.Below B a b :=
  ⟨h.os, h.tape, h.output, h.size, fun i hi => h.block i (hS i hi).1 (hS i hi).2⟩

theorem Only.of_below {B : Nat} {a b : World} (h : RowKit.Below B a b) : Only (fun i => B ≤ i) a b :=
  ⟨h.os, h.tape, h.output, h.size, fun i _ hS => h.block i (Nat.lt_of_not_le hS)⟩

theorem Only.of_grownBy {row : Option Nat} {a b : World} (h : a.grownBy b row) : Only (fun i => some i = row) a b :=
  ⟨h.os, h.tape, h.output, h.size, fun i hi hS => h.block i hi hS⟩

theorem Only.cell {S : Nat → Prop} {a b : World} (h : Only S a b) {p : Addr} {v : Value} (hc : a.cell? p = some v) (hS : ¬ S p.block) : b.cell? p = some v := by
  have hlt : p.block < a.heap.size := by
    rcases Nat.lt_or_ge p.block a.heap.size with h' | h'
    · exact h'
    · simp [World.cell?, Array.getElem?_eq_none h'] at hc
  rw [World.cell?_of_block (w := a) (h.block p.block hlt hS)]; exact hc

theorem Only.keep {S : Nat → Prop} {a b : World} (h : Only S a b) {i : Nat} {o : Obj} (hb : a.heap[i]? = some o) (hS : ¬ S i) : b.heap[i]? = some o :=
  (h.block i (Array.getElem?_eq_some_iff.1 hb).1 hS).trans hb

theorem lt_of_heap {w : World} {i : Nat} {o : Obj} (hb : w.heap[i]? = some o) : i < w.heap.size := (Array.getElem?_eq_some_iff.1 hb).1

/-! ### A map's type -/

structure MapTy (P : Program) (t : TypeId) (κ ν : Type) where
  k : TypeId
  e : TypeId
  kenc : κ → Value
  good : κ → Prop
  venc : ν → Value
  zero : ν
  inj : ∀ {a b}, kenc a = kenc b → a = b
  ht : P.underlying t = some (.map k e)
  hz : ∀ w, (zeroValue e).run P w = .ok (venc zero) w
  check : ∀ (w : World) (em : Bool) {a}, good a → (Instr.checkKey em 10000 k (kenc a)).run P w = .ok () w
  find : ∀ (w : World) {a}, good a → ∀ es : List MapEntry, (∀ e ∈ es, ∃ b, good b ∧ e.key = kenc b) →
    ((Instr.findKey k (kenc a) es).run P w = .ok none w ∧ ∀ e ∈ es, e.key ≠ kenc a) ∨ ∃ j e, (Instr.findKey k (kenc a) es).run P w = .ok (some (j, e.val)) w ∧ es[j]? = some e ∧ e.key = kenc a
  stays : ∀ (w : World) {a}, good a → (Instr.keyThatStays (kenc a) (kenc a)).run P w = .ok (kenc a) w

/-- A key type of an integer kind. -/
def MapTy.int (P : Program) (t k e : TypeId) (q : IntKind) {ν : Type} (venc : ν → Value) (zero : ν) (ht : P.underlying t = some (.map k e)) (hk : P.underlying k = some (.int q))
    (hz : ∀ w, (zeroValue e).run P w = .ok (venc zero) w) : MapTy P t Int ν where
  k := k
  e := e
  kenc := Value.int q
  good := fun a => (Lit.int q a).wf = true
  venc := venc
  zero := zero
  inj := fun h => by cases h; rfl
  ht := ht
  hz := hz
  check := fun w em _ ha => (Maps.int_keyed hk).check w em (Maps.keyOf_int_mk hk ha)
  find := fun w _ ha es hes => (Maps.int_keyed hk).find w (Maps.keyOf_int_mk hk ha) es (fun e he => by
    obtain ⟨b, hb, eb⟩ := hes e he
    exact ⟨_, eb ▸ Maps.keyOf_int_mk hk hb⟩)
  stays := fun w _ ha => (Maps.int_keyed hk).stays w (Maps.keyOf_int_mk hk ha)

variable {P : Program} {t : TypeId} {κ ν : Type}

/-- Block b of w is a map of n entries, which is L. -/
def MapTy.at (T : MapTy P t κ ν) (w : World) (b : Nat) (L : κ → Option ν) (n : Nat) : Prop :=
  ∃ es clock, w.heap[b]? = some (.map es clock) ∧ Stamped es clock ∧ es.size = n ∧
    (∀ e ∈ es.toList, ∃ a v, T.good a ∧ e.key = T.kenc a ∧ e.val = T.venc v ∧ L a = some v) ∧
    (∀ a v, L a = some v → ∃ e ∈ es.toList, e.key = T.kenc a ∧ e.val = T.venc v)

/-- L with v at a. -/
def upd [DecidableEq κ] (L : κ → Option ν) (a : κ) (v : Option ν) : κ → Option ν := fun x => if x = a then v else L x

theorem upd_same [DecidableEq κ] (L : κ → Option ν) (a : κ) (v : Option ν) : upd L a v a = v := by simp [upd]
theorem upd_other [DecidableEq κ] (L : κ → Option ν) {a x : κ} (v : Option ν) (h : x ≠ a) : upd L a v x = L x := by simp [upd, h]

section
variable {T : MapTy P t κ ν} {w w' : World} {b n : Nat} {L : κ → Option ν}

theorem MapTy.at.lt (h : T.at w b L n) : b < w.heap.size := by
  obtain ⟨es, clock, hb, _⟩ := h
  exact lt_of_heap hb

theorem MapTy.at.of_block (h : T.at w b L n) (hb : w'.heap[b]? = w.heap[b]?) : T.at w' b L n := by
  obtain ⟨es, clock, h1, h2⟩ := h
  exact ⟨es, clock, hb.trans h1, h2⟩

theorem MapTy.at.only {S : Nat → Prop} (h : T.at w b L n) (ho : Only S w w') (hS : ¬ S b) : T.at w' b L n :=
  h.of_block (ho.block b h.lt hS)

theorem MapTy.at.alloc (h : T.at w b L n) (o : Obj) : T.at (w.alloc o) b L n := h.of_block ((MapKept.heap_alloc w o).2 b h.lt)

theorem MapTy.at_made (T : MapTy P t κ ν) (w : World) : T.at (w.alloc (.map #[] 0)) w.heap.size (fun _ => none) 0 :=
  ⟨#[], 0, (MapKept.heap_alloc w _).1, stamped_empty 0, rfl, by simp, by simp⟩

theorem MapTy.at.good (h : T.at w b L n) {a : κ} {v : ν} (ha : L a = some v) : T.good a := by
  obtain ⟨es, clock, _, _, _, h4, h5⟩ := h
  obtain ⟨e, he, hk, _⟩ := h5 a v ha
  obtain ⟨a', _, hg, hk', _, _⟩ := h4 e he
  rw [hk] at hk'
  exact T.inj hk' ▸ hg

/-- What 'findKey' finds. -/
theorem MapTy.at_find {es : Array MapEntry}
    (h4 : ∀ e ∈ es.toList, ∃ a v, T.good a ∧ e.key = T.kenc a ∧ e.val = T.venc v ∧ L a = some v)
    (h5 : ∀ a v, L a = some v → ∃ e ∈ es.toList, e.key = T.kenc a ∧ e.val = T.venc v) {a : κ} (ha : T.good a) :
    (L a = none ∧ (Instr.findKey T.k (T.kenc a) es.toList).run P w = .ok none w ∧ ∀ e ∈ es.toList, e.key ≠ T.kenc a) ∨
    ∃ j e v, L a = some v ∧ (Instr.findKey T.k (T.kenc a) es.toList).run P w = .ok (some (j, e.val)) w ∧ es.toList[j]? = some e ∧ e.key = T.kenc a ∧ e.val = T.venc v := by
  rcases T.find w ha es.toList (fun e he => let ⟨b, _, hg, hk, _⟩ := h4 e he; ⟨b, hg, hk⟩) with ⟨h1, h2⟩ | ⟨j, e, h1, h2, h3⟩
  · left
    refine ⟨?_, h1, h2⟩
    cases hL : L a with
    | none => rfl
    | some v =>
      obtain ⟨e, he, hk, _⟩ := h5 a v hL
      exact absurd hk (h2 e he)
  · right
    obtain ⟨a', v, _, hk, hv, hL⟩ := h4 e (List.mem_of_getElem? h2)
    rw [h3] at hk
    have := T.inj hk
    subst this
    exact ⟨j, e, v, hL, h1, h2, h3, hv⟩

theorem MapTy.at.lookup (h : T.at w b L n) {a : κ} (ha : T.good a) (c : Bool) :
    (Instr.lookup t (.map (some b)) (T.kenc a) c).run P w = .ok (if c then .tuple #[T.venc ((L a).getD T.zero), .bool (L a).isSome] else T.venc ((L a).getD T.zero)) w := by
  obtain ⟨es, clock, hb, hs, _, h4, h5⟩ := h
  rcases MapTy.at_find (w := w) h4 h5 ha with ⟨hL, h1, _⟩ | ⟨j, e, v, hL, h1, _, _, hv⟩
  · simp [Instr.lookup, run_underlying T.ht, MapKept.run_getObj_map hb, T.check w _ ha, h1, T.hz, hL, Result.andThen]
  · simp [Instr.lookup, run_underlying T.ht, MapKept.run_getObj_map hb, T.check w _ ha, h1, hL, hv, Result.andThen]

theorem MapTy.look_nil (T : MapTy P t κ ν) (w : World) {a : κ} (ha : T.good a) (c : Bool) :
    (Instr.lookup t (.map none) (T.kenc a) c).run P w = .ok (if c then .tuple #[T.venc T.zero, .bool false] else T.venc T.zero) w := by
  rcases T.find w ha [] (by simp) with ⟨h1, _⟩ | ⟨j, e, _, h2, _⟩
  · simp [Instr.lookup, run_underlying T.ht, T.check w _ ha, h1, T.hz, Result.andThen]
  · simp at h2

theorem MapTy.at.len (h : T.at w b L n) (ty : TypeId) : (Builtin.len_ #[t] ty #[.map (some b)]).run P w = .ok (.int .i64 n) w := by
  obtain ⟨es, clock, hb, _, hn, _⟩ := h
  simp [Builtin.len_, run_underlying T.ht, MapKept.run_getObj_map hb, goInt, Result.andThen, hn]

theorem only_setBlock {es : Array MapEntry} {clock : Nat} (hb : w.heap[b]? = some (.map es clock)) (o : Obj) : Only (fun i => i = b) w (setBlock w b o) :=
  ⟨rfl, rfl, rfl, by simp [setBlock], fun _ _ hi => heap_setBlock_other hb _ hi⟩

/-- The entries behind a store at a key that is there. -/
theorem MapTy.at_modify [DecidableEq κ] {es : Array MapEntry} {clock : Nat} (hs : Stamped es clock)
    (h4 : ∀ e ∈ es.toList, ∃ a v, T.good a ∧ e.key = T.kenc a ∧ e.val = T.venc v ∧ L a = some v)
    (h5 : ∀ a v, L a = some v → ∃ e ∈ es.toList, e.key = T.kenc a ∧ e.val = T.venc v) {a : κ} (ha : T.good a) {j : Nat} {e : MapEntry} (h2 : es.toList[j]? = some e) (h3 : e.key = T.kenc a) (v : ν) :
    let es' := es.modify j (fun e' => { e' with key := T.kenc a, val := T.venc v })
    Stamped es' clock ∧ (∀ e ∈ es'.toList, ∃ x y, T.good x ∧ e.key = T.kenc x ∧ e.val = T.venc y ∧ upd L a (some v) x = some y) ∧
      (∀ x y, upd L a (some v) x = some y → ∃ e ∈ es'.toList, e.key = T.kenc x ∧ e.val = T.venc y) ∧
      (∀ x ∈ es'.toList, ∃ y ∈ es.toList, x.key = y.key ∧ x.born = y.born) ∧ es'.toList.map (·.born) = es.toList.map (·.born) := by
  intro es'
  have hj : es[j]? = some e := by simpa using h2
  have hjl : j < es.toList.length := (List.getElem?_eq_some_iff.1 h2).1
  have hlist : es'.toList = es.toList.set j { e with key := T.kenc a, val := T.venc v } := by
    show (es.modify j _).toList = _
    rw [Array.toList_modify, modify_eq_set _ _ _ _ h2]
  have hap := ((stamped_iff es clock).1 hs).2.2
  have other : ∀ i x, es.toList[i]? = some x → i ≠ j → x.key ≠ T.kenc a := fun i x hi hne hk => by
    have hil := (List.getElem?_eq_some_iff.1 hi).1
    have e1 : es.toList[i] = x := (List.getElem?_eq_some_iff.1 hi).2
    have e2 : es.toList[j] = e := (List.getElem?_eq_some_iff.1 h2).2
    rcases Nat.lt_or_gt_of_ne hne with hlt | hlt
    · exact (List.pairwise_iff_getElem.1 hap i j hil hjl hlt) (by rw [e1, e2, hk, h3])
    · exact (List.pairwise_iff_getElem.1 hap j i hjl hil hlt) (by rw [e1, e2, hk, h3])
  have who : ∀ x ∈ es'.toList, x = { e with key := T.kenc a, val := T.venc v } ∨ (x ∈ es.toList ∧ x.key ≠ T.kenc a) := by
    intro x hx
    rw [hlist] at hx
    obtain ⟨i, hi, ex⟩ := List.getElem_of_mem hx
    rw [List.getElem_set] at ex
    split at ex
    · exact Or.inl ex.symm
    · rename_i hne
      have hi' : i < es.toList.length := by simpa using hi
      exact Or.inr ⟨ex ▸ List.getElem_mem hi', other i x (by rw [List.getElem?_eq_getElem hi', ex]) (fun e1 => hne e1.symm)⟩
  have hmem : ({ e with key := T.kenc a, val := T.venc v } : MapEntry) ∈ es'.toList := by
    rw [hlist]; exact List.mem_iff_getElem.2 ⟨j, by simpa using hjl, by simp⟩
  have hborn : es'.toList.map (·.born) = es.toList.map (·.born) := by
    rw [hlist, List.map_set]
    apply List.ext_getElem?
    intro i
    rw [List.getElem?_set]
    split
    · rename_i hij
      subst hij
      rw [if_pos (by simpa using hjl), List.getElem?_map, h2]
      rfl
    · rfl
  refine ⟨stamped_modify hs _ _ (fun _ _ => rfl) (fun e' _ he' => ?_), ?_, ?_, ?_, hborn⟩
  · rw [hj] at he'; cases he'; exact h3.symm
  · intro x hx
    rcases who x hx with rfl | ⟨hx', hne⟩
    · exact ⟨a, v, ha, rfl, rfl, upd_same ..⟩
    · obtain ⟨a', v', hg, hk, hv, hL⟩ := h4 x hx'
      refine ⟨a', v', hg, hk, hv, ?_⟩
      rw [upd_other]
      · exact hL
      · rintro rfl; exact hne hk
  · intro x y hxy
    by_cases hxa : x = a
    · subst hxa
      rw [upd_same] at hxy
      cases hxy
      exact ⟨_, hmem, rfl, rfl⟩
    · rw [upd_other _ _ hxa] at hxy
      obtain ⟨e', he', hk', hv'⟩ := h5 x y hxy
      obtain ⟨i, hi, ei⟩ := List.getElem_of_mem he'
      have hne : i ≠ j := by
        rintro rfl
        rw [List.getElem?_eq_getElem hi, ei] at h2
        cases h2
        exact hxa (T.inj (hk'.symm.trans h3))
      refine ⟨e', ?_, hk', hv'⟩
      rw [hlist]
      exact List.mem_iff_getElem.2 ⟨i, by simpa using hi, by rw [List.getElem_set, if_neg (fun e1 => hne e1.symm)]; exact ei⟩
  · intro x hx
    rcases who x hx with rfl | ⟨hx', _⟩
    · exact ⟨e, List.mem_of_getElem? h2, h3.symm, rfl⟩
    · exact ⟨x, hx', rfl, rfl⟩

theorem MapTy.at.update [DecidableEq κ] (h : T.at w b L n) {a : κ} (ha : T.good a) (v : ν) :
    ∃ w', (Instr.mapUpdate t (.map (some b)) (T.kenc a) (T.venc v)).run P w = .ok () w' ∧ T.at w' b (upd L a (some v)) (if (L a).isSome then n else n + 1) ∧ Only (fun i => i = b) w w' ∧ w'.heap.size = w.heap.size := by
  obtain ⟨es, clock, hb, hs, hn, h4, h5⟩ := h
  rcases MapTy.at_find (w := w) h4 h5 ha with ⟨hL, h1, h2⟩ | ⟨j, e, v0, hL, h1, h2, h3, hv⟩
  · refine ⟨setBlock w b (.map (es.push ⟨T.kenc a, T.venc v, clock⟩) (clock + 1)), ?_, ⟨_, _, heap_setBlock_same hb _, stamped_push hs h2, ?_, ?_, ?_⟩, only_setBlock hb _, by simp [setBlock]⟩
    · simp [Instr.mapUpdate, run_underlying T.ht, MapKept.run_getObj_map hb, T.check w false ha, h1, MapKept.run_setObj_map _ hb, Result.andThen, setBlock]
    · simp [hL, hn]
    · intro e he
      simp only [Array.toList_push, List.mem_append, List.mem_singleton] at he
      rcases he with he | rfl
      · obtain ⟨a', v', hg, hk, hv, hL'⟩ := h4 e he
        exact ⟨a', v', hg, hk, hv, by rw [upd_other]; exact hL'; rintro rfl; rw [hL] at hL'; cases hL'⟩
      · exact ⟨a, v, ha, rfl, rfl, upd_same ..⟩
    · intro x y hxy
      by_cases hxa : x = a
      · subst hxa
        rw [upd_same] at hxy
        cases hxy
        exact ⟨⟨T.kenc x, T.venc v, clock⟩, by simp, rfl, rfl⟩
      · rw [upd_other _ _ hxa] at hxy
        obtain ⟨e', he', hk', hv'⟩ := h5 x y hxy
        exact ⟨e', by simp [he'], hk', hv'⟩
  · have hj : es[j]? = some e := by simpa using h2
    obtain ⟨m1, m2, m3, _, _⟩ := MapTy.at_modify (T := T) hs h4 h5 ha h2 h3 v
    refine ⟨setBlock w b (.map (es.modify j (fun e' => { e' with key := T.kenc a, val := T.venc v })) clock), ?_, ⟨_, _, heap_setBlock_same hb _, m1, ?_, m2, m3⟩, only_setBlock hb _, by simp [setBlock]⟩
    · simp [Instr.mapUpdate, run_underlying T.ht, MapKept.run_getObj_map hb, T.check w false ha, h1, hj, h3, T.stays w ha, MapKept.run_setObj_map _ hb, Result.andThen, setBlock]
    · simp [hL, hn]

theorem MapTy.at.drop [DecidableEq κ] (h : T.at w b L n) {a : κ} (ha : T.good a) (ty : TypeId) :
    ∃ w', (Builtin.delete_ #[t, T.k] ty #[.map (some b), T.kenc a]).run P w = .ok (.tuple #[]) w' ∧ T.at w' b (upd L a none) (if (L a).isSome then n - 1 else n) ∧ Only (fun i => i = b) w w' ∧ w'.heap.size = w.heap.size := by
  obtain ⟨es, clock, hb, hs, hn, h4, h5⟩ := h
  rcases MapTy.at_find (w := w) h4 h5 ha with ⟨hL, h1, h2⟩ | ⟨j, e, v0, hL, h1, h2, h3, hv⟩
  · refine ⟨setBlock w b (.map es clock), ?_, ⟨_, _, heap_setBlock_same hb _, hs, ?_, ?_, ?_⟩, only_setBlock hb _, by simp [setBlock]⟩
    · simp [Builtin.delete_, run_underlying T.ht, MapKept.run_getObj_map hb, T.check w _ ha, h1, MapKept.run_setObj_map _ hb, Result.andThen, setBlock]
    · simp [hL, hn]
    · intro e he
      obtain ⟨a', v', hg, hk, hv, hL'⟩ := h4 e he
      exact ⟨a', v', hg, hk, hv, by rw [upd_other]; exact hL'; rintro rfl; rw [hL] at hL'; cases hL'⟩
    · intro x y hxy
      by_cases hxa : x = a
      · subst hxa
        rw [upd_same] at hxy
        cases hxy
      · rw [upd_other _ _ hxa] at hxy
        exact h5 x y hxy
  · have hjl : j < es.toList.length := (List.getElem?_eq_some_iff.1 h2).1
    have hjs : j < es.size := by simpa using hjl
    have hsub : (es.eraseIdxIfInBounds j).toList = es.toList.eraseIdx j := by
      unfold Array.eraseIdxIfInBounds
      rw [dif_pos hjs]
      simp
    have hap := ((stamped_iff es clock).1 hs).2.2
    have other : ∀ i x, es.toList[i]? = some x → i ≠ j → x.key ≠ T.kenc a := fun i x hi hne hk => by
      have hil := (List.getElem?_eq_some_iff.1 hi).1
      have e1 : es.toList[i] = x := (List.getElem?_eq_some_iff.1 hi).2
      have e2 : es.toList[j] = e := (List.getElem?_eq_some_iff.1 h2).2
      rcases Nat.lt_or_gt_of_ne hne with hlt | hlt
      · exact (List.pairwise_iff_getElem.1 hap i j hil hjl hlt) (by rw [e1, e2, hk, h3])
      · exact (List.pairwise_iff_getElem.1 hap j i hjl hil hlt) (by rw [e1, e2, hk, h3])
    refine ⟨setBlock w b (.map (es.eraseIdxIfInBounds j) clock), ?_, ⟨_, _, heap_setBlock_same hb _, stamped_erase hs j, ?_, ?_, ?_⟩, only_setBlock hb _, by simp [setBlock]⟩
    · simp [Builtin.delete_, run_underlying T.ht, MapKept.run_getObj_map hb, T.check w _ ha, h1, MapKept.run_setObj_map _ hb, Result.andThen, setBlock]
    · have : (es.eraseIdxIfInBounds j).toList.length = n - 1 := by
        rw [hsub, List.length_eraseIdx, if_pos hjl, Array.length_toList, hn]
      rw [hL, if_pos (by rfl), ← this, Array.length_toList]
    · intro x hx
      rw [hsub, List.mem_eraseIdx_iff_getElem?] at hx
      obtain ⟨i, hne, hi⟩ := hx
      obtain ⟨a', v', hg, hk, hv, hL'⟩ := h4 x (List.mem_of_getElem? hi)
      refine ⟨a', v', hg, hk, hv, ?_⟩
      rw [upd_other]
      · exact hL'
      · rintro rfl; exact other i x hi hne hk
    · intro x y hxy
      by_cases hxa : x = a
      · subst hxa
        rw [upd_same] at hxy
        cases hxy
      · rw [upd_other _ _ hxa] at hxy
        obtain ⟨e', he', hk', hv'⟩ := h5 x y hxy
        obtain ⟨i, hi⟩ := List.getElem?_of_mem he'
        refine ⟨e', ?_, hk', hv'⟩
        rw [hsub, List.mem_eraseIdx_iff_getElem?]
        refine ⟨i, ?_, hi⟩
        rintro rfl
        rw [hi] at h2
        cases h2
        exact hxa (T.inj (hk'.symm.trans h3))

end

/-! ### Ranging -/

/-- Block b is a map, which is L; block r is an iterator over it, and the entries at the keys of 'left' are still to come. -/
def MapTy.ranging (T : MapTy P t κ ν) (w : World) (b r : Nat) (L : κ → Option ν) (n : Nat) (left : κ → Bool) (cnt : Nat) : Prop :=
  ∃ es clock since seen c0, w.heap[b]? = some (.map es clock) ∧ Stamped es clock ∧ es.size = n ∧
    (∀ e ∈ es.toList, ∃ a v, T.good a ∧ e.key = T.kenc a ∧ e.val = T.venc v ∧ L a = some v) ∧
    (∀ a v, L a = some v → ∃ e ∈ es.toList, e.key = T.kenc a ∧ e.val = T.venc v) ∧
    w.heap[r]? = some (.mapIter (some b) since seen c0) ∧ (∀ x ∈ es.toList, x.born < since) ∧ (leftOf es seen).size = cnt ∧
    (∀ x ∈ es.toList, ∀ a, x.key = T.kenc a → left a = !seen.contains x.born) ∧ (∀ a, left a = true → (L a).isSome = true) ∧ since ≤ c0 ∧ since ≤ clock

section
variable {T : MapTy P t κ ν} {w w' : World} {b r n : Nat} {L : κ → Option ν} {left : κ → Bool} {cnt : Nat}

theorem MapTy.ranging.at (h : T.ranging w b r L n left cnt) : T.at w b L n := by
  obtain ⟨es, clock, _, _, _, hb, hs, hn, h4, h5, _⟩ := h
  exact ⟨es, clock, hb, hs, hn, h4, h5⟩

theorem MapTy.ranging.left_eq (h : T.ranging w b r L n left cnt) : w.rangeLeft b r = cnt := by
  obtain ⟨es, clock, since, seen, c0, hb, _, _, _, _, hr, _, hc, _⟩ := h
  simp only [World.rangeLeft, hb, hr]
  exact hc

theorem MapTy.ranging.lt (h : T.ranging w b r L n left cnt) : r < w.heap.size := by
  obtain ⟨es, clock, since, seen, c0, _, _, _, _, _, hr, _⟩ := h
  exact lt_of_heap hr

theorem MapTy.ranging.ne (h : T.ranging w b r L n left cnt) : r ≠ b := by
  obtain ⟨es, clock, since, seen, c0, hb, _, _, _, _, hr, _⟩ := h
  intro e
  rw [e, hb] at hr
  cases hr

theorem MapTy.ranging.of_block (h : T.ranging w b r L n left cnt) (h1 : w'.heap[b]? = w.heap[b]?) (h2 : w'.heap[r]? = w.heap[r]?) : T.ranging w' b r L n left cnt := by
  obtain ⟨es, clock, since, seen, c0, hb, hs, hn, h4, h5, hr, rest⟩ := h
  exact ⟨es, clock, since, seen, c0, h1.trans hb, hs, hn, h4, h5, h2.trans hr, rest⟩

theorem MapTy.ranging.only {S : Nat → Prop} (h : T.ranging w b r L n left cnt) (ho : Only S w w') (hb : ¬ S b) (hr : ¬ S r) : T.ranging w' b r L n left cnt :=
  h.of_block (ho.block b h.at.lt hb) (ho.block r h.lt hr)

theorem MapTy.ranging.alloc (h : T.ranging w b r L n left cnt) (o : Obj) : T.ranging (w.alloc o) b r L n left cnt :=
  h.of_block ((MapKept.heap_alloc w o).2 b h.at.lt) ((MapKept.heap_alloc w o).2 r h.lt)

theorem MapTy.at.range (h : T.at w b L n) :
    ∃ w', (Instr.range t (.map (some b))).run P w = .ok (.pointer (some ⟨w.heap.size, 0, none⟩)) w' ∧ T.ranging w' b w.heap.size L n (fun a => (L a).isSome) n ∧ Only (fun _ => False) w w' ∧ w'.heap.size = w.heap.size + 1 := by
  have hlt := h.lt
  obtain ⟨es, clock, hb, hs, hn, h4, h5⟩ := h
  refine ⟨_, run_range_map w t T.k T.e b es clock T.ht hb, ⟨es, clock, clock, #[], clock, ((MapKept.heap_alloc w _).2 b hlt).trans hb, hs, hn, h4, h5, (MapKept.heap_alloc w _).1, hs.1, ?_, ?_, fun _ h => h, Nat.le_refl _, Nat.le_refl _⟩, (Only.refl _ w).alloc _, by simp⟩
  · have : leftOf es #[] = es := by unfold leftOf; exact Array.filter_eq_self.2 (by simp)
    rw [this, hn]
  · intro x hx a hk
    obtain ⟨a', v, _, hk', _, hL⟩ := h4 x hx
    rw [hk] at hk'
    have := T.inj hk'
    subst this
    simp [hL]

/-- The step. -/
theorem MapTy.ranging.next [DecidableEq κ] (h : T.ranging w b r L n left cnt) (ty : TypeId) :
    (cnt = 0 ∧ (∀ a, left a = false) ∧ (Instr.next (.pointer (some ⟨r, 0, none⟩)) false ty).run P w = .ok (.tuple #[.bool false]) w) ∨
    ∃ a v w' cnt', T.good a ∧ left a = true ∧ L a = some v ∧ (Instr.next (.pointer (some ⟨r, 0, none⟩)) false ty).run P w = .ok (.tuple #[.bool true, T.kenc a, T.venc v]) w' ∧
      T.ranging w' b r L n (fun x => left x && !decide (x = a)) cnt' ∧ cnt' < cnt ∧ Only (fun i => i = r) w w' ∧ w'.heap.size = w.heap.size ∧ (Instr.entry (.pointer (some ⟨r, 0, none⟩))).run P w' = .ok (.tuple #[T.kenc a, T.venc v]) w' := by
  have hne := h.ne
  obtain ⟨es, clock, since, seen, c0, hb, hs, hn, h4, h5, hr, hold, rfl, hl1, hl2, hsc, hsk⟩ := h
  have hst := (stamped_iff es clock).1 hs
  rcases run_next_at (P := P) w ty r b since c0 seen es clock hr hb hold hsc with ⟨h0, hrun⟩ | ⟨e, he, w1, hal, hrun⟩
  · refine Or.inl ⟨h0, fun a => ?_, hrun⟩
    cases hk : left a
    · rfl
    · obtain ⟨v, hv⟩ := Option.isSome_iff_exists.1 (hl2 a hk)
      obtain ⟨x, hx, hxk, _⟩ := h5 a v hv
      rw [hl1 x hx a hxk, all_seen es seen h0 x hx] at hk
      cases hk
  · obtain ⟨hem, hes⟩ := mem_left he
    obtain ⟨a, v, hg, hk, hv, hL⟩ := h4 e hem
    have hr1 : w1.heap[r]? = some (.mapIter (some b) since seen c0) := by rcases hal with rfl | rfl <;> exact hr
    have hb1 : w1.heap[b]? = some (.map es clock) := by rcases hal with rfl | rfl <;> exact hb
    have hset := heap_set (o' := .mapIter (some b) since (seen.push e.born) clock) hr1
    have hb2 : (setBlock w1 r (.mapIter (some b) since (seen.push e.born) clock)).heap[b]? = some (.map es clock) := (hset.2 b (Ne.symm hne)).trans hb1
    refine Or.inr ⟨a, v, setBlock w1 r (.mapIter (some b) since (seen.push e.born) clock), _, hg, ?_, hL, by rw [← hk, ← hv]; exact hrun,
      ⟨es, clock, since, seen.push e.born, clock, hb2, hs, hn, h4, h5, hset.1, hold, rfl, ?_, ?_, hsk, hsk⟩, left_shrinks es seen e he, ?_, ?_, ?_⟩
    · rw [hl1 e hem a hk, hes]; rfl
    · intro x hx a' hk'
      show (left a' && !decide (a' = a)) = _
      rw [hl1 x hx a' hk', contains_push]
      by_cases haa : a' = a
      · subst haa
        have : x = e := entry_eq_of_key hst.2.2 hx hem (hk'.trans hk.symm)
        subst this
        simp
      · have : x.born ≠ e.born := fun hbb => haa (T.inj (by rw [← hk', ← hk, born_inj hst.2.1 hx hem hbb]))
        simp [haa, this]
    · intro a' h'
      simp only [Bool.and_eq_true] at h'
      exact hl2 a' h'.1
    · rcases hal with rfl | rfl
      · exact ⟨rfl, rfl, rfl, by simp [setBlock], fun i _ hi => hset.2 i hi⟩
      · exact ⟨rfl, rfl, rfl, by simp [setBlock], fun i _ hi => hset.2 i hi⟩
    · rcases hal with rfl | rfl <;> simp [setBlock]
    · rw [← hk, ← hv]
      exact run_entry_at (P := P) _ r b since seen es clock e hset.1 hb2 hem hst.2.1

/-- A store at a key that is there. -/
theorem MapTy.ranging.update [DecidableEq κ] (h : T.ranging w b r L n left cnt) {a : κ} (ha : (L a).isSome = true) (v : ν) :
    ∃ w', (Instr.mapUpdate t (.map (some b)) (T.kenc a) (T.venc v)).run P w = .ok () w' ∧ T.ranging w' b r (upd L a (some v)) n left cnt ∧ Only (fun i => i = b) w w' ∧ w'.heap.size = w.heap.size := by
  have hne := h.ne
  have hgood : T.good a := by
    obtain ⟨v0, hv0⟩ := Option.isSome_iff_exists.1 ha
    exact h.at.good hv0
  obtain ⟨es, clock, since, seen, c0, hb, hs, hn, h4, h5, hr, hold, hc, hl1, hl2, hsc, hsk⟩ := h
  rcases MapTy.at_find (w := w) h4 h5 hgood with ⟨hL, _, _⟩ | ⟨j, e, v0, hL, h1, h2, h3, hv⟩
  · rw [hL] at ha; cases ha
  · have hj : es[j]? = some e := by simpa using h2
    obtain ⟨m1, m2, m3, m4, m5⟩ := MapTy.at_modify (T := T) hs h4 h5 hgood h2 h3 v
    refine ⟨setBlock w b (.map (es.modify j (fun e' => { e' with key := T.kenc a, val := T.venc v })) clock), ?_, ⟨_, _, since, seen, c0, heap_setBlock_same hb _, m1, by simpa using hn, m2, m3, (heap_setBlock_other hb _ hne).trans hr, ?_, ?_, ?_, ?_, hsc, hsk⟩, only_setBlock hb _, by simp [setBlock]⟩
    · simp [Instr.mapUpdate, run_underlying T.ht, MapKept.run_getObj_map hb, T.check w false hgood, h1, hj, h3, T.stays w hgood, MapKept.run_setObj_map _ hb, Result.andThen, setBlock]
    · intro x hx
      obtain ⟨y, hy, _, hyb⟩ := m4 x hx
      rw [hyb]; exact hold y hy
    · rw [← hc]
      have e1 : ∀ a : Array MapEntry, (leftOf a seen).size = ((a.toList.map (·.born)).filter fun i => !seen.contains i).length := fun a => by
        unfold leftOf
        rw [List.filter_map, List.length_map, ← Array.length_toList, Array.toList_filter]
        rfl
      rw [e1, e1, m5]
    · intro x hx a' hk'
      obtain ⟨y, hy, hyk, hyb⟩ := m4 x hx
      rw [hyb]
      exact hl1 y hy a' (hyk.symm.trans hk')
    · intro a' h'
      by_cases haa : a' = a
      · subst haa; rw [upd_same]; rfl
      · rw [upd_other _ _ haa]; exact hl2 a' h'

end

/-! ### At the operations -/
section
variable (T : MapTy P t κ ν) (w : World) {ops : Array Oper} {rest : List Oper} {o : Oper} {act : Act} {Q : Exit → Act → World → Prop}

theorem wpList_lookup (hg : o.guard = none) (m x : Operand) (c : Bool) (hop : o.op = Op.lookup t m x c) (b n : Nat) (L : κ → Option ν) (hm : act.eval m = .map (some b)) (h : T.at w b L n) (a : κ) (hx : act.eval x = T.kenc a) (ha : T.good a)
    (hK : wpList P ops Q rest (act.put o.dst (if c then .tuple #[T.venc ((L a).getD T.zero), .bool (L a).isSome] else T.venc ((L a).getD T.zero))) w) :
    wpList P ops Q (o :: rest) act w := by
  refine wpList_plain hg fun K' hK' => ?_
  unfold Oper.wp
  simp [execOp, hop, hm, hx, h.lookup ha c, Result.andThen]
  exact hK' _ _ hK

theorem wpList_update [DecidableEq κ] (hg : o.guard = none) (m x y : Operand) (hop : o.op = Op.mapUpdate t m x y) (b n : Nat) (L : κ → Option ν) (hm : act.eval m = .map (some b)) (h : T.at w b L n) (a : κ) (hx : act.eval x = T.kenc a) (ha : T.good a) (v : ν) (hy : act.eval y = T.venc v)
    (hK : ∀ w', T.at w' b (upd L a (some v)) (if (L a).isSome then n else n + 1) → Only (fun i => i = b) w w' → w'.heap.size = w.heap.size → wpList P ops Q rest (act.put o.dst undef) w') :
    wpList P ops Q (o :: rest) act w := by
  refine wpList_plain hg fun K' hK' => ?_
  obtain ⟨w', hrun, r1, r2, r3⟩ := h.update ha v
  unfold Oper.wp
  simp [execOp, hop, hm, hx, hy, hrun, Result.andThen]
  exact hK' _ _ (hK w' r1 r2 r3)

theorem wpList_update_ranging [DecidableEq κ] (hg : o.guard = none) (m x y : Operand) (hop : o.op = Op.mapUpdate t m x y) (b r n : Nat) (L : κ → Option ν) (left : κ → Bool) (cnt : Nat) (hm : act.eval m = .map (some b)) (h : T.ranging w b r L n left cnt) (a : κ) (hx : act.eval x = T.kenc a) (ha : (L a).isSome = true) (v : ν) (hy : act.eval y = T.venc v)
    (hK : ∀ w', T.ranging w' b r (upd L a (some v)) n left cnt → Only (fun i => i = b) w w' → w'.heap.size = w.heap.size → wpList P ops Q rest (act.put o.dst undef) w') :
    wpList P ops Q (o :: rest) act w := by
  refine wpList_plain hg fun K' hK' => ?_
  obtain ⟨w', hrun, r1, r2, r3⟩ := h.update ha v
  unfold Oper.wp
  simp [execOp, hop, hm, hx, hy, hrun, Result.andThen]
  exact hK' _ _ (hK w' r1 r2 r3)

theorem wpList_delete [DecidableEq κ] (hg : o.guard = none) (m x : Operand) (hop : o.op = Op.call { callee := Callee.builtin Builtin.delete, args := #[m, x], argTypes := #[t, T.k] }) (b n : Nat) (L : κ → Option ν) (hm : act.eval m = .map (some b)) (h : T.at w b L n) (a : κ) (hx : act.eval x = T.kenc a) (ha : T.good a)
    (hK : ∀ w', T.at w' b (upd L a none) (if (L a).isSome then n - 1 else n) → Only (fun i => i = b) w w' → w'.heap.size = w.heap.size → wpList P ops Q rest (act.put o.dst (.tuple #[])) w') :
    wpList P ops Q (o :: rest) act w := by
  refine wpList_plain hg fun K' hK' => ?_
  obtain ⟨w', hrun, r1, r2, r3⟩ := h.drop ha o.type
  unfold Oper.wp
  simp [execOp, hop, resolve, invoke, builtin, hm, hx, hrun, Result.andThen]
  exact hK' _ _ (hK w' r1 r2 r3)

theorem wpList_len (hg : o.guard = none) (m : Operand) (hop : o.op = Op.call { callee := Callee.builtin Builtin.len, args := #[m], argTypes := #[t] }) (b n : Nat) (L : κ → Option ν) (hm : act.eval m = .map (some b)) (h : T.at w b L n)
    (hK : wpList P ops Q rest (act.put o.dst (.int .i64 n)) w) :
    wpList P ops Q (o :: rest) act w := by
  refine wpList_plain hg fun K' hK' => ?_
  unfold Oper.wp
  simp [execOp, hop, resolve, invoke, builtin, hm, h.len o.type, Result.andThen]
  exact hK' _ _ hK

theorem wpList_range (hg : o.guard = none) (m : Operand) (hop : o.op = Op.range t m) (b n : Nat) (L : κ → Option ν) (hm : act.eval m = .map (some b)) (h : T.at w b L n)
    (hK : ∀ w', T.ranging w' b w.heap.size L n (fun a => (L a).isSome) n → Only (fun _ => False) w w' → w'.heap.size = w.heap.size + 1 → wpList P ops Q rest (act.put o.dst (.pointer (some ⟨w.heap.size, 0, none⟩))) w') :
    wpList P ops Q (o :: rest) act w := by
  refine wpList_plain hg fun K' hK' => ?_
  obtain ⟨w', hrun, r1, r2, r3⟩ := h.range
  unfold Oper.wp
  simp [execOp, hop, hm, hrun, Result.andThen]
  exact hK' _ _ (hK w' r1 r2 r3)

theorem wpList_next [DecidableEq κ] (hg : o.guard = none) (it : Operand) (hop : o.op = Op.next it false) (b r n : Nat) (L : κ → Option ν) (left : κ → Bool) (cnt : Nat) (hit : act.eval it = .pointer (some ⟨r, 0, none⟩)) (h : T.ranging w b r L n left cnt)
    (hDone : cnt = 0 → (∀ a, left a = false) → wpList P ops Q rest (act.put o.dst (.tuple #[.bool false])) w)
    (hMore : ∀ (a : κ) (v : ν) (w' : World) (cnt' : Nat), T.good a → left a = true → L a = some v → T.ranging w' b r L n (fun x => left x && !decide (x = a)) cnt' → cnt' < cnt → Only (fun i => i = r) w w' → w'.heap.size = w.heap.size →
      (Instr.entry (.pointer (some ⟨r, 0, none⟩))).run P w' = .ok (.tuple #[T.kenc a, T.venc v]) w' → wpList P ops Q rest (act.put o.dst (.tuple #[.bool true, T.kenc a, T.venc v])) w') :
    wpList P ops Q (o :: rest) act w := by
  refine wpList_plain hg fun K' hK' => ?_
  unfold Oper.wp
  rcases h.next o.type with ⟨h0, hl, hrun⟩ | ⟨a, v, w', cnt', h1, h2, h3, hrun, h4, h5, h6, h7, h8⟩
  · simp [execOp, hop, hit, hrun, Result.andThen]
    exact hK' _ _ (hDone h0 hl)
  · simp [execOp, hop, hit, hrun, Result.andThen]
    exact hK' _ _ (hMore a v w' cnt' h1 h2 h3 h4 h5 h6 h7 h8)
end

end Go.PC
