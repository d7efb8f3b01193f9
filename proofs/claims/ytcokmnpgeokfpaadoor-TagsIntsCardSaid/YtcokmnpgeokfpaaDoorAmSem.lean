import Derived.Test.YtcokmnpgeokfpaaDoorAmDef
import Derived.Laws.Tables
import Derived.Laws.Entries
import Derived.Laws.Cells
import Derived.Laws.CopyRow
import Derived.Laws.MakeOwn
import Derived.Below
import Derived.Recover
/- The abstract machine's memory and the model's: the relation, and its laws. -/
set_option linter.unusedVariables false
set_option linter.unusedSimpArgs false
namespace Go
namespace Am

/-- where an abstract block lies: the block, the place of its first cell, the block's size, the cells of an element -/
structure Loc where
  blk : Nat
  off : Nat
  size : Nat
  esz : Nat
  val : Option Value
  pin : Option Obj

abbrev Rho := Nat → Option Loc

def Rho.le (ρ ρ' : Rho) : Prop := ∀ i L, ρ i = some L → ρ' i = some L
theorem Rho.le_refl (ρ : Rho) : ρ.le ρ := fun _ _ h => h
theorem Rho.le_trans {a b c : Rho} (h : a.le b) (k : b.le c) : a.le c := fun i L e => k i L (h i L e)

inductive VRel (ρ : Rho) : Value → Value → Prop
  | bool (b : Bool) : VRel ρ (.bool b) (.bool b)
  | int (k : IntKind) (n : Int) : VRel ρ (.int k n) (.int k n)
  | sym {id : Nat} {L : Loc} {v : Value} (h : ρ id = some L) (hv : L.val = some v) (hn : notCell v = false) : VRel ρ (.float .f64 id) v
  | complex (k : FloatKind) (a b : Nat) : VRel ρ (.complex k a b) (.complex k a b)
  | string (s : ByteArray) : VRel ρ (.string s) (.string s)
  | nilFunc : VRel ρ .nilFunc .nilFunc
  | nilIface : VRel ρ .nilIface .nilIface
  | ptr0 : VRel ρ (.pointer none) (.pointer none)
  | map0 : VRel ρ (.map none) (.map none)
  | chan0 : VRel ρ (.chan none) (.chan none)
  | slice0 : VRel ρ (.slice none 0 0) (.slice none 0 0)
  | ptr {id o : Nat} {L : Loc} (h : ρ id = some L) : VRel ρ (.pointer (some ⟨id, o, none⟩)) (.pointer (some ⟨L.blk, L.off + o, none⟩))
  | sliceX {id o n c : Nat} {L : Loc} (h : ρ id = some L) (hc : c ≤ 2 ^ 64) (hn : n ≤ c) :
      VRel ρ (.slice (some ⟨id, o, none⟩) n c) (.slice (some ⟨L.blk, L.off + o, none⟩) n c)
  | sliceO {id o n c : Nat} {L : Loc} (h : ρ id = some L) (hn : n ≤ c) (hc : L.off + o + c * L.esz = L.size) :
      VRel ρ (.slice (some ⟨id, o, none⟩) n OPEN) (.slice (some ⟨L.blk, L.off + o, none⟩) n c)
  | sliceE {id : Nat} {L : Loc} {o c : Nat} (h : ρ id = some L) (hc : c = 0 ∨ o + c * L.esz = L.size) :
      VRel ρ (.slice (some ⟨id, 0, none⟩) 0 EMPTY) (.slice (some ⟨L.blk, o, none⟩) 0 c)
  | map {id : Nat} {L : Loc} (h : ρ id = some L) : VRel ρ (.map (some id)) (.map (some L.blk))
  | func {fn : Fn} {a b c d : Array Value} (h1 : a.size = b.size) (h2 : ∀ (i : Nat) (v v' : Value), a[i]? = some v → b[i]? = some v' → VRel ρ v v')
      (h3 : c.size = d.size) (h4 : ∀ (i : Nat) (v v' : Value), c[i]? = some v → d[i]? = some v' → VRel ρ v v') : VRel ρ (.func fn a c) (.func fn b d)
  | iface {t : TypeId} {v v' : Value} (h : VRel ρ v v') : VRel ρ (.iface t v) (.iface t v')
  | agg {a b : Array Value} (h1 : a.size = b.size) (h2 : ∀ (i : Nat) (v v' : Value), a[i]? = some v → b[i]? = some v' → VRel ρ v v') : VRel ρ (.agg a) (.agg b)
  | tuple {a b : Array Value} (h1 : a.size = b.size) (h2 : ∀ (i : Nat) (v v' : Value), a[i]? = some v → b[i]? = some v' → VRel ρ v v') : VRel ρ (.tuple a) (.tuple b)

def ARel (ρ : Rho) (a b : Array Value) : Prop := a.size = b.size ∧ ∀ (i : Nat) (v v' : Value), a[i]? = some v → b[i]? = some v' → VRel ρ v v'
def LRel (ρ : Rho) (a b : List Value) : Prop := a.length = b.length ∧ ∀ (i : Nat) (v v' : Value), a[i]? = some v → b[i]? = some v' → VRel ρ v v'

theorem VRel.mono {ρ ρ' : Rho} (hle : ρ.le ρ') {v v' : Value} (h : VRel ρ v v') : VRel ρ' v v' := by
  induction h with
  | bool => exact .bool _
  | int => exact .int _ _
  | sym h hv hn => exact .sym (hle _ _ h) hv hn
  | complex => exact .complex _ _ _
  | string => exact .string _
  | nilFunc => exact .nilFunc
  | nilIface => exact .nilIface
  | ptr0 => exact .ptr0
  | map0 => exact .map0
  | chan0 => exact .chan0
  | slice0 => exact .slice0
  | ptr h => exact .ptr (hle _ _ h)
  | sliceX h hc hn => exact .sliceX (hle _ _ h) hc hn
  | sliceO h hn hc => exact .sliceO (hle _ _ h) hn hc
  | sliceE h hc => exact .sliceE (hle _ _ h) hc
  | map h => exact .map (hle _ _ h)
  | func h1 _ h3 _ ih1 ih2 => exact .func h1 ih1 h3 ih2
  | iface _ ih => exact .iface ih
  | agg h1 _ ih => exact .agg h1 ih
  | tuple h1 _ ih => exact .tuple h1 ih

theorem ARel.mono {ρ ρ' : Rho} (hle : ρ.le ρ') {a b : Array Value} (h : ARel ρ a b) : ARel ρ' a b := ⟨h.1, fun i v v' x y => (h.2 i v v' x y).mono hle⟩
theorem LRel.mono {ρ ρ' : Rho} (hle : ρ.le ρ') {a b : List Value} (h : LRel ρ a b) : LRel ρ' a b := ⟨h.1, fun i v v' x y => (h.2 i v v' x y).mono hle⟩

theorem plainN_rel (ρ : Rho) : ∀ (n : Nat) (v : Value), plainN n v = true → VRel ρ v v := by
  intro n
  induction n with
  | zero =>
    intro v h
    cases v with
    | bool => exact .bool _
    | int => exact .int _ _
    | float => simp [plainN] at h
    | complex => exact .complex _ _ _
    | string => exact .string _
    | nilFunc => exact .nilFunc
    | nilIface => exact .nilIface
    | pointer a => cases a <;> simp [plainN] at h; exact .ptr0
    | map a => cases a <;> simp [plainN] at h; exact .map0
    | chan a => cases a <;> simp [plainN] at h; exact .chan0
    | slice a l c =>
      unfold plainN at h
      split at h <;> simp_all
      exact .slice0
    | func => simp [plainN] at h
    | iface => simp [plainN] at h
    | agg => simp [plainN] at h
    | tuple => simp [plainN] at h
  | succ n ih =>
    have arr : ∀ cs : Array Value, cs.toList.all (plainN n) = true → ∀ (i : Nat) (v v' : Value), cs[i]? = some v → cs[i]? = some v' → VRel ρ v v' := by
      intro cs hc i v v' h1 h2
      have : v = v' := by rw [h1] at h2; exact Option.some.inj h2
      subst this
      refine ih v ?_
      have hm : v ∈ cs.toList := by
        rw [Array.mem_toList_iff]; exact Array.mem_of_getElem? h1
      exact List.all_eq_true.1 hc v hm
    intro v h
    cases v with
    | bool => exact .bool _
    | int => exact .int _ _
    | float => simp [plainN] at h
    | complex => exact .complex _ _ _
    | string => exact .string _
    | nilFunc => exact .nilFunc
    | nilIface => exact .nilIface
    | pointer a => cases a <;> simp [plainN] at h; exact .ptr0
    | map a => cases a <;> simp [plainN] at h; exact .map0
    | chan a => cases a <;> simp [plainN] at h; exact .chan0
    | slice a l c =>
      unfold plainN at h
      split at h <;> simp_all
      exact .slice0
    | func fn a c =>
      simp only [plainN, Bool.and_eq_true] at h
      exact .func rfl (arr a h.1) rfl (arr c h.2)
    | iface t v => simp only [plainN] at h; exact .iface (ih v h)
    | agg a => simp only [plainN] at h; exact .agg rfl (arr a h)
    | tuple a => simp only [plainN] at h; exact .tuple rfl (arr a h)

theorem plain_rel {v : Value} (ρ : Rho) (h : plain v = true) : VRel ρ v v := plainN_rel ρ _ v h

theorem arr_eq {a b : Array Value} (h1 : a.size = b.size) (h2 : ∀ (i : Nat) (v v' : Value), a[i]? = some v → b[i]? = some v' → v = v') : a = b := by
  apply Array.ext h1
  intro i hi hj
  exact h2 i _ _ (Array.getElem?_eq_getElem hi) (Array.getElem?_eq_getElem hj)

theorem plainN_eq {ρ : Rho} {v v' : Value} (h : VRel ρ v v') : ∀ n, plainN n v = true → v = v' := by
  induction h with
  | bool => exact fun _ _ => rfl
  | int => exact fun _ _ => rfl
  | sym h hv hn => intro n hp; cases n <;> simp [plainN] at hp
  | complex => exact fun _ _ => rfl
  | string => exact fun _ _ => rfl
  | nilFunc => exact fun _ _ => rfl
  | nilIface => exact fun _ _ => rfl
  | ptr0 => exact fun _ _ => rfl
  | map0 => exact fun _ _ => rfl
  | chan0 => exact fun _ _ => rfl
  | slice0 => exact fun _ _ => rfl
  | ptr h => intro n hp; cases n <;> simp [plainN] at hp
  | sliceX h hc hn => intro n hp; cases n <;> simp [plainN] at hp
  | sliceO h hn hc => intro n hp; cases n <;> simp [plainN] at hp
  | sliceE h hc => intro n hp; cases n <;> simp [plainN] at hp
  | map h => intro n hp; cases n <;> simp [plainN] at hp
  | func h1 _ h3 _ ih1 ih2 =>
    intro n hp
    cases n with
    | zero => simp [plainN] at hp
    | succ n =>
      simp only [plainN, Bool.and_eq_true, List.all_eq_true] at hp
      rw [arr_eq h1 fun i v v' x y => ih1 i v v' x y n (hp.1 v (by rw [Array.mem_toList_iff]; exact Array.mem_of_getElem? x)),
        arr_eq h3 fun i v v' x y => ih2 i v v' x y n (hp.2 v (by rw [Array.mem_toList_iff]; exact Array.mem_of_getElem? x))]
  | iface _ ih =>
    intro n hp
    cases n with
    | zero => simp [plainN] at hp
    | succ n => simp only [plainN] at hp; rw [ih n hp]
  | agg h1 _ ih =>
    intro n hp
    cases n with
    | zero => simp [plainN] at hp
    | succ n =>
      simp only [plainN, List.all_eq_true] at hp
      rw [arr_eq h1 fun i v v' x y => ih i v v' x y n (hp v (by rw [Array.mem_toList_iff]; exact Array.mem_of_getElem? x))]
  | tuple h1 _ ih =>
    intro n hp
    cases n with
    | zero => simp [plainN] at hp
    | succ n =>
      simp only [plainN, List.all_eq_true] at hp
      rw [arr_eq h1 fun i v v' x y => ih i v v' x y n (hp v (by rw [Array.mem_toList_iff]; exact Array.mem_of_getElem? x))]

theorem plain_eq {ρ : Rho} {v v' : Value} (h : VRel ρ v v') (hp : plain v = true) : v = v' := plainN_eq h _ hp

theorem sameN_eq : ∀ (n : Nat) (a b : Value), sameN n a b = true → a = b := by
  intro n
  induction n with
  | zero =>
    intro a b h
    unfold sameN at h
    split at h <;> simp_all
    rename_i x y
    cases x with | mk x => cases y with | mk y => simp_all
  | succ n ih =>
    have arr : ∀ a b : List Value, sameN.all2 n a b = true → a = b := by
      intro a
      induction a with
      | nil => intro b h; cases b <;> simp_all [sameN.all2]
      | cons x xs ihl =>
        intro b h
        cases b with
        | nil => simp [sameN.all2] at h
        | cons y ys =>
          simp only [sameN.all2, Bool.and_eq_true] at h
          rw [ih x y h.1, ihl ys h.2]
    intro a b h
    unfold sameN at h
    split at h <;> simp_all
    · rename_i x y
      cases x with | mk x => cases y with | mk y => simp_all
    · exact ⟨Array.ext' (arr _ _ h.1.2), Array.ext' (arr _ _ h.2)⟩
    · exact ih _ _ h.2
    · exact Array.ext' (arr _ _ h)
    · exact Array.ext' (arr _ _ h)

/- the table -/
theorem Tr.get_set_same {α : Type} (v : Option α) : ∀ (d : Nat) (t : Tr α) (n : Nat), (Tr.set d t n v).get d n = v := by
  intro d
  induction d with
  | zero => intro t n; cases v <;> simp [Tr.set, Tr.get]
  | succ d ih =>
    intro t n
    unfold Tr.set
    split <;> simp_all [Tr.get]

theorem Tr.get_leaf {α : Type} : ∀ (d n : Nat), (Tr.leaf : Tr α).get d n = none := by
  intro d n; cases d <;> simp [Tr.get]

theorem Tr.get_left {α : Type} (d : Nat) (t : Tr α) (n : Nat) (h : n % 2 = 0) : t.left.get d (n / 2) = t.get (d + 1) n := by
  cases t <;> simp [Tr.left, Tr.get, Tr.get_leaf, h]
theorem Tr.get_right {α : Type} (d : Nat) (t : Tr α) (n : Nat) (h : ¬ n % 2 = 0) : t.right.get d (n / 2) = t.get (d + 1) n := by
  have h1 : n % 2 = 1 := by omega
  cases t <;> simp [Tr.right, Tr.get, Tr.get_leaf, h1]

theorem Tr.get_set_other {α : Type} (v : Option α) : ∀ (d : Nat) (t : Tr α) (n m : Nat), n < 2 ^ d → m < 2 ^ d → n ≠ m → (Tr.set d t n v).get d m = t.get d m := by
  intro d
  induction d with
  | zero => intro t n m hn hm h; simp at hn hm; omega
  | succ d ih =>
    intro t n m hn hm h
    have hn2 : n / 2 < 2 ^ d := by rw [Nat.pow_succ] at hn; omega
    have hm2 : m / 2 < 2 ^ d := by rw [Nat.pow_succ] at hm; omega
    by_cases h0 : n % 2 = 0 <;> by_cases h1 : m % 2 = 0
    · have hne : n / 2 ≠ m / 2 := by omega
      rw [← Tr.get_left d t m h1, ← ih _ _ _ hn2 hm2 hne, ← Tr.get_left d (Tr.set (d + 1) t n v) m h1]
      simp [Tr.set, h0, Tr.left]
    · have h11 : m % 2 = 1 := by omega
      rw [← Tr.get_right d t m h1, ← Tr.get_right d (Tr.set (d + 1) t n v) m h1]
      simp [Tr.set, h0, Tr.right]
    · have h01 : n % 2 = 1 := by omega
      rw [← Tr.get_left d t m h1, ← Tr.get_left d (Tr.set (d + 1) t n v) m h1]
      simp [Tr.set, h01, Tr.left]
    · have h01 : n % 2 = 1 := by omega
      have hne : n / 2 ≠ m / 2 := by omega
      rw [← Tr.get_right d t m h1, ← ih _ _ _ hn2 hm2 hne, ← Tr.get_right d (Tr.set (d + 1) t n v) m h1]
      simp [Tr.set, h01, Tr.right]

/- objects -/
def MRel (ρ : Rho) (a b : List MapEntry) : Prop :=
  a.length = b.length ∧ ∀ (i : Nat) (e e' : MapEntry), a[i]? = some e → b[i]? = some e' → e.born = e'.born ∧ VRel ρ e.key e'.key ∧ VRel ρ e.val e'.val

def ORel (ρ : Rho) (L : Loc) : AObj → Option Obj → Prop
  | .cells cs te k, some (.cells c tc fr) =>
    tc = te ∧ c.size = L.size ∧ L.esz = k ∧ L.off + cs.length ≤ c.size ∧ (fr.1 = fr.2 ∨ c.size ≤ fr.1) ∧
      ∀ i v, cs[i]? = some v → ∃ v', c[L.off + i]? = some v' ∧ VRel ρ v v'
  | .map es ck, some (.map es' ck') => ck = ck' ∧ MRel ρ es es'.toList
  | .miter m s seen last, some (.mapIter m' s' seen' last') =>
    L.off = 0 ∧ s = s' ∧ seen = seen' ∧ last = last' ∧ ((m = none ∧ m' = none) ∨ ∃ id M, m = some id ∧ ρ id = some M ∧ m' = some M.blk)
  | .siter s p, some (.stringIter s' p') => L.off = 0 ∧ s = s' ∧ p = p'
  | _, _ => False

theorem MRel.mono {ρ ρ' : Rho} (hle : ρ.le ρ') {a b : List MapEntry} (h : MRel ρ a b) : MRel ρ' a b :=
  ⟨h.1, fun i e e' x y => let ⟨p, q, r⟩ := h.2 i e e' x y; ⟨p, q.mono hle, r.mono hle⟩⟩

theorem ORel.mono {ρ ρ' : Rho} (hle : ρ.le ρ') {L : Loc} {o : AObj} {p : Option Obj} (h : ORel ρ L o p) : ORel ρ' L o p := by
  unfold ORel at *
  split at h
  · obtain ⟨z, b, c, d, e, f⟩ := h
    exact ⟨z, b, c, d, e, fun i v hv => let ⟨v', x, y⟩ := f i v hv; ⟨v', x, y.mono hle⟩⟩
  · exact ⟨h.1, h.2.mono hle⟩
  · obtain ⟨z, a, b, c, d⟩ := h
    refine ⟨z, a, b, c, ?_⟩
    rcases d with d | ⟨id, M, x, y, z⟩
    · exact .inl d
    · exact .inr ⟨id, M, x, hle _ _ y, z⟩
  · exact h
  · exact h.elim

/-- which blocks may be turned; what is named from the first -/
structure Own where
  own : Nat → Prop
  base : Rho
  spec : Nat → Loc → Prop
  exact : TypeId → Prop

/-- no slice has elements of such a type: no block of it is greater than one of them -/
class NoEx (P : Program) (S : Own) : Prop where
  no : ∀ t e, t < TB → P.underlying t = some (.slice e) → ¬ S.exact e

instance : CoeFun Own (fun _ => Nat → Prop) := ⟨Own.own⟩

/-- the model's world w stands for σ; it is as w0 was outside S -/
structure R (w0 : World) (S : Own) (σ : AW) (ρ : Rho) (w : World) : Prop where
  base : S.base.le ρ
  spec : ∀ i L v, ρ i = some L → L.val = some v → S.spec i L
  pins : ∀ i L o, ρ i = some L → L.pin = some o → w.heap[L.blk]? = some o
  pinInj : ∀ i j L M o q, ρ i = some L → ρ j = some M → L.pin = some o → M.pin = some q → L.blk = M.blk → i = j
  pinApart : ∀ i L o j oj M, ρ i = some L → L.pin = some o → j < σ.next → σ.get j = some oj → ρ j = some M → M.blk ≠ L.blk
  os : w.os = w0.os
  tape : w.tape = w0.tape
  output : w.output = w0.output
  size : w0.heap.size ≤ w.heap.size
  block : ∀ b, ¬ S b → w.heap[b]? = w0.heap[b]?
  own : ∀ b, w0.heap.size ≤ b → S b
  dom : ∀ i, σ.next ≤ i → ρ i = none
  lim : σ.next ≤ 2 ^ D
  obj : ∀ i o, i < σ.next → σ.get i = some o → ∃ L, ρ i = some L ∧ S L.blk ∧ ORel ρ L o w.heap[L.blk]?
  exact : ∀ i cs e k L, i < σ.next → σ.get i = some (.cells cs e k) → ρ i = some L → S.exact e → L.off = 0 ∧ L.size = cs.length
  apart : ∀ i j oi oj Li Lj, i < σ.next → j < σ.next → σ.get i = some oi → σ.get j = some oj → ρ i = some Li → ρ j = some Lj → Li.blk = Lj.blk → i = j

section
variable {w0 : World} {S : Own} {σ : AW} {ρ : Rho} {w : World}

theorem R.lt (h : R w0 S σ ρ w) {i : Nat} {L : Loc} (hi : ρ i = some L) : i < σ.next := by
  rcases Nat.lt_or_ge i σ.next with g | g
  · exact g
  · rw [h.dom i g] at hi; exact absurd hi (by simp)

theorem R.at (h : R w0 S σ ρ w) {i : Nat} {o : AObj} {L : Loc} (hi : ρ i = some L) (ho : σ.get i = some o) : S L.blk ∧ ORel ρ L o w.heap[L.blk]? := by
  obtain ⟨L', e, s, r⟩ := h.obj i o (h.lt hi) ho
  rw [hi] at e
  cases e
  exact ⟨s, r⟩

theorem ORel.some {L : Loc} {o : AObj} {p : Option Obj} (h : ORel ρ L o p) : p.isSome = true := by
  cases p with
  | none => cases o <;> exact h.elim
  | some => rfl

theorem R.blk_lt (h : R w0 S σ ρ w) {i : Nat} {o : AObj} {L : Loc} (hi : ρ i = some L) (ho : σ.get i = some o) : L.blk < w.heap.size := by
  have hs := (h.at hi ho).2.some
  rcases Nat.lt_or_ge L.blk w.heap.size with g | g
  · exact g
  · rw [Array.getElem?_eq_none g] at hs; exact absurd hs (by simp)

/-- another world with the same blocks -/
theorem R.same (h : R w0 S σ ρ w) {w' : World} (h1 : w'.heap = w.heap) (h2 : w'.os = w.os) (h3 : w'.tape = w.tape) (h4 : w'.output = w.output) : R w0 S σ ρ w' :=
  { base := h.base, spec := h.spec, pins := by rw [h1]; exact h.pins, pinInj := h.pinInj, pinApart := h.pinApart, os := h2.trans h.os, tape := h3.trans h.tape, output := h4.trans h.output, size := by rw [h1]; exact h.size, block := by rw [h1]; exact h.block,
    own := h.own, dom := h.dom, lim := h.lim, obj := by rw [h1]; exact h.obj, exact := h.exact, apart := h.apart }

theorem R.drew (h : R w0 S σ ρ w) : R w0 S σ ρ w.drew := h.same rfl rfl rfl rfl

theorem get_put {σ : AW} {i j : Nat} {o : AObj} (hi : i < 2 ^ D) (hj : j < 2 ^ D) : (σ.put i o).get j = if i = j then some o else σ.get j := by
  unfold AW.put AW.get
  split
  · rename_i e; subst e; exact Tr.get_set_same _ _ _ _
  · rename_i e; exact Tr.get_set_other _ _ _ _ _ hi hj e

theorem get_drop {σ : AW} {i j : Nat} (hi : i < 2 ^ D) (hj : j < 2 ^ D) : (σ.drop i).get j = if i = j then none else σ.get j := by
  unfold AW.drop AW.get
  split
  · rename_i e; subst e; exact Tr.get_set_same _ _ _ _
  · rename_i e; exact Tr.get_set_other _ _ _ _ _ hi hj e

theorem R.drop (h : R w0 S σ ρ w) (i : Nat) (hi : i < σ.next) : R w0 S (σ.drop i) ρ w := by
  have lim := h.lim
  have hg : ∀ j o, j < σ.next → (σ.drop i).get j = some o → σ.get j = some o := by
    intro j o hj e
    rw [get_drop (by omega) (by omega)] at e
    split at e
    · exact absurd e (by simp)
    · exact e
  exact { base := h.base, spec := h.spec, pins := h.pins, pinInj := h.pinInj, pinApart := fun a La o b ob Lb ea eo hb eb lb => h.pinApart a La o b ob Lb ea eo hb (hg b ob hb eb) lb, os := h.os, tape := h.tape, output := h.output, size := h.size, block := h.block, own := h.own, dom := h.dom, lim := h.lim,
          obj := fun j o hj e => h.obj j o hj (hg j o hj e),
          exact := fun j cs e k L hj ej hL he => h.exact j cs e k L hj (hg j _ hj ej) hL he
          apart := fun a b oa ob La Lb ha hb ea eb => h.apart a b oa ob La Lb ha hb (hg a oa ha ea) (hg b ob hb eb) }

/-- a block is turned -/
theorem R.set (h : R w0 S σ ρ w) {i : Nat} {o o' : AObj} {L : Loc} (hi : ρ i = some L) (ho : σ.get i = some o) {w' : World}
    (h2 : w'.os = w.os) (h3 : w'.tape = w.tape) (h4 : w'.output = w.output) (hs : w'.heap.size = w.heap.size)
    (hother : ∀ b, b ≠ L.blk → w'.heap[b]? = w.heap[b]?) (hex : ∀ cs e k, o' = .cells cs e k → S.exact e → L.off = 0 ∧ L.size = cs.length) (hnew : ORel ρ L o' w'.heap[L.blk]?) : R w0 S (σ.put i o') ρ w' := by
  have lim := h.lim
  have hlt := h.lt hi
  have hS := (h.at hi ho).1
  have hg : ∀ j p, j < σ.next → (σ.put i o').get j = some p → (i = j ∧ p = o') ∨ (i ≠ j ∧ σ.get j = some p) := by
    intro j p hj e
    rw [get_put (by omega) (by omega)] at e
    split at e
    · rename_i x; cases e; exact .inl ⟨x, rfl⟩
    · rename_i x; exact .inr ⟨x, e⟩
  have hg2 : ∀ j p, j < σ.next → (σ.put i o').get j = some p → ∃ q, σ.get j = some q := by
    intro j p hj e
    rcases hg j p hj e with ⟨x, _⟩ | ⟨_, x⟩
    · exact ⟨o, x ▸ ho⟩
    · exact ⟨p, x⟩
  exact
    { base := h.base, spec := h.spec, pins := fun j M p e1 e2 => by rw [hother M.blk (fun e => h.pinApart j M p i o L e1 e2 hlt ho hi e.symm)]; exact h.pins j M p e1 e2
      pinInj := h.pinInj
      pinApart := fun a La p b ob Lb ea eo hb eb lb => by
        obtain ⟨q, eq⟩ := hg2 b ob hb eb
        exact h.pinApart a La p b q Lb ea eo hb eq lb
      os := h2.trans h.os, tape := h3.trans h.tape, output := h4.trans h.output, size := by rw [hs]; exact h.size, own := h.own, dom := h.dom, lim := h.lim,
      block := fun b hb => by rw [hother b (fun e => hb (e ▸ hS))]; exact h.block b hb
      obj := by
        intro j p hj e
        rcases hg j p hj e with ⟨x, y⟩ | ⟨x, y⟩
        · subst x; subst y; exact ⟨L, hi, hS, hnew⟩
        · obtain ⟨M, e1, e2, e3⟩ := h.obj j p hj y
          refine ⟨M, e1, e2, ?_⟩
          rw [hother M.blk (fun e => x (h.apart i j o p L M hlt hj ho y hi e1 e.symm))]
          exact e3
      exact := by
        intro j cs e k M hj ej hM he
        rcases hg j _ hj ej with ⟨x, y⟩ | ⟨_, y⟩
        · subst x
          rw [hi] at hM
          cases hM
          exact hex cs e k y.symm he
        · exact h.exact j cs e k M hj y hM he
      apart := by
        intro a b oa ob La Lb ha hb ea eb
        obtain ⟨qa, ea⟩ := hg2 a oa ha ea
        obtain ⟨qb, eb⟩ := hg2 b ob hb eb
        exact h.apart a b qa qb La Lb ha hb ea eb }

def Rho.put (ρ : Rho) (i : Nat) (L : Loc) : Rho := fun j => if j = i then some L else ρ j

theorem Rho.le_put {ρ : Rho} {i : Nat} {L : Loc} (h : ρ i = none) : ρ.le (ρ.put i L) := by
  intro j M e
  unfold Rho.put
  split
  · rename_i x; subst x; rw [h] at e; exact absurd e (by simp)
  · exact e

theorem Rho.put_same (ρ : Rho) (i : Nat) (L : Loc) : ρ.put i L i = some L := by simp [Rho.put]

theorem AW.new_eq {o : AObj} {i : Nat} {σ' : AW} (h : σ.new o = some (i, σ')) : i = σ.next ∧ σ.next < 2 ^ D ∧ σ' = { objs := σ.objs.set D σ.next (some o), next := σ.next + 1 } := by
  unfold AW.new at h
  split at h
  · rename_i hb
    cases h
    exact ⟨rfl, by simpa using hb, rfl⟩
  · exact absurd h (by simp)

/-- a block of σ's own is given a second name, behind which the first one is not used again: the general step behind a new block or a consumed one -/
theorem R.bind (h : R w0 S σ ρ w) {o : AObj} {i : Nat} {σ' : AW} (hn : σ.new o = some (i, σ')) {L : Loc} (hLv : L.val = none) (hLp : L.pin = none) (hpin : ∀ j M p, ρ j = some M → M.pin = some p → M.blk ≠ L.blk) (hS : S L.blk)
    (hfree : ∀ j p M, j < σ.next → σ.get j = some p → ρ j = some M → M.blk ≠ L.blk) {w' : World}
    (h2 : w'.os = w.os) (h3 : w'.tape = w.tape) (h4 : w'.output = w.output) (hs : w.heap.size ≤ w'.heap.size)
    (hother : ∀ b, b ≠ L.blk → b < w.heap.size → w'.heap[b]? = w.heap[b]?)
    (hmore : ∀ b, b ≠ L.blk → w.heap.size ≤ b → w'.heap[b]? = none)
    (hex : ∀ cs e k, o = .cells cs e k → S.exact e → L.off = 0 ∧ L.size = cs.length)
    (hnew : ORel (ρ.put i L) L o w'.heap[L.blk]?) : ρ.le (ρ.put i L) ∧ R w0 S σ' (ρ.put i L) w' := by
  obtain ⟨rfl, hlt, rfl⟩ := AW.new_eq hn
  have hle : ρ.le (ρ.put σ.next L) := Rho.le_put (h.dom _ (Nat.le_refl _))
  have oth : ∀ b, b ≠ L.blk → w'.heap[b]? = w.heap[b]? := by
    intro b hb
    rcases Nat.lt_or_ge b w.heap.size with g | g
    · exact hother b hb g
    · rw [hmore b hb g, Array.getElem?_eq_none g]
  have hg : ∀ j p, j < σ.next + 1 → ({ objs := σ.objs.set D σ.next (some o), next := σ.next + 1 } : AW).get j = some p →
      (j = σ.next ∧ p = o) ∨ (j < σ.next ∧ σ.get j = some p) := by
    intro j p hj e
    by_cases x : j = σ.next
    · subst x
      refine .inl ⟨rfl, ?_⟩
      simp only [AW.get, Tr.get_set_same] at e
      exact (Option.some.inj e).symm
    · have : j < σ.next := by omega
      refine .inr ⟨this, ?_⟩
      simp only [AW.get] at e ⊢
      rw [Tr.get_set_other _ _ _ _ _ hlt (by omega) (Ne.symm x)] at e
      exact e
  refine ⟨hle, ?_⟩
  exact
    { base := Rho.le_trans h.base hle
      spec := by
        intro j M v e1 e2
        unfold Rho.put at e1
        split at e1
        · cases e1; rw [hLv] at e2; exact absurd e2 (by simp)
        · exact h.spec j M v e1 e2
      pins := by
        intro j M p e1 e2
        unfold Rho.put at e1
        split at e1
        · cases e1; rw [hLp] at e2; exact absurd e2 (by simp)
        · rw [oth M.blk (hpin j M p e1 e2)]; exact h.pins j M p e1 e2
      pinInj := by
        intro i j A B p q ei ej ep eq eb
        unfold Rho.put at ei ej
        split at ei
        · cases ei; rw [hLp] at ep; exact absurd ep (by simp)
        · split at ej
          · cases ej; rw [hLp] at eq; exact absurd eq (by simp)
          · exact h.pinInj i j A B p q ei ej ep eq eb
      pinApart := by
        intro a La p b ob Lb ea eo hb eb lb
        have ea' : ρ a = some La := by
          unfold Rho.put at ea
          split at ea
          · cases ea; rw [hLp] at eo; exact absurd eo (by simp)
          · exact ea
        rcases hg b ob hb eb with ⟨rfl, _⟩ | ⟨x, y⟩
        · rw [Rho.put_same] at lb
          cases lb
          exact (hpin a La p ea' eo).symm
        · obtain ⟨M, e1, _⟩ := h.obj b ob x y
          have e1' := hle _ _ e1
          rw [lb] at e1'
          cases e1'
          exact h.pinApart a La p b ob _ ea' eo x y e1
      os := h2.trans h.os, tape := h3.trans h.tape, output := h4.trans h.output, size := Nat.le_trans h.size hs, own := h.own
      lim := hlt
      dom := by
        intro j hj
        have hj' : σ.next + 1 ≤ j := hj
        have : j ≠ σ.next := by omega
        simp only [Rho.put, this, if_false]
        exact h.dom j (by omega)
      block := fun b hb => by rw [oth b (fun e => hb (e ▸ hS))]; exact h.block b hb
      obj := by
        intro j p hj e
        rcases hg j p hj e with ⟨rfl, rfl⟩ | ⟨x, y⟩
        · exact ⟨L, Rho.put_same _ _ _, hS, hnew⟩
        · obtain ⟨M, e1, e2, e3⟩ := h.obj j p x y
          refine ⟨M, hle _ _ e1, e2, ?_⟩
          rw [oth M.blk (hfree j p M x y e1)]
          exact e3.mono hle
      exact := by
        intro j cs e k M hj ej hM he
        rcases hg j _ hj ej with ⟨rfl, y⟩ | ⟨x, y⟩
        · rw [Rho.put_same] at hM
          cases hM
          exact hex cs e k y.symm he
        · obtain ⟨M', e1, _⟩ := h.obj j _ x y
          have := hle _ _ e1
          rw [hM] at this
          cases this
          exact h.exact j cs e k _ x y e1 he
      apart := by
        intro a b oa ob La Lb ha hb ea eb la lb hbb
        rcases hg a oa ha ea with ⟨xa, _⟩ | ⟨xa, ya⟩ <;> rcases hg b ob hb eb with ⟨xb, _⟩ | ⟨xb, yb⟩
        · omega
        · exfalso
          obtain ⟨M, e1, _⟩ := h.obj b ob xb yb
          have e1' := hle _ _ e1
          rw [lb] at e1'
          cases e1'
          rw [xa, Rho.put_same] at la
          cases la
          exact hfree b ob _ xb yb e1 hbb.symm
        · exfalso
          obtain ⟨M, e1, _⟩ := h.obj a oa xa ya
          have e1' := hle _ _ e1
          rw [la] at e1'
          cases e1'
          rw [xb, Rho.put_same] at lb
          cases lb
          exact hfree a oa _ xa ya e1 hbb
        · obtain ⟨Ma, ea1, _⟩ := h.obj a oa xa ya
          obtain ⟨Mb, eb1, _⟩ := h.obj b ob xb yb
          have e1 := hle _ _ ea1
          have e2 := hle _ _ eb1
          rw [la] at e1
          rw [lb] at e2
          cases e1; cases e2
          exact h.apart a b oa ob _ _ xa xb ya yb ea1 eb1 hbb }

/-- a new block -/
theorem R.alloc (h : R w0 S σ ρ w) {o : AObj} {i : Nat} {σ' : AW} (hn : σ.new o = some (i, σ')) {L : Loc} (hLv : L.val = none) (hLp : L.pin = none) (hL : L.blk = w.heap.size) {p : Obj}
    (hex : ∀ cs e k, o = .cells cs e k → S.exact e → L.off = 0 ∧ L.size = cs.length)
    (hnew : ORel (ρ.put i L) L o (some p)) : ρ.le (ρ.put i L) ∧ R w0 S σ' (ρ.put i L) (w.alloc p) := by
  refine h.bind hn hLv hLp (fun j M q e1 e2 e => by
      have := h.pins j M q e1 e2
      rw [e, hL, Array.getElem?_eq_none (Nat.le_refl _)] at this
      exact absurd this (by simp)) (h.own _ (hL ▸ h.size)) ?_ rfl rfl rfl (by show w.heap.size ≤ (w.heap.push p).size; rw [Array.size_push]; omega) ?_ ?_ hex ?_
  · intro j q M hj e1 e2 e
    have := h.blk_lt e2 e1
    omega
  · intro b _ hb
    exact heap_alloc_old w p b hb
  · intro b hb hge
    apply Array.getElem?_eq_none
    show (w.heap.push p).size ≤ b
    rw [Array.size_push]
    omega
  · rw [hL, heap_alloc_new]; exact hnew

/-- a value that is named alone -/
def AW.name (σ : AW) : AW := { objs := σ.objs.set D σ.next none, next := σ.next + 1 }

theorem R.name (h : R w0 S σ ρ w) {L : Loc} (hv : ∀ v, L.val = some v → S.spec σ.next L) (hlt : σ.next < 2 ^ D) {w' : World} (h2 : w'.os = w.os) (h3 : w'.tape = w.tape) (h4 : w'.output = w.output) (hs : w.heap.size ≤ w'.heap.size)
    (hsame : ∀ b, b < w.heap.size → w'.heap[b]? = w.heap[b]?) (hp : ∀ o, L.pin = some o → w'.heap[L.blk]? = some o ∧ w.heap.size ≤ L.blk) : ρ.le (ρ.put σ.next L) ∧ R w0 S σ.name (ρ.put σ.next L) w' := by
  have hle : ρ.le (ρ.put σ.next L) := Rho.le_put (h.dom _ (Nat.le_refl _))
  have hg : ∀ j p, j < σ.next + 1 → σ.name.get j = some p → j < σ.next ∧ σ.get j = some p := by
    intro j p hj e
    unfold AW.name AW.get at e
    simp only at e
    by_cases x : j = σ.next
    · subst x
      rw [Tr.get_set_same] at e
      exact absurd e (by simp)
    · have : j < σ.next := by omega
      rw [Tr.get_set_other _ _ _ _ _ hlt (by omega) (Ne.symm x)] at e
      exact ⟨this, e⟩
  have pinlt : ∀ j M p, ρ j = some M → M.pin = some p → M.blk < w.heap.size := by
    intro j M p e1 e2
    have := h.pins j M p e1 e2
    rcases Nat.lt_or_ge M.blk w.heap.size with g | g
    · exact g
    · rw [Array.getElem?_eq_none g] at this; exact absurd this (by simp)
  refine ⟨hle, ?_⟩
  exact
    { base := Rho.le_trans h.base hle
      spec := by
        intro j M u e1 e2
        unfold Rho.put at e1
        split at e1
        · rename_i x; cases e1; rw [x]; exact hv u e2
        · exact h.spec j M u e1 e2
      pins := by
        intro j M p e1 e2
        unfold Rho.put at e1
        split at e1
        · cases e1; exact (hp p e2).1
        · rw [hsame _ (pinlt j M p e1 e2)]; exact h.pins j M p e1 e2
      pinInj := by
        intro i j A B p q ei ej ep eq eb
        unfold Rho.put at ei ej
        split at ei
        · rename_i x
          cases ei
          split at ej
          · rename_i y; rw [x, y]
          · have h1 := pinlt j B q ej eq
            have h2 := (hp p ep).2
            omega
        · split at ej
          · cases ej
            have h1 := pinlt i A p ei ep
            have h2 := (hp q eq).2
            omega
          · exact h.pinInj i j A B p q ei ej ep eq eb
      pinApart := by
        intro a La p b ob Lb ea eo hb eb lb
        obtain ⟨x, y⟩ := hg b ob hb eb
        obtain ⟨M, e1, _⟩ := h.obj b ob x y
        have e1' := hle _ _ e1
        rw [lb] at e1'
        cases e1'
        unfold Rho.put at ea
        split at ea
        · cases ea
          have := h.blk_lt e1 y
          have := (hp p eo).2
          omega
        · exact h.pinApart a La p b ob _ ea eo x y e1
      os := h2.trans h.os, tape := h3.trans h.tape, output := h4.trans h.output, size := Nat.le_trans h.size hs, own := h.own
      lim := hlt
      dom := by
        intro j hj
        have hj' : σ.next + 1 ≤ j := hj
        have : j ≠ σ.next := by omega
        simp only [Rho.put, this, if_false]
        exact h.dom j (by omega)
      block := fun b hb => by
        have hlt' : b < w.heap.size := by
          rcases Nat.lt_or_ge b w0.heap.size with g | g
          · have := h.size; omega
          · exact absurd (h.own b g) hb
        rw [hsame b hlt']; exact h.block b hb
      obj := by
        intro j p hj e
        obtain ⟨x, y⟩ := hg j p hj e
        obtain ⟨M, e1, e2, e3⟩ := h.obj j p x y
        refine ⟨M, hle _ _ e1, e2, ?_⟩
        rw [hsame _ (h.blk_lt e1 y)]
        exact e3.mono hle
      exact := by
        intro j cs e k M hj ej hM he
        obtain ⟨x, y⟩ := hg j _ hj ej
        obtain ⟨M', e1, _⟩ := h.obj j _ x y
        have := hle _ _ e1
        rw [hM] at this
        cases this
        exact h.exact j cs e k _ x y e1 he
      apart := by
        intro a b oa ob La Lb ha hb ea eb la lb hbb
        obtain ⟨xa, ya⟩ := hg a oa ha ea
        obtain ⟨xb, yb⟩ := hg b ob hb eb
        obtain ⟨Ma, ea1, _⟩ := h.obj a oa xa ya
        obtain ⟨Mb, eb1, _⟩ := h.obj b ob xb yb
        have e1 := hle _ _ ea1
        have e2 := hle _ _ eb1
        rw [la] at e1
        rw [lb] at e2
        cases e1; cases e2
        exact h.apart a b oa ob _ _ xa xb ya yb ea1 eb1 hbb }

/-- what is made behind it turns nothing -/
theorem R.grow (h : R w0 S σ ρ w) {w' : World} (h2 : w'.os = w.os) (h3 : w'.tape = w.tape) (h4 : w'.output = w.output) (hs : w.heap.size ≤ w'.heap.size)
    (hsame : ∀ b, b < w.heap.size → w'.heap[b]? = w.heap[b]?) : R w0 S σ ρ w' :=
  { base := h.base, spec := h.spec
    pins := by
      intro j M p e1 e2
      have := h.pins j M p e1 e2
      rcases Nat.lt_or_ge M.blk w.heap.size with g | g
      · rw [hsame _ g]; exact this
      · rw [Array.getElem?_eq_none g] at this; exact absurd this (by simp)
    pinInj := h.pinInj
    pinApart := h.pinApart
    os := h2.trans h.os, tape := h3.trans h.tape, output := h4.trans h.output, size := Nat.le_trans h.size hs, own := h.own, dom := h.dom, lim := h.lim
    block := fun b hb => by
      have hlt' : b < w.heap.size := by
        rcases Nat.lt_or_ge b w0.heap.size with g | g
        · have := h.size; omega
        · exact absurd (h.own b g) hb
      rw [hsame b hlt']; exact h.block b hb
    obj := fun j p hj e => by
      obtain ⟨M, e1, e2, e3⟩ := h.obj j p hj e
      exact ⟨M, e1, e2, by rw [hsame _ (h.blk_lt e1 e)]; exact e3⟩
    exact := h.exact
    apart := h.apart }

end
end Am
end Go
