import Derived.Recover
import Derived.Orders
import Derived.KernelRfl
/- An abstract machine for single calls: values over abstract blocks, one order, one tape. Its definitions alone. -/
set_option linter.unusedVariables false
set_option linter.unusedSimpArgs false
namespace Go
namespace Am

/-- a table over numbers below 2 ^ depth -/
inductive Tr (α : Type) where
  | leaf : Tr α
  | one (v : α) : Tr α
  | node (l r : Tr α) : Tr α

def Tr.get {α : Type} : Nat → Tr α → Nat → Option α
  | 0, .one v, _ => some v
  | 0, _, _ => none
  | d + 1, .node l r, n => match n % 2 with
    | 0 => Tr.get d l (n / 2)
    | _ => Tr.get d r (n / 2)
  | _ + 1, _, _ => none

def Tr.left {α : Type} : Tr α → Tr α
  | .node l _ => l
  | _ => .leaf
def Tr.right {α : Type} : Tr α → Tr α
  | .node _ r => r
  | _ => .leaf

def Tr.set {α : Type} : Nat → Tr α → Nat → Option α → Tr α
  | 0, _, _, some v => .one v
  | 0, _, _, none => .leaf
  | d + 1, t, n, v => match n % 2 with
    | 0 => .node (Tr.set d t.left (n / 2) v) t.right
    | _ => .node t.left (Tr.set d t.right (n / 2) v)

/-- slots: the last written first -/
inductive Tm where
  | nil : Tm
  | put (i : Nat) (v : Value) (t : Tm) : Tm

def Tm.get : Tm → Nat → Value
  | .nil, _ => .tuple #[]
  | .put j v t, i => match Nat.beq i j with
    | true => v
    | false => Tm.get t i

def Tm.fill : List Value → Nat → Tm
  | [], _ => .nil
  | v :: l, i => .put i v (Tm.fill l (i + 1))

def D : Nat := 14
/-- types beyond it are not appended to -/
def TB : Nat := 700
def OPEN : Nat := 2 ^ 70
def EMPTY : Nat := 2 ^ 70 + 1

inductive AObj where
  | cells (cs : List Value) (elem : TypeId) (esz : Nat)
  | map (es : List MapEntry) (clock : Nat)
  | miter (m : Option Nat) (since : Nat) (seen : Array Nat) (last : Nat)
  | siter (s : ByteArray) (pos : Nat)

structure AW where
  objs : Tr AObj
  next : Nat

def AW.get (σ : AW) (id : Nat) : Option AObj := σ.objs.get D id
def AW.put (σ : AW) (id : Nat) (o : AObj) : AW := { σ with objs := σ.objs.set D id (some o) }
def AW.drop (σ : AW) (id : Nat) : AW := { σ with objs := σ.objs.set D id none }
def AW.new (σ : AW) (o : AObj) : Option (Nat × AW) :=
  match Nat.blt σ.next (2 ^ D) with
  | true => some (σ.next, { objs := σ.objs.set D σ.next (some o), next := σ.next + 1 })
  | false => none

/-- no address in it -/
def plainN : Nat → Value → Bool
  | _, .bool _ | _, .int _ _ | _, .complex _ _ _ | _, .string _ | _, .nilFunc | _, .nilIface => true
  | _, .pointer none | _, .map none | _, .chan none => true
  | _, .slice none 0 0 => true
  | n + 1, .func _ f c => f.toList.all (plainN n) && c.toList.all (plainN n)
  | n + 1, .iface _ v => plainN n v
  | n + 1, .agg cs => cs.toList.all (plainN n)
  | n + 1, .tuple cs => cs.toList.all (plainN n)
  | _, _ => false
def plain (v : Value) : Bool := plainN 12 v

/-- equal, as far as can be seen -/
def sameN : Nat → Value → Value → Bool
  | _, .bool a, .bool b => a == b
  | _, .int j a, .int k b => decide (j = k) && decide (a = b)
  | _, .string a, .string b => decide (a.data.toList = b.data.toList)
  | _, .float j a, .float k b => decide (j = k) && decide (a = b)
  | _, .pointer none, .pointer none => true
  | _, .pointer (some a), .pointer (some b) => decide (a = b)
  | _, .slice none l c, .slice none m d => decide (l = m) && decide (c = d)
  | _, .slice (some a) l c, .slice (some b) m d => decide (a = b) && decide (l = m) && decide (c = d)
  | _, .map none, .map none => true
  | _, .map (some a), .map (some b) => decide (a = b)
  | _, .chan none, .chan none => true
  | _, .nilFunc, .nilFunc => true
  | _, .nilIface, .nilIface => true
  | n + 1, .func f a c, .func g b d => decide (f = g) && all2 n a.toList b.toList && all2 n c.toList d.toList
  | n + 1, .iface t a, .iface u b => decide (t = u) && sameN n a b
  | n + 1, .agg a, .agg b => all2 n a.toList b.toList
  | n + 1, .tuple a, .tuple b => all2 n a.toList b.toList
  | _, _, _ => false
where
  all2 (n : Nat) : List Value → List Value → Bool
    | [], [] => true
    | x :: xs, y :: ys => sameN n x y && all2 n xs ys
    | _, _ => false

/-- the value of a program that asks nothing of the world -/
def pureOf {α : Type} (P : Program) : Sem α → Option α
  | .pure a => some a
  | .program k => pureOf P (k P)
  | .mark _ k => pureOf P k
  | _ => none

/-- what is known of values that are named alone: an operation, its operands, what it gives -/
structure Facts where
  bin : List (BinOp × Value × Value × Value)
  un : List (UnOp × Value × Value)
  conv : List (TypeId × TypeId × Value × Value)
  len : List (TypeId × Value × Value)
  made : List (TypeId × Value × Nat)
  keys : List (TypeId × Value × List Int)

def Facts.none : Facts := ⟨[], [], [], [], [], []⟩

def lookMk (t : TypeId) (x : Value) (i : Nat) : List (TypeId × Value × Nat) → Bool
  | [] => false
  | (t', x', i') :: l => match Nat.beq t t' && sameN 2 x' x && Nat.beq i i' with
    | true => true
    | false => lookMk t x i l

def lookBin (op : BinOp) (x y : Value) : List (BinOp × Value × Value × Value) → Option Value
  | [] => .none
  | (op', x', y', r) :: l => match decide (op = op') && sameN 2 x' x && sameN 2 y' y with
    | true => some r
    | false => lookBin op x y l
def lookUn (op : UnOp) (x : Value) : List (UnOp × Value × Value) → Option Value
  | [] => .none
  | (op', x', r) :: l => match decide (op = op') && sameN 2 x' x with
    | true => some r
    | false => lookUn op x l
def lookConv (s d : TypeId) (x : Value) : List (TypeId × TypeId × Value × Value) → Option Value
  | [] => .none
  | (s', d', x', r) :: l => match Nat.beq s s' && Nat.beq d d' && sameN 2 x' x with
    | true => some r
    | false => lookConv s d x l
def lookLen (t : TypeId) (x : Value) : List (TypeId × Value × Value) → Option Value
  | [] => .none
  | (t', x', r) :: l => match Nat.beq t t' && sameN 2 x' x with
    | true => some r
    | false => lookLen t x l

/-- a named key is none of the keys of the entries -/
def otherKeys (j : IntKind) (ns : List Int) : List MapEntry → Bool
  | [] => true
  | e :: es => match e.key with
    | .int j' b => decide (j = j') && ns.any (fun n => decide (n = b)) && otherKeys j ns es
    | _ => false

def lookKey (kt : TypeId) (k : Value) : List (TypeId × Value × List Int) → Option (List Int)
  | [] => .none
  | (t', x', ns) :: l => match Nat.beq kt t' && sameN 2 x' k with
    | true => some ns
    | false => lookKey kt k l

inductive ARes where
  | val (v : Value)
  | eff (v : Value) (σ : AW)
  | call (f : FuncId) (args : Array Value)
  | pan (v : Value)
  | defer (d : Deferred)
  | recover

def isAggT (P : Program) (t : TypeId) : Option Bool :=
  match P.underlying t with
  | some (.struct _) | some (.array _ _) => some true
  | some _ => some false
  | none => none

def sizeT (P : Program) (t : TypeId) : Option Nat := (P.info? t).map (·.size)
def zeroT (P : Program) (t : TypeId) : Option Value :=
  match (P.info? t).bind (·.zero) with
  | some z => if plain z then some z else none
  | none => none

def pieces (cs : List Value) (off n : Nat) : Option (List Value) :=
  match Nat.ble (off + n) cs.length with
  | true => some ((cs.drop off).take n)
  | false => none

def rdCells (σ : AW) (id off n : Nat) : Option (List Value) :=
  match σ.get id with
  | some (.cells cs _ _) => pieces cs off n
  | _ => none

def putCells : List Value → Nat → List Value → List Value
  | [], _, _ => []
  | c :: cs, 0, v :: vs => v :: putCells cs 0 vs
  | c :: cs, 0, [] => c :: cs
  | c :: cs, off + 1, vs => c :: putCells cs off vs

def wrCells (σ : AW) (id off : Nat) (vs : List Value) : Option AW :=
  match σ.get id with
  | some (.cells cs e k) => match Nat.ble (off + vs.length) cs.length with
    | true => some (σ.put id (.cells (putCells cs off vs) e k))
    | false => none
  | _ => none

def newCells (P : Program) (σ : AW) (cs : List Value) (elem : TypeId) : Option (Nat × AW) :=
  match sizeT P elem with
  | some k => σ.new (.cells cs elem k)
  | none => none

def notCell : Value → Bool
  | .agg _ | .tuple _ => true
  | _ => false

def loadA (P : Program) (σ : AW) (t : TypeId) (a : Value) : Option Value :=
  match a with
  | .pointer (some ⟨id, off, none⟩) => match isAggT P t with
    | some true => match sizeT P t with
      | some n => (rdCells σ id off n).map fun l => .agg l.toArray
      | none => none
    | some false => match rdCells σ id off 1 with
      | some [v] => some v
      | _ => none
    | none => none
  | _ => none

def storeA (P : Program) (σ : AW) (t : TypeId) (a v : Value) : Option AW :=
  match a with
  | .pointer (some ⟨id, off, none⟩) => match sizeT P t with
    | some n => match Nat.beq v.cells.size n && !(v.cells.toList.any notCell) with
      | true => wrCells σ id off v.cells.toList
      | false => none
    | none => none
  | _ => none

/-- the elements of a slice or string, as cells -/
def elemCells (σ : AW) (k : Nat) : Value → Option (Nat × List Value)
  | .slice none 0 _ => some (0, [])
  | .slice (some ⟨id, off, none⟩) n _ => (rdCells σ id off (n * k)).map fun l => (n, l)
  | .string s => if k = 1 then some (s.size, s.data.toList.map fun b => .int .u8 b.toNat) else none
  | _ => none

def lenOfA : Value → Nat
  | .slice _ n _ => n
  | _ => 0

/-- append's own step: the elements are known -/
def appendTo (P : Program) (σ : AW) (elem : TypeId) (k : Nat) (s : Value) (n : Nat) (new : List Value) : Option ARes :=
  match s with
  | .slice none 0 0 =>
    match n with
    | 0 => some (.val (.slice none 0 0))
    | _ => match newCells P σ new elem with
      | some (id, σ') => some (.eff (.slice (some ⟨id, 0, none⟩) n OPEN) σ')
      | none => none
  | .slice (some ⟨id, off, none⟩) len cap =>
    match n with
    | 0 => some (.val s)
    | _ =>
      match σ.get id with
      | some (.cells cs ce k') =>
        match Nat.beq k k' && Nat.beq ce elem, Nat.ble cap (2 ^ 64) with
        | true, true =>
          match Nat.ble (len + n) cap with
          | true => match wrCells σ id (off + len * k) new with
            | some σ' => some (.eff (.slice (some ⟨id, off, none⟩) (len + n) cap) σ')
            | none => none
          | false => match rdCells σ id off (len * k) with
            | some old => match newCells P σ (old ++ new) elem with
              | some (id', σ') => some (.eff (.slice (some ⟨id', 0, none⟩) (len + n) OPEN) σ')
              | none => none
            | none => none
        | true, false =>
          match Nat.beq cap OPEN with
          | true => match Nat.ble (off + (len + n) * k) cs.length with
            | true => match wrCells σ id (off + len * k) new with
              | some σ' => some (.eff (.slice (some ⟨id, off, none⟩) (len + n) OPEN) σ')
              | none => none
            | false => match rdCells σ id off (len * k) with
              | some old => match newCells P (σ.drop id) (old ++ new) elem with
                | some (id', σ') => some (.eff (.slice (some ⟨id', 0, none⟩) (len + n) OPEN) σ')
                | none => none
              | none => none
          | false => match newCells P (σ.drop id) new elem with
            | some (id', σ') => some (.eff (.slice (some ⟨id', 0, none⟩) n OPEN) σ')
            | none => none
        | false, _ => none
      | _ => none
  | _ => none

def notZeros (P : Program) : Option TypeId → Bool
  | none => true
  | some t => match P.underlying t with
    | some (.int _) => false
    | some _ => true
    | none => false

/-- as many zeros as a number says -/
def zerosOf (P : Program) (xT : Option TypeId) (i : TypeInfo) (z x : Value) : Option (Nat × List Value) :=
  match xT, x with
  | some t, .int .i64 (.ofNat n) => match P.underlying t with
    | some (.int _) => match Nat.ble n 65536 && Nat.ble (n * i.bytes) (2 ^ 46) && z.cells.toList.all plain with
      | true => some (n, (Builtin.zeroCells z.cells n).toList)
      | false => none
    | _ => none
  | _, _ => none

def moreOf (P : Program) (σ : AW) (xT : Option TypeId) (i : TypeInfo) (z x : Value) : Option (Nat × List Value) :=
  match notZeros P xT with
  | true => elemCells σ i.size x
  | false => zerosOf P xT i z x

def appendA (P : Program) (σ : AW) (sT : TypeId) (xT : Option TypeId) (s x : Value) : Option ARes :=
  match P.underlying sT with
  | some (.slice elem) =>
    match P.info? elem with
    | none => none
    | some i => match i.zero with
      | none => none
      | some z =>
        match Nat.ble 1 i.size && Nat.beq z.cells.size i.size && Nat.blt sT TB with
        | true => match moreOf P σ xT i z x with
          | none => none
          | some (n, new) =>
            match Nat.ble ((lenOfA s + n) * i.bytes) (2 ^ 46) && Nat.ble (lenOfA s + n) (2 ^ 46) && !new.any notCell with
            | true => appendTo P σ elem i.size s n new
            | false => none
        | false => none
  | _ => none

def idx : Option Value → Nat → Option Nat
  | none, d => some d
  | some (.int _ i), _ => match i with
    | .ofNat n => some n
    | .negSucc _ => none
  | _, _ => none

def sliceV (a : Addr) (l h m k : Nat) : Value := .slice (some (if m = l then a else a.add (l * k))) (h - l) (m - l)

def sliceA (P : Program) (σ : AW) (t : TypeId) (x : Value) (lo hi mx : Option Value) : Option ARes :=
  match P.underlying t, x with
  | some (.slice elem), .slice none 0 0 =>
    match sizeT P elem, idx lo 0, idx hi 0, idx mx 0, hi.isSome || mx.isNone with
    | some _, some 0, some 0, some 0, true => some (.val (.slice none 0 0))
    | _, _, _, _, _ => none
  | some (.slice elem), .slice (some ⟨id, off, none⟩) len cap =>
    match sizeT P elem, idx lo 0, idx hi len, σ.get id with
    | some k, some l, some h, some (.cells cs _ k') =>
      match Nat.beq k k' && Nat.ble 1 k && Nat.ble l h && !Nat.beq cap EMPTY with
      | false => match Nat.beq cap EMPTY && Nat.beq h 0 && Nat.beq l 0 && mx.isNone with
        | true => some (.val x)
        | false => none
      | true =>
        match mx with
        | some m => match hi.isSome, idx (some m) 0 with
          | true, some m =>
            match Nat.ble h m && Nat.ble m (2 ^ 64) && (Nat.ble m len || (Nat.ble (off + m * k) cs.length && Nat.beq cap OPEN) || (Nat.ble m cap && Nat.ble cap (2 ^ 64))) with
            | true => some (.val (sliceV ⟨id, off, none⟩ l h m k))
            | false => none
          | _, _ => none
        | none =>
          match Nat.ble cap (2 ^ 64) with
          | true => match Nat.ble h cap with
            | true => some (.val (sliceV ⟨id, off, none⟩ l h cap k))
            | false => none
          | false =>
            match Nat.ble h len || Nat.ble (off + h * k) cs.length with
            | true => match Nat.blt l len || Nat.blt (off + l * k) cs.length with
              | true => some (.val (.slice (some ⟨id, off + l * k, none⟩) (h - l) OPEN))
              | false => some (.val (.slice (some ⟨id, 0, none⟩) 0 EMPTY))
            | false => none
    | _, _, _, _ => none
  | some (.array n elem), .pointer (some ⟨id, off, none⟩) =>
    match sizeT P elem, idx lo 0, idx hi n, idx mx n with
    | some k, some l, some h, some m =>
      match Nat.ble l h && Nat.ble h m && Nat.ble m n && Nat.ble n (2 ^ 64) && (hi.isSome || mx.isNone) with
      | true => some (.val (sliceV ⟨id, off, none⟩ l h m k))
      | false => none
    | _, _, _, _ => none
  | _, _ => none

def indexAddrA (P : Program) (t : TypeId) (x i : Value) : Option Value :=
  match P.underlying t, x, i with
  | some (.slice elem), .slice (some ⟨id, off, none⟩) len _, .int _ (.ofNat i) =>
    match sizeT P elem with
    | some k => if Nat.blt i len then some (.pointer (some ⟨id, off + i * k, none⟩)) else none
    | none => none
  | some (.array len elem), .pointer (some ⟨id, off, none⟩), .int _ (.ofNat i) =>
    match sizeT P elem with
    | some k => if Nat.blt i len then some (.pointer (some ⟨id, off + i * k, none⟩)) else none
    | none => none
  | _, _, _ => none

def fieldAddrA (P : Program) (s : TypeId) (a : Value) (f : Nat) : Option Value :=
  match P.underlying s, a with
  | some (.struct fs), .pointer (some ⟨id, off, none⟩) =>
    match fs[f]? with
    | some f => match sizeT P f.type with
      | some 0 | none => none
      | some _ => some (.pointer (some ⟨id, off + f.offset, none⟩))
    | none => none
  | _, _ => none

def partA (P : Program) (t : TypeId) (cs : Array Value) (off : Nat) : Option Value :=
  match isAggT P t, sizeT P t with
  | some true, some n => some (.agg (cs.extract off (off + n)))
  | some false, _ => cs[off]?
  | _, _ => none

def fieldA (P : Program) (t : TypeId) (x : Value) (f : Nat) : Option Value :=
  match P.underlying t, x with
  | some (.struct fs), .agg cs => match fs[f]? with
    | some f => partA P f.type cs f.offset
    | none => none
  | _, _ => none

/-- equality where one side is nil -/
def eqNil (P : Program) (t : TypeId) (x y : Value) : Option Bool :=
  match P.underlying t, x, y with
  | some (.pointer _), .pointer none, .pointer b => some b.isNone
  | some (.pointer _), .pointer (some _), .pointer none => some false
  | some (.map _ _), .map none, .map b => some b.isNone
  | some (.map _ _), .map (some _), .map none => some false
  | some (.slice _), .slice none _ _, .slice b _ _ => some b.isNone
  | some (.slice _), .slice (some _) _ _, .slice none _ _ => some false
  | some (.func _ _ _), .nilFunc, .nilFunc => some true
  | some (.func _ _ _), .nilFunc, .func _ _ _ => some false
  | some (.func _ _ _), .func _ _ _, .nilFunc => some false
  | some (.interface _), .nilIface, .iface _ _ => some false
  | some (.interface _), .iface _ _, .nilIface => some false
  | _, _, _ => none

def buildA (P : Program) (t : TypeId) (parts : Array (Nat × Value)) : Option Value :=
  match zeroT P t with
  | some _ => pureOf P (Instr.build t parts)
  | none => none

def madeRow (z : Array Value) (n : Nat) : Array Value := (Array.range n).map (z[· % z.size]!)

/-- where a plain key stands -/
def findA (k : Value) : List MapEntry → Nat → Option (Option (Nat × Value))
  | [], _ => some none
  | e :: es, i =>
    match k, e.key with
    | .int j a, .int j' b => if j = j' then (if a = b then some (some (i, e.val)) else findA k es (i + 1)) else none
    | _, _ => none

def keyTypeOk (P : Program) (kt : TypeId) (k : Value) : Bool :=
  match P.underlying kt, k with
  | some (.int j), .int j' _ => decide (j = j')
  | _, _ => false

def mapOf (σ : AW) : Value → Option (List MapEntry × Nat)
  | .map none => some ([], 0)
  | .map (some id) => match σ.get id with
    | some (.map es c) => some (es, c)
    | _ => none
  | _ => none

def lookupA (P : Program) (σ : AW) (t : TypeId) (m k : Value) (ok : Bool) : Option Value :=
  match P.underlying t with
  | some (.map kt et) => match mapOf σ m, keyTypeOk P kt k with
    | some (es, _), true => match findA k es 0 with
      | some (some (_, v)) => some (if ok then .tuple #[v, .bool true] else v)
      | some none => (zeroT P et).map fun z => if ok then .tuple #[z, .bool false] else z
      | none => none
    | _, _ => none
  | _ => none

def setVal (k v : Value) : List MapEntry → Nat → List MapEntry
  | [], _ => []
  | e :: es, 0 => { e with key := k, val := v } :: es
  | e :: es, i + 1 => e :: setVal k v es i

def mapUpdateA (P : Program) (σ : AW) (t : TypeId) (m k v : Value) : Option AW :=
  match P.underlying t, m with
  | some (.map kt _), .map (some id) => match σ.get id, keyTypeOk P kt k with
    | some (.map es c), true => match findA k es 0 with
      | some (some (i, _)) => some (σ.put id (.map (setVal k v es i) c))
      | some none => some (σ.put id (.map (es ++ [{ key := k, val := v, born := c }]) (c + 1)))
      | none => none
    | _, _ => none
  | _, _ => none

def deleteA (P : Program) (σ : AW) (t : TypeId) (m k : Value) : Option (Option AW) :=
  match P.underlying t, m with
  | some (.map kt _), .map none => if keyTypeOk P kt k then some none else none
  | some (.map kt _), .map (some id) => match σ.get id, keyTypeOk P kt k with
    | some (.map es c), true => match findA k es 0 with
      | some (some (i, _)) => some (some (σ.put id (.map (es.eraseIdx i) c)))
      | some none => some (some (σ.put id (.map es c)))
      | none => none
    | _, _ => none
  | _, _ => none

def rangeA (P : Program) (σ : AW) (t : TypeId) (x : Value) : Option (Value × AW) :=
  match P.underlying t, x with
  | some .string, .string s => match σ.new (.siter s 0) with
    | some (id, σ') => some (.pointer (some ⟨id, 0, none⟩), σ')
    | none => none
  | some (.map _ _), .map none => match σ.new (.miter none 0 #[] 0) with
    | some (id, σ') => some (.pointer (some ⟨id, 0, none⟩), σ')
    | none => none
  | some (.map _ _), .map (some m) => match σ.get m with
    | some (.map _ clock) => match σ.new (.miter (some m) clock #[] clock) with
      | some (id, σ') => some (.pointer (some ⟨id, 0, none⟩), σ')
      | none => none
    | _ => none
  | _, _ => none

def nextA (σ : AW) (it : Value) (isString : Bool) : Option ARes :=
  match it with
  | .pointer (some ⟨id, 0, none⟩) => match σ.get id, isString with
    | some (.siter s pos), true =>
      if pos < s.size then
        let (c, width) := Utf8.decode s pos
        some (.eff (.tuple #[.bool true, goInt pos, .int .i32 c]) (σ.put id (.siter s (pos + width))))
      else some (.val (.tuple #[.bool false]))
    | some (.miter none _ _ _), false => some (.val (.tuple #[.bool false]))
    | some (.miter (some m) since seen last), false => match σ.get m with
      | some (.map es clock) =>
        if !seen.isEmpty && !es.isEmpty && es.all (·.born ≥ last) then none else
        let left := es.filter fun e => !seen.contains e.born
        let old := left.filter (·.born < since)
        let new := left.filter (·.born ≥ since)
        match (if old.isEmpty then [none] else []) ++ (old ++ new).map some with
        | [some e] => some (.eff (.tuple #[.bool true, e.key, e.val]) (σ.put id (.miter (some m) since (seen.push e.born) clock)))
        | [none] => some (.val (.tuple #[.bool false]))
        | _ => none
      | _ => none
    | _, _ => none
  | _ => none

def entryA (σ : AW) (it : Value) : Option Value :=
  match it with
  | .pointer (some ⟨id, 0, none⟩) => match σ.get id with
    | some (.miter (some m) _ seen stepped) => match seen.back?, σ.get m with
      | some stamp, some (.map es clock) => if clock = stepped then match es.find? (fun e => e.born == stamp) with
        | some e => some (.tuple #[e.key, e.val])
        | none => none
        else none
      | _, _ => none
    | _ => none
  | _ => none

def bytesOf : List Value → Option (List UInt8)
  | [] => some []
  | .int .u8 n :: l => (bytesOf l).map (UInt8.ofNat n.toNat :: ·)
  | _ => none

def convertA (P : Program) (σ : AW) (src dst : TypeId) (x : Value) : Option ARes :=
  match P.underlying src, P.underlying dst, x with
  | some .string, some (.slice e), .string s =>
    match P.underlying e, (match Nat.blt dst TB with | true => sizeT P e | false => none) with
    | some (.int .u8), some 1 => match newCells P σ (s.data.toList.map fun b => .int .u8 b.toNat) e with
      | some (id, σ') => some (.eff (.slice (some ⟨id, 0, none⟩) s.size OPEN) σ')
      | none => none
    | _, _ => none
  | some (.slice e), some .string, .slice none 0 0 =>
    match P.underlying e with
    | some (.int .u8) => some (.val (.string .empty))
    | _ => none
  | some (.slice e), some .string, .slice (some ⟨id, off, none⟩) n _ =>
    match P.underlying e with
    | some (.int .u8) => match (rdCells σ id off n).bind bytesOf with
      | some l => some (.val (.string ⟨l.toArray⟩))
      | none => none
    | _ => none
  | some (.slice _), some (.slice e), .slice (some ⟨id, off, none⟩) n c =>
    match P.underlying e, σ.get id with
    | some (.int .u8), some (.cells _ _ _) => if Nat.beq src dst then some (.val (.slice (some ⟨id, off, none⟩) n c)) else none
    | _, _ => none
  | _, _, _ => none

def lenA (P : Program) (σ : AW) (t : TypeId) (x : Value) : Option Value :=
  match P.underlying t, x with
  | some .string, .string s => some (goInt s.size)
  | some (.array n _), _ => some (goInt n)
  | some (.slice _), .slice _ n _ => some (goInt n)
  | some (.map _ _), m => (mapOf σ m).map fun (es, _) => goInt es.length
  | some (.pointer a), _ => match P.underlying a with
    | some (.array n _) => some (goInt n)
    | _ => none
  | _, _ => none

def capA (P : Program) (t : TypeId) (x : Value) : Option Value :=
  match P.underlying t, x with
  | some (.slice _), .slice _ _ c => if Nat.ble c (2 ^ 64) then some (goInt c) else none
  | some (.array n _), _ => some (goInt n)
  | _, _ => none

def builtinA (P : Program) (σ : AW) (b : Builtin) (ts : Array TypeId) (args : Array Value) : Option ARes :=
  match b with
  | .append => match ts[0]?, args[0]?, args[1]? with
    | some sT, some s, some x => appendA P σ sT ts[1]? s x
    | _, _, _ => none
  | .cap => match ts[0]?, args[0]? with
    | some t, some x => (capA P t x).map .val
    | _, _ => none
  | .delete => match ts[0]?, args[0]?, args[1]? with
    | some t, some m, some k => (deleteA P σ t m k).map fun
      | some σ' => .eff (.tuple #[]) σ'
      | none => .val (.tuple #[])
    | _, _, _ => none
  | _ => none

def funcOf (P : Program) (f : Value) (args : Array Value) : Option ARes :=
  match f with
  | .func (.func f) first captured => match P.funcs[f]? with
    | some fn => if fn.name == "runtime.NumGoroutine" || fn.body.isNone then none else some (.call f ((first ++ args) ++ captured))
    | none => none
  | _ => none

def okOperand (nt : Nat) : Operand → Bool
  | .tmp t => Nat.blt t nt
  | .func _ => true
  | .const v => plain v
  | .global _ => false
def okOp (nt : Nat) (o : Oper) : Bool := o.op.operands.toList.all (okOperand nt) && (match o.dst with | some d => Nat.blt d nt | none => true)

def pureVal (P : Program) (s : Sem Next) : Option ARes :=
  match pureOf P s with
  | some (.value v) => if plain v then some (.val v) else none
  | _ => none

/-- two whole numbers -/
def intBin (op : BinOp) : Value → Value → Option Value
  | .int k a, .int k' b => match decide (k = k') with
    | true => match op with
      | .add => some (.int k (k.wrap (a + b)))
      | .sub => some (.int k (k.wrap (a - b)))
      | .mul => some (.int k (k.wrap (a * b)))
      | .eql => some (.bool (decide (a = b)))
      | .neq => some (.bool (!decide (a = b)))
      | .lss => some (.bool (decide (a < b)))
      | .leq => some (.bool (decide (a ≤ b)))
      | .gtr => some (.bool (decide (b < a)))
      | .geq => some (.bool (decide (b ≤ a)))
      | _ => none
    | false => none
  | _, _ => none

def eqBin (P : Program) (op : BinOp) (t : TypeId) (x y : Value) : Option Value :=
  match op with
  | .eql => match eqNil P t x y with
    | some b => some (.bool b)
    | none => none
  | .neq => match eqNil P t x y with
    | some b => some (.bool !b)
    | none => none
  | _ => none

def binA (P : Program) (X : Facts) (o : Oper) (ev : Operand → Value) (op : BinOp) (t : TypeId) (x y : Value) : Option ARes :=
  match intBin op x y with
  | some v => some (.val v)
  | none => match eqBin P op t x y with
    | some v => some (.val v)
    | none => match plain x && plain y with
      | true => pureVal P (execOp ev o)
      | false => (lookBin op x y X.bin).map .val

def notA (op : UnOp) (x : Value) : Option Value :=
  match op, x with
  | .not, .bool b => some (.bool !b)
  | _, _ => none

def unA (P : Program) (X : Facts) (o : Oper) (ev : Operand → Value) (op : UnOp) (x : Value) : Option ARes :=
  match notA op x with
  | some v => some (.val v)
  | none => match plain x with
    | true => pureVal P (execOp ev o)
    | false => (lookUn op x X.un).map .val

def indexA (P : Program) (o : Oper) (ev : Operand → Value) (x i : Value) : Option ARes :=
  match plain x && plain i with
  | true => pureVal P (execOp ev o)
  | false => none

def intConv (P : Program) (s d : TypeId) (x : Value) : Option Value :=
  match x with
  | .int _ n => match P.underlying s, P.underlying d with
    | some _, some (.int k) => some (.int k (k.wrap n))
    | _, _ => none
  | _ => none

def convA (P : Program) (X : Facts) (o : Oper) (ev : Operand → Value) (σ : AW) (s d : TypeId) (x : Value) : Option ARes :=
  match intConv P s d x with
  | some v => some (.val v)
  | none => match convertA P σ s d x with
    | some r => some r
    | none => match plain x with
      | true => pureVal P (execOp ev o)
      | false => (lookConv s d x X.conv).map .val

def pickA (c a b : Value) : Option ARes :=
  match c with
  | .bool true => some (.val a)
  | .bool false => some (.val b)
  | _ => none

def extractA (t : Value) (i : Nat) : Option ARes :=
  match t with
  | .tuple vs => match vs[i]? with
    | some v => some (.val v)
    | none => none
  | _ => none

def boxA (P : Program) (σ : AW) (e : TypeId) (v : Value) : Option ARes :=
  match newCells P σ v.cells.toList e with
  | some (id, σ') => some (.eff (.pointer (some ⟨id, 0, none⟩)) σ')
  | none => none

def allocA (P : Program) (σ : AW) (e : TypeId) : Option ARes :=
  match zeroT P e with
  | some z => boxA P σ e z
  | none => none

def buildSliceA (P : Program) (σ : AW) (t : TypeId) (len : Nat) (parts : Array (Nat × Value)) : Option ARes :=
  match P.underlying t with
  | some (.slice elem) => match sizeT P elem, zeroT P elem with
    | some k, some z =>
      match Nat.ble (len * k) (2 ^ 24) && Nat.ble 1 k && Nat.beq z.cells.size k with
      | true => match Instr.fill (fun i => some (i * k, k)) (madeRow z.cells (len * k)) parts.toList with
        | some cs => match newCells P σ cs.toList elem with
          | some (id, σ') => some (.eff (.slice (some ⟨id, 0, none⟩) len len) σ')
          | none => none
        | none => none
      | false => none
    | _, _ => none
  | _ => none

def nilCheckA (x : Value) : Option ARes :=
  match x with
  | .pointer (some a) => some (.val (.pointer (some a)))
  | .func (.func f) a c => some (.val (.func (.func f) a c))
  | .iface t v => some (.val (.iface t v))
  | _ => none

def makeIfaceA (P : Program) (t : TypeId) (x : Value) : Option ARes :=
  match P.underlying t with
  | some (.interface _) | none => none
  | some _ => some (.val (.iface t x))

def makeMapA (σ : AW) (r : Option Operand) : Option ARes :=
  match r, σ.new (.map [] 0) with
  | none, some (id, σ') => some (.eff (.map (some id)) σ')
  | _, _ => none

def makeSliceA (P : Program) (σ : AW) (t : TypeId) (l c : Value) : Option ARes :=
  match P.underlying t, l, c with
  | some (.slice elem), .int _ (.ofNat l), .int _ (.ofNat c) => match P.info? elem, zeroT P elem with
    | some i, some z =>
      match Nat.ble l c && Nat.ble (i.bytes * c) (2 ^ 40) && Nat.ble c (2 ^ 40) && Nat.beq z.cells.size i.size && Nat.ble 1 i.size with
      | true => match newCells P σ (madeRow z.cells (c * i.size)).toList elem with
        | some (id, σ') => some (.eff (.slice (some ⟨id, 0, none⟩) l c) σ')
        | none => none
      | false => none
    | _, _ => none
  | _, _, _ => none

def mkA (P : Program) (X : Facts) (σ : AW) (t : TypeId) (l c : Value) : Option ARes :=
  match lookMk t l σ.next X.made && sameN 2 l c && Nat.blt σ.next (2 ^ D) with
  | true => some (.eff (.float .f64 σ.next) { objs := σ.objs.set D σ.next none, next := σ.next + 1 })
  | false => makeSliceA P σ t l c

def slcA (P : Program) (o : Oper) (ev : Operand → Value) (σ : AW) (t : TypeId) (x : Value) (lo hi mx : Option Value) : Option ARes :=
  match x with
  | .string _ => match o.op.operands.toList.all (fun x => plain (ev x)) with
    | true => pureVal P (execOp ev o)
    | false => none
  | _ => sliceA P σ t x lo hi mx

/-- what is read at a named key -/
def lookupK (P : Program) (X : Facts) (σ : AW) (t : TypeId) (m k : Value) (ok : Bool) : Option Value :=
  match P.underlying t with
  | some (.map kt et) => match mapOf σ m, lookKey kt k X.keys, P.underlying kt with
    | some (es, _), some ns, some (.int j) => match otherKeys j ns es, zeroT P et with
      | true, some z => some (if ok then .tuple #[z, .bool false] else z)
      | _, _ => none
    | _, _, _ => none
  | _ => none

def lookupR (P : Program) (X : Facts) (σ : AW) (t : TypeId) (m k : Value) (ok : Bool) : Option ARes :=
  match lookupA P σ t m k ok with
  | some v => some (.val v)
  | none => valOfK (lookupK P X σ t m k ok)
where
  valOfK : Option Value → Option ARes
    | some v => some (.val v)
    | none => none

def valOf : Option Value → Option ARes
  | some v => some (.val v)
  | none => none

def skipOf : Option AW → Option ARes
  | some σ => some (.eff undef σ)
  | none => none

def rangeR (P : Program) (σ : AW) (t : TypeId) (x : Value) : Option ARes :=
  match rangeA P σ t x with
  | some (v, σ') => some (.eff v σ')
  | none => none

def builtinR (P : Program) (X : Facts) (o : Oper) (ev : Operand → Value) (σ : AW) (b : Builtin) (ts : Array TypeId) (args : Array Value) : Option ARes :=
  match b with
  | .recover => some .recover
  | .min | .max => match o.op.operands.toList.all (fun x => plain (ev x)) with
    | true => pureVal P (execOp ev o)
    | false => none
  | .len => match ts[0]?, args[0]? with
    | some t, some x => match lenA P σ t x with
      | some v => some (.val v)
      | none => (lookLen t x X.len).map .val
    | _, _ => none
  | _ => builtinA P σ b ts args

/-- the one function without a body that hands an address on -/
def noEscA (P : Program) (f : Value) (args : Array Value) : Option ARes :=
  match f, args.toList with
  | .func (.func f) first captured, [v] => match P.funcs[f]?, first.toList, captured.toList with
    | some fn, [], [] => if fn.name == "internal/abi.NoEscape" && fn.origin == "" && fn.body.isNone then some (.val v) else none
    | _, _, _ => none
  | _, _ => none

def callA (P : Program) (X : Facts) (o : Oper) (ev : Operand → Value) (σ : AW) (c : Call) : Option ARes :=
  match c.callee with
  | .value f => match funcOf P (ev f) (c.args.map ev) with
    | some r => some r
    | none => match o.op.operands.toList.all (fun x => plain (ev x)) with
      | true => pureVal P (execOp ev o)
      | false => noEscA P (ev f) (c.args.map ev)
  | .builtin b => builtinR P X o ev σ b c.argTypes (c.args.map ev)
  | .invoke _ _ => none

def deferA (ev : Operand → Value) (c : Call) : Option ARes :=
  match c.callee with
  | .value f => match ev f with
    | .func (.func f) first captured => some (.defer { target := .fn (.func f) captured, args := first ++ c.args.map ev })
    | _ => none
  | _ => none

def panicA (x : Value) : Option ARes :=
  match x with
  | .iface t v => some (.pan (.iface t v))
  | _ => none

def assertA (P : Program) (t : TypeId) (x : Value) (ok : Bool) : Option ARes :=
  match P.underlying t, x with
  | some (.interface _), _ => none
  | none, _ => none
  | some _, .iface t' v => match Nat.beq t' t with
    | true => some (.val (if ok then .tuple #[v, .bool true] else v))
    | false => match ok, zeroT P t with
      | true, some z => some (.val (.tuple #[z, .bool false]))
      | _, _ => none
  | some _, .nilIface => match ok, zeroT P t with
    | true, some z => some (.val (.tuple #[z, .bool false]))
    | _, _ => none
  | _, _ => none

def aop (P : Program) (X : Facts) (ev : Operand → Value) (o : Oper) (σ : AW) : Option ARes :=
  match o.op with
  | .move x | .assign x => some (.val (ev x))
  | .load t a => valOf (loadA P σ t (ev a))
  | .fieldAddr s x f => valOf (fieldAddrA P s (ev x) f)
  | .binOp op t x y _ => binA P X o ev op t (ev x) (ev y)
  | .call c => callA P X o ev σ c
  | .pick c a b => pickA (ev c) (ev a) (ev b)
  | .extract t i => extractA (ev t) i
  | .nilCheck x => nilCheckA (ev x)
  | .store t a x => skipOf (storeA P σ t (ev a) (ev x))
  | .indexAddr t x i => valOf (indexAddrA P t (ev x) (ev i))
  | .convert s d x => convA P X o ev σ s d (ev x)
  | .unOp op _ x => unA P X o ev op (ev x)
  | .alloc e => allocA P σ e
  | .box e x => boxA P σ e (ev x)
  | .build t parts => valOf (buildA P t (parts.map fun (i, x) => (i, ev x)))
  | .buildSlice t len parts => buildSliceA P σ t len (parts.map fun (i, x) => (i, ev x))
  | .slice t x lo hi mx => slcA P o ev σ t (ev x) (lo.map ev) (hi.map ev) (mx.map ev)
  | .index _ x i => indexA P o ev (ev x) (ev i)
  | .makeInterface t x => makeIfaceA P t (ev x)
  | .makeFunc fn first captured => some (.val (.func fn (first.map ev) (captured.map ev)))
  | .makeMap _ r => makeMapA σ r
  | .makeSlice t l c => mkA P X σ t (ev l) (ev c)
  | .field t x f => valOf (fieldA P t (ev x) f)
  | .lookup t x i ok => lookupR P X σ t (ev x) (ev i) ok
  | .mapUpdate t m k v | .insert t m k v => skipOf (mapUpdateA P σ t (ev m) (ev k) (ev v))
  | .range t x => rangeR P σ t (ev x)
  | .next it s => nextA σ (ev it) s
  | .entry it => valOf (entryA σ (ev it))
  | .typeAssert x _ t ok => assertA P t (ev x) ok
  | .defer c => deferA ev c
  | .panic x => panicA (ev x)
  | _ => none

structure St where
  tmps : Tm
  defers : List Deferred
  mode : FrameMode
  σ : AW

def ev (t : Tm) : Operand → Value
  | .tmp i => t.get i
  | .const v => v
  | .global g => .chan (some g)
  | .func f => .func (.func f) #[] #[]

def putT (t : Tm) : Option Tmp → Value → Tm
  | some d, v => .put d v t
  | none, _ => t

inductive AEnd where
  | returned (v : Value)
  | panicked (chain : List PanicEntry)

inductive AExit where
  | normal
  | exit (id : Nat)
  | ret
  | panic (chain : List PanicEntry)

inductive Res (α : Type) where
  | ok (a : α)
  | bad (why : List Oper)

/-- is the operation wanted? (not known where its guard is a named value) -/
def wantedA (ops : Array Oper) (t : Tm) (o : Oper) : Option Bool :=
  match o.guard with
  | none => some true
  | some (j, want) => match (ops[j]?).bind (·.dst) with
    | none => some false
    | some d => match t.get d with
      | .bool b => some (some b == some want)
      | .float _ _ => none
      | _ => some false

/-- what 'recover' finds, and what it makes of the mode -/
def recoverA : FrameMode → Option (Value × FrameMode)
  | .panicking ({ v, recovered := false, goexit := false } :: older) => some (v, .panicking ({ v, recovered := true } :: older))
  | _ => none

/-- the operations of a region in the order of the text -/
def runOps (P : Program) (X : Facts) (deferred : Bool) (call : FuncId → Array Value → AW → Res (AEnd × AW)) (ops : Array Oper) : List Oper → Tm → List Deferred → FrameMode → AW → Res (AExit × St)
  | [], t, ds, m, σ => .ok (.normal, ⟨t, ds, m, σ⟩)
  | o :: rest, t, ds, m, σ =>
    match wantedA ops t o with
    | none => .bad [o]
    | some true =>
      match aop P X (ev t) o σ with
      | some (.val v) => runOps P X deferred call ops rest (putT t o.dst v) ds m σ
      | some (.eff v σ') => runOps P X deferred call ops rest (putT t o.dst v) ds m σ'
      | some (.call f args) => match call f args σ with
        | .ok (.returned v, σ') => runOps P X deferred call ops rest (putT t o.dst v) ds m σ'
        | .ok (.panicked ch, σ') => .ok (.panic ch, ⟨t, ds, m, σ'⟩)
        | .bad w => .bad (o :: w)
      | some (.pan v) => .ok (.panic [{ v, recovered := false }], ⟨t, ds, m, σ⟩)
      | some (.defer d) => runOps P X deferred call ops rest (putT t o.dst undef) (d :: ds) m σ
      | some .recover => match deferred with
        | true => match recoverA m with
          | some (v, m') => runOps P X deferred call ops rest (putT t o.dst v) ds m' σ
          | none => runOps P X deferred call ops rest (putT t o.dst .nilIface) ds m σ
        | false => .bad [o]
      | none => .bad [o]
    | some false => runOps P X deferred call ops rest (putT t o.dst undef) ds m σ

/- a region that draws its order -/
def binds (e : Edge) : Bool := Region.binds .any e

def bset (bs : List Nat) (o : Oper) : Nat := o.after.toList.foldr (fun e s => match binds e with | true => (2 ^ e.on ||| bs.getD e.on 0) ||| s | false => s) 0
def bsets : List Oper → List Nat → List Nat
  | [], bs => bs
  | o :: l, bs => bsets l (bs ++ [bset bs o])

/-- the one at i is ahead of the one at j -/
def ahead (bs : List Nat) (i j : Nat) : Bool := Nat.testBit (bs.getD j 0) i

def okEdges (i : Nat) (o : Oper) : Bool := o.after.toList.all fun e => !binds e || Nat.blt e.on i

def okPairs (ops : Array Oper) (bs : List Nat) (o : Oper) (i : Nat) : List Oper → Nat → Bool
  | [], _ => true
  | p :: l, j => (ahead bs i j || Oper.apart ops o p) && okPairs ops bs o i l (j + 1)

def okRegion (ops : Array Oper) (bs : List Nat) : List Oper → Nat → Bool
  | [], _ => true
  | o :: l, i => okEdges i o && okPairs ops bs o i l (i + 1) && okRegion ops bs l (i + 1)

/-- what an operation of such a region has come to: the value; what it turned -/
inductive Ent where
  | val (v : Value)
  | skip
  | eff (σ : AW) (v : Value) (σ' : AW)

def Ent.value : Ent → Value
  | .val v => v
  | .skip => undef
  | .eff _ v _ => v

def runDraw (P : Program) (X : Facts) (call : FuncId → Array Value → AW → Res (AEnd × AW)) (ops : Array Oper) : List Oper → Tm → AW → Res (List Ent × Tm × AW)
  | [], t, σ => .ok ([], t, σ)
  | o :: rest, t, σ =>
    match wantedA ops t o with
    | none => .bad [o]
    | some true =>
      match aop P X (ev t) o σ with
      | some (.val v) => match runDraw P X call ops rest (putT t o.dst v) σ with
        | .ok (l, r) => .ok (.val v :: l, r)
        | .bad w => .bad w
      | some (.eff v σ') => match runDraw P X call ops rest (putT t o.dst v) σ' with
        | .ok (l, r) => .ok (.eff σ v σ' :: l, r)
        | .bad w => .bad w
      | some (.call f args) => match call f args σ with
        | .ok (.returned v, σ') => match runDraw P X call ops rest (putT t o.dst v) σ' with
          | .ok (l, r) => .ok (.eff σ v σ' :: l, r)
          | .bad w => .bad w
        | .ok (.panicked _, _) => .bad [o]
        | .bad w => .bad (o :: w)
      | _ => .bad [o]
    | some false => match runDraw P X call ops rest (putT t o.dst undef) σ with
      | .ok (l, r) => .ok (.skip :: l, r)
      | .bad w => .bad w

/-- does it look at memory? -/
def looks : Op → Bool
  | .move _ | .assign _ | .pick _ _ _ | .extract _ _ | .build _ _ | .nilCheck _ | .binOp _ _ _ _ _ | .unOp _ _ _ | .index _ _ _ | .makeInterface _ _ | .makeFunc _ _ _ | .typeAssert _ _ _ _
  | .fieldAddr _ _ _ | .field _ _ _ | .indexAddr _ _ _ => false
  | _ => true

/-- the same value at another memory -/
def again (P : Program) (X : Facts) (t : Tm) (o : Oper) (v : Value) (σ : AW) : Bool :=
  match looks o.op with
  | false => true
  | true => match aop P X (ev t) o σ with
    | some (.val u) => sameN 12 u v
    | _ => false

/-- the effect at e (σ before, σ' behind it) against all others -/
def okEff (P : Program) (X : Facts) (bs : List Nat) (e : Nat) (σ σ' : AW) : List Oper → List Ent → Tm → Nat → Bool
  | o :: ops, n :: ns, t, j =>
    (Nat.beq e j || ahead bs e j || ahead bs j e ||
      (match n with
       | .val v => again P X t o v (match Nat.blt e j with | true => σ | false => σ')
       | .skip => true
       | .eff _ _ _ => false)) &&
    okEff P X bs e σ σ' ops ns (putT t o.dst n.value) (j + 1)
  | _, _, _, _ => true

def okEffs (P : Program) (X : Facts) (bs : List Nat) (ops : List Oper) (ns : List Ent) (t : Tm) : List Ent → Nat → Bool
  | .eff σ _ σ' :: l, e => okEff P X bs e σ σ' ops ns t 0 && okEffs P X bs ops ns t l (e + 1)
  | _ :: l, e => okEffs P X bs ops ns t l (e + 1)
  | [], _ => true

def drawn (P : Program) (X : Facts) (call : FuncId → Array Value → AW → Res (AEnd × AW)) (ops : Array Oper) (s : St) : Res (AExit × St) :=
  match okRegion ops (bsets ops.toList []) ops.toList 0 && P.follows .mixedOrders with
  | true => match runDraw P X call ops ops.toList s.tmps s.σ with
    | .ok (ns, t, σ) => match okEffs P X (bsets ops.toList []) ops.toList ns s.tmps ns 0 with
      | true => .ok (.normal, { s with tmps := t, σ })
      | false => .bad ops.toList
    | .bad w => .bad w
  | false => .bad ops.toList

def resultsA (P : Program) (nt : Nat) (t : Tm) (σ : AW) : List ResultVar → Option (List Value)
  | [] => some []
  | .tmp d :: l => match Nat.blt d nt, resultsA P nt t σ l with
    | true, some vs => some (ev t (.tmp d) :: vs)
    | _, _ => none
  | .cell a ty :: l => match Nat.blt a nt, loadA P σ ty (ev t (.tmp a)), resultsA P nt t σ l with
    | true, some v, some vs => some (v :: vs)
    | _, _, _ => none

def oneOf : List Value → Value
  | [v] => v
  | vs => .tuple vs.toArray

/-- the body of a function, run -/
def body (P : Program) (exec : Nat → Code → St → Res (AExit × St)) (fn : Func) (args : Array Value) (mode : FrameMode) (σ : AW) : Res (AExit × St) :=
  match fn.body, Nat.ble args.size fn.ntmps with
  | some c, true => exec fn.ntmps c { tmps := Tm.fill args.toList 0, defers := [], mode, σ }
  | _, _ => .bad []

def isRun : FrameMode → Bool
  | .run => true
  | _ => false

/-- the deferred calls -/
def leaves (P : Program) (execD : Nat → Code → St → Res (AExit × St)) (fn : Func) (t : Tm) : List Deferred → FrameMode → AW → Res (AEnd × AW)
  | [], .returning, σ => match resultsA P fn.ntmps t σ fn.results.toList with
    | some vs => .ok (.returned (oneOf vs), σ)
    | none => .bad []
  | [], .panicking ch, σ => .ok (.panicked ch, σ)
  | [], .run, _ => .bad []
  | d :: ds, u, σ =>
    match isRun u, d.target with
    | false, .fn (.func f) captured => match P.funcs[f]? with
      | some fd => match fd.name == "runtime.NumGoroutine", body P execD fd (d.args ++ captured) u σ with
        | false, .ok (.normal, s) | false, .ok (.ret, s) => match s.defers, resultsA P fd.ntmps s.tmps s.σ fd.results.toList with
          | [], some _ => leaves P execD fn t ds (settle s.mode) s.σ
          | _, _ => .bad []
        | _, .bad w => .bad w
        | _, _ => .bad []
      | none => .bad []
    | _, _ => .bad []

/-- calls whose contract is known otherwise -/
abbrev Ext := FuncId → Array Value → AW → Option (AEnd × AW)
def Ext.none : Ext := fun _ _ _ => .none

def callWith (P : Program) (Y : Ext) (exec execD : Nat → Code → St → Res (AExit × St)) (f : FuncId) (args : Array Value) (σ : AW) : Res (AEnd × AW) :=
  match Y f args σ with
  | some r => .ok r
  | none => match P.funcs[f]? with
    | some fn => match body P exec fn args .run σ with
      | .ok (.normal, s) | .ok (.ret, s) => leaves P execD fn s.tmps s.defers .returning s.σ
      | .ok (.panic ch, s) => leaves P execD fn s.tmps s.defers (.panicking ch) s.σ
      | .ok (.exit _, _) => .bad []
      | .bad w => .bad w
    | none => .bad []

def exec (P : Program) (X : Facts) (Y : Ext) : Nat → Bool → Nat → Code → St → Res (AExit × St)
  | 0, _, _, _, _ => .bad []
  | n + 1, d, nt, c, s =>
    match c with
    | .skip => .ok (.normal, s)
    | .ret => .ok (.ret, s)
    | .exit id => .ok (.exit id, s)
    | .seq a b => match exec P X Y n d nt a s with
      | .ok (.normal, s') => exec P X Y n d nt b s'
      | r => r
    | .cond x a b => match okOperand nt x, ev s.tmps x with
      | true, .bool true => exec P X Y n d nt a s
      | true, .bool false => exec P X Y n d nt b s
      | _, _ => .bad []
    | .block id b => match exec P X Y n d nt b s with
      | .ok (.exit id', s') => if id' = id then .ok (.normal, s') else .ok (.exit id', s')
      | r => r
    | .loop b => match exec P X Y n d nt b s with
      | .ok (.normal, s') => exec P X Y n d nt (.loop b) s'
      | r => r
    | .region _ ops draw => match ops.toList.all (okOp nt) with
      | true => match draw with
        | false => runOps P X d (callWith P Y (exec P X Y n false) (exec P X Y n true)) ops ops.toList s.tmps s.defers s.mode s.σ
        | true => drawn P X (callWith P Y (exec P X Y n false) (exec P X Y n true)) ops s
      | false => .bad ops.toList
    | _ => .bad []

def call (P : Program) (X : Facts) (Y : Ext) (n : Nat) (f : FuncId) (args : Array Value) (σ : AW) : Res (AEnd × AW) := callWith P Y (exec P X Y n false) (exec P X Y n true) f args σ

end Am
end Go
