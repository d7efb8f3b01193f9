import Derived.Test.YtcokmnpgeokfpaaGreatDoorVxA
import Derived.MapKept
import Derived.Laws.Externs
import Derived.Laws.Build
set_option linter.unusedVariables false
set_option linter.unusedSimpArgs false
namespace Go
namespace Vx
section
variable {P : Program} {w0 : World} {S : Own} {σ : AW} {ρ : Rho} {w : World}
theorem grown_ge {need old : Nat} {e : TypeId} : need ≤ grownCap w need old e := grownCap_ge w need old e
theorem ApT.noEx [hE : NoEx P S] {ts : Array TypeId} {elem : TypeId} {i : TypeInfo} {z : Value} (T : ApT P ts elem i z) : ¬ S.exact elem := let ⟨t, _, hu, ht⟩ := T.1; hE.no t elem ht hu
theorem app_out [NoEx P S] {σ1 : AW} (hR1 : R w0 S σ1 ρ w) {ts : Array TypeId} {elem ty : TypeId} {i : TypeInfo} {z : Value} (T : ApT P ts elem i z) (hzs : z.cells.size = i.size)
  {x' : Value} {b : Option Addr} {len cap n id : Nat} {old new old' new' : List Value} {σ' : AW}
  (A : Apd P ts i z x' n new' w) (hgt : cap < len + n)
  (h3 : (Builtin.firstCells i.size len (.slice b len cap)).run P w.drew = .ok old'.toArray w.drew) (args : Array Value) (ha : args[0]? = some (.slice b len cap)) (hb : args[1]? = some x')
  (hby : (len + n) * i.bytes ≤ 2 ^ 46) (hmx : len + n ≤ 2 ^ 46) (ho : LRel ρ old old') (hn : LRel ρ new new') (hol : old.length = len * i.size) (hnl : new.length = n * i.size)
  (hnew : newCells P σ1 (old ++ new) elem = some (id, σ')) :
  ∃ v' w' ρ', (Builtin.append_ ts ty args).run P w = .ok v' w' ∧ ρ.le ρ' ∧ VRel ρ' (.slice (some ⟨id, 0, none⟩) (len + n) OPEN) v' ∧ R w0 S σ' ρ' w' := by
 have hrun := run_append_out (ty := ty) T A hgt h3 args ha hb hby hmx
 obtain ⟨k, hk, hle, hR'⟩ := ok_new hR1.drew hnew (ho.append hn) (Builtin.zeroCells z.cells (grownCap w (len + n) cap elem - (len + n))).toList (0, 0) (.inl rfl) (fun hx => (T.noEx hx).elim)
 have hki : k = i.size := by
  unfold sizeT at hk
  rw [T.hi] at hk
  simpa using hk.symm
 refine ⟨_, _, _, hrun, hle, ?_, hR'⟩
 have := VRel.sliceO (ρ := ρ.put id ⟨w.heap.size, 0, ((old' ++ new') ++ (Builtin.zeroCells z.cells (grownCap w (len + n) cap elem - (len + n))).toList).length, k, none, none⟩) (id := id) (o := 0)
  (n := len + n) (c := grownCap w (len + n) cap elem) (Rho.put_same _ _ _) grown_ge (by
   simp only [List.length_append, Array.length_toList, size_zeroCells, hzs, ← ho.1, ← hn.1, hol, hnl, hki]
   have := grown_ge (w := w) (need := len + n) (old := cap) (e := elem)
   rw [← Nat.add_mul, ← Nat.add_mul]
   simp only [Nat.zero_add]
   congr 1
   omega)
 simpa using this
theorem app_in {ts : Array TypeId} {elem ty : TypeId} {i : TypeInfo} {z : Value} (T : ApT P ts elem i z) {x' : Value} {b o : Nat} {len cap n : Nat} {new' : List Value} {w' : World}
  (A : Apd P ts i z x' n new' w) (hle : len + n ≤ cap)
  (h3 : (storeCells ⟨b, o + len * i.size, none⟩ new').run P w = .ok () w') (args : Array Value) (ha : args[0]? = some (.slice (some ⟨b, o, none⟩) len cap)) (hb : args[1]? = some x') :
  (Builtin.append_ ts ty args).run P w = .ok (.slice (some ⟨b, o, none⟩) (len + n) cap) w' :=
 run_append_in T rfl A hle (by rw [add_none]; exact h3) args ha hb
theorem run_append_nil {ts : Array TypeId} {elem ty : TypeId} {i : TypeInfo} {z : Value} (T : ApT P ts elem i z) {x : Value} (A : Apd P ts i z x 0 [] w) (args : Array Value) (ha : args[0]? = some (.slice none 0 0)) (hb : args[1]? = some x) :
  (Builtin.append_ ts ty args).run P w = .ok (.slice none 0 0) w := by
 obtain ⟨⟨t, ht, hu, _⟩, hi, hzero⟩ := T
 cases A with
 | zeros hx hxu hv hnb hm hsz hnew =>
  subst hv
  have := wrap_i64 hm
  simp only [Int.natCast_zero] at this
  simp [Builtin.append_, ht, ha, hb, hx, run_underlying hu, run_underlying hxu, sizeOf, typeInfo, hi, asInt, asIntOf, this]
 | els hz hlen hf1 _ =>
 cases hts1 : ts[1]? with
 | none => simp [Builtin.append_, ht, ha, hb, hts1, run_underlying hu, sizeOf, typeInfo, hi, hlen, hf1]
 | some xt =>
  rw [hts1] at hz
  obtain ⟨d, hud, hne⟩ := notZeros_some hz
  cases d
  case int => exact absurd rfl (hne _)
  all_goals
   simp only [Builtin.append_, ht, ha, hb, hts1, Sem.run_bind, run_underlying hu, run_underlying hud, Result.andThen_ok, sizeOf, typeInfo, hi, run_program, Sem.run_pure, Bool.false_eq_true, if_false, hlen, Sem.run_ite,
    Bool.not_false, if_true]
   simp [hf1]
theorem pureN_rel : ∀ (n : Nat) (v u : Value), pureN n v = true → VRel ρ v u → PRel ρ.mem v u := by
 intro n
 induction n with
 | zero =>
  intro v u h hv
  cases hv with
  | pure h _ => exact h
  | tok => simp [pureN, tokOf] at h
  | bool => exact .bool _
  | int => exact .int _ _
  | complex => exact .complex _ _ _
  | string => exact .string _
  | nilFunc => exact .nilFunc
  | nilIface => exact .nilIface
  | ptr0 => exact .ptr0
  | map0 => exact .map0
  | chan0 => exact .chan0
  | slice0 => exact .slice0
  | func hf => rename_i fn a b c d _ _ _ _; cases fn <;> simp [pureN, isFn] at h hf
  | _ => simp [pureN] at h
 | succ n ih =>
  have arr : ∀ {a b : Array Value}, a.toList.all (pureN n) = true → (∀ (i : Nat) (v v' : Value), a[i]? = some v → b[i]? = some v' → VRel ρ v v') → ∀ (i : Nat) (v v' : Value), a[i]? = some v → b[i]? = some v' → PRel ρ.mem v v' := by
   intro a b ha h2 i v v' x y
   rw [List.all_eq_true] at ha
   exact ih v v' (ha v (by rw [Array.mem_toList_iff]; exact Array.mem_of_getElem? x)) (h2 i v v' x y)
  intro v u h hv
  cases hv with
  | pure h _ => exact h
  | tok => simp [pureN, tokOf] at h
  | bool => exact .bool _
  | int => exact .int _ _
  | complex => exact .complex _ _ _
  | string => exact .string _
  | nilFunc => exact .nilFunc
  | nilIface => exact .nilIface
  | ptr0 => exact .ptr0
  | map0 => exact .map0
  | chan0 => exact .chan0
  | slice0 => exact .slice0
  | func hf h1 h2 h3 h4 =>
   rename_i fn a b c d
   cases fn with
   | func f =>
    simp only [pureN, Bool.and_eq_true] at h
    exact .func hf h1 (arr h.1.2 h2) h3 (arr h.2 h4)
   | _ => simp [isFn] at hf
  | iface h1 => simp only [pureN] at h; exact .iface (ih _ _ h h1)
  | agg h1 h2 => simp only [pureN] at h; exact .agg h1 (arr h h2)
  | tuple h1 h2 => simp only [pureN] at h; exact .tuple h1 (arr h h2)
  | _ => simp [pureN] at h
theorem pureB_rel {v u : Value} (h : pureB v = true) (hv : VRel ρ v u) : PRel ρ.mem v u := pureN_rel _ v u h hv
theorem VRel.tok_inv {k τ : Nat} {nm : String} {f es : Array Value} {v' : Value} (hf : tokOf f = some τ) (h : VRel ρ (.func (.methodOf k nm) f es) v') :
  ∃ (A : Option Addr) (c : Nat) (T : Option Tk), v' = .slice A es.size c ∧ ρ.tok τ = some T ∧ TokAt k es.size c A T := by
 cases h with
 | pure h _ =>
  cases h with
  | lst => simp [tokOf] at hf
  | func hf => simp [isFn] at hf
 | tok h hT ha =>
  simp [tokOf] at hf
  subst hf
  cases h with
  | lst => exact ⟨_, _, _, rfl, hT, ha⟩
 | func hf => simp [isFn] at hf
def Rho.grown (ρ : Rho) (B : Nat) (pfx : Array Value) (i : Nat) (T : Tk) : Rho := ⟨ρ.loc, fun b => if b = B then some pfx else ρ.mem b, fun j => if j = i then some (some T) else ρ.tok j⟩
theorem R.tokStep (h : R w0 S σ ρ w) {w' : World} {B : Nat} {pfx row : Array Value} {te : TypeId} {fr : Nat × Nat} {size : Nat} {toks : List Nat}
  (h2 : w'.os = w.os) (h3 : w'.tape = w.tape) (h4 : w'.output = w.output) (hs : w.heap.size ≤ w'.heap.size)
  (hother : ∀ b, b ≠ B → b < w.heap.size → w'.heap[b]? = w.heap[b]?) (hmore : ∀ b, b ≠ B → w.heap.size ≤ b → w'.heap[b]? = none)
  (hrow : w'.heap[B]? = some (.cells row te fr)) (hpre : Pre pfx row) (hsz : row.size = size) (hfr : fr.1 = fr.2 ∨ row.size ≤ fr.1) (hS : S B)
  (hold : ∀ a, ρ.mem B = some a → Pre a pfx) (hobj : ∀ j o M, j < σ.next → σ.get j = some o → ρ j = some M → M.blk ≠ B) (hpin : ∀ j M p, ρ j = some M → M.pin = some p → M.blk ≠ B)
  (hsub : ∀ τ, τ ∈ toks → τ ∈ σ.toks) (hnd : toks.Nodup) (htok : ∀ τ U, τ ∈ toks → ρ.tok τ = some (some U) → U.blk ≠ B) (hlt : σ.next < 2 ^ D) :
  ρ.le (ρ.grown B pfx σ.next ⟨B, pfx.size, size, te⟩) ∧ R w0 S (σ.newTok toks) (ρ.grown B pfx σ.next ⟨B, pfx.size, size, te⟩) w' := by
 have oth : ∀ b, b ≠ B → w'.heap[b]? = w.heap[b]? := by
  intro b hb
  rcases Nat.lt_or_ge b w.heap.size with g | g
  ·exact hother b hb g
  ·rw [hmore b hb g, Array.getElem?_eq_none g]
 have hle : ρ.le (ρ.grown B pfx σ.next ⟨B, pfx.size, size, te⟩) := by
  refine ⟨fun _ _ e => e, fun b o e => ?_, fun i T e => ?_⟩
  ·simp only [Rho.grown]
   split
   ·rename_i hb; subst hb; exact ⟨pfx, rfl, hold o e⟩
   ·exact ⟨o, e, Pre.refl _⟩
  ·simp only [Rho.grown]
   split
   ·rename_i hi; subst hi; rw [h.tokDom _ (Nat.le_refl _)] at e; exact absurd e (by simp)
   ·exact e
 have hg : ∀ j p, j < σ.next + 1 → (σ.newTok toks).get j = some p → j < σ.next ∧ σ.get j = some p := by
  intro j p hj e
  unfold AW.newTok AW.get at e
  simp only at e
  by_cases x : j = σ.next
  ·subst x
   rw [Tr.get_set_same] at e
   exact absurd e (by simp)
  ·rw [Tr.get_set_other _ _ _ _ _ hlt (by omega) (Ne.symm x)] at e
   exact ⟨by omega, e⟩
 refine ⟨hle, ?_⟩
 exact
  {base := Rho.le_trans h.base hle
   spec := h.spec
   pins := fun i L o e1 e2 => by rw [oth _ (hpin i L o e1 e2)]; exact h.pins i L o e1 e2
   pinInj := h.pinInj
   pinVal := h.pinVal
   pinApart := fun i L o j oj M e1 e2 hj ej hM => by
    obtain ⟨x, y⟩ := hg j oj hj ej
    exact h.pinApart i L o j oj M e1 e2 x y hM
   mem := fun b a e => by
    simp only [Rho.grown] at e
    split at e
    ·rename_i hb; subst hb; cases e; exact ⟨row, te, fr, hrow, hpre⟩
    ·rename_i hb; rw [oth b hb]; exact h.mem b a e
   memApart := fun b a j oj M e hj ej hM => by
    obtain ⟨x, y⟩ := hg j oj hj ej
    simp only [Rho.grown] at e
    split at e
    ·rename_i hb; subst hb; exact hobj j oj M x y hM
    ·exact h.memApart b a j oj M e x y hM
   memNew := fun b a e => by
    simp only [Rho.grown] at e
    split at e
    ·rename_i hb; subst hb; exact .inr hS
    ·exact h.memNew b a e
   memBase := fun b o e hn => by
    have : b ≠ B := fun x => hn (x ▸ hS)
    simp only [Rho.grown, this, if_false]
    exact h.memBase b o e hn
   tok := fun τ ht => by
    simp only [AW.newTok] at ht
    rcases List.mem_cons.1 ht with rfl | ht
    ·refine ⟨Nat.lt_succ_self _, some ⟨B, pfx.size, size, te⟩, by simp [Rho.grown], fun U e => ?_⟩
     cases e
     exact ⟨hS, pfx, row, fr, by simp [Rho.grown], rfl, hrow, hsz, hfr⟩
    ·obtain ⟨q1, T, q2, q3⟩ := h.tok τ (hsub τ ht)
     refine ⟨Nat.lt_succ_of_lt q1, T, by
      have : τ ≠ σ.next := by omega
      simp only [Rho.grown, this, if_false]; exact q2, fun U e => ?_⟩
     obtain ⟨r1, a, c, fr2, r2, r3, r4, r5⟩ := q3 U e
     subst e
     have hne := htok τ U ht q2
     exact ⟨r1, a, c, fr2, by simp only [Rho.grown, hne, if_false]; exact r2, r3, by rw [oth _ hne]; exact r4, r5⟩
   tokInj := fun τ τ' T T' ht ht' e e' hb => by
    simp only [AW.newTok] at ht ht'
    simp only [Rho.grown] at e e'
    rcases List.mem_cons.1 ht with rfl | ht
    ·rcases List.mem_cons.1 ht' with rfl | ht'
     ·rfl
     ·exfalso
      have : τ' ≠ σ.next := by have := (h.tok τ' (hsub τ' ht')).1; omega
      rw [if_pos rfl] at e
      rw [if_neg this] at e'
      cases e
      exact htok τ' T' ht' e' hb.symm
    ·have h1 : τ ≠ σ.next := by have := (h.tok τ (hsub τ ht)).1; omega
     rw [if_neg h1] at e
     rcases List.mem_cons.1 ht' with rfl | ht'
     ·exfalso
      rw [if_pos rfl] at e'
      cases e'
      exact htok τ T ht e hb
     ·have h2 : τ' ≠ σ.next := by have := (h.tok τ' (hsub τ' ht')).1; omega
      rw [if_neg h2] at e'
      exact h.tokInj τ τ' T T' (hsub τ ht) (hsub τ' ht') e e' hb
   tokDom := fun i hi => by
    have hi' : σ.next + 1 ≤ i := hi
    have : i ≠ σ.next := by omega
    simp only [Rho.grown, this, if_false]
    exact h.tokDom i (by omega)
   tokPin := fun τ U i L o ht hU e1 e2 => by
    simp only [AW.newTok] at ht
    simp only [Rho.grown] at hU
    rcases List.mem_cons.1 ht with rfl | ht
    ·rw [if_pos rfl] at hU
     cases hU
     exact hpin i L o e1 e2
    ·have h1 : τ ≠ σ.next := by have := (h.tok τ (hsub τ ht)).1; omega
     rw [if_neg h1] at hU
     exact h.tokPin τ U i L o (hsub τ ht) hU e1 e2
   tokNd := by
    simp only [AW.newTok]
    rw [List.nodup_cons]
    exact ⟨fun e => by have := (h.tok _ (hsub _ e)).1; omega, hnd⟩
   os := h2.trans h.os, tape := h3.trans h.tape, output := h4.trans h.output, size := Nat.le_trans h.size hs, own := h.own
   block := fun b hb => by rw [oth b (fun e => hb (e ▸ hS))]; exact h.block b hb
   dom := fun i hi => h.dom i (Nat.le_of_succ_le hi)
   lim := hlt
   obj := fun j p hj e => by
    obtain ⟨x, y⟩ := hg j p hj e
    obtain ⟨M, e1, e2, e3⟩ := h.obj j p x y
    refine ⟨M, e1, e2, ?_⟩
    rw [oth _ (hobj j p M x y e1)]
    exact e3.mono hle
   exact := fun j cs e k L hj ej hL he => by
    obtain ⟨x, y⟩ := hg j _ hj ej
    exact h.exact j cs e k L x y hL he
   apart := fun a b oa ob La Lb ha hb ea eb => by
    obtain ⟨xa, ya⟩ := hg a oa ha ea
    obtain ⟨xb, yb⟩ := hg b ob hb eb
    exact h.apart a b oa ob La Lb xa xb ya yb }
theorem chunks_len {k : Nat} : ∀ {n : Nat} {l : List Value}, (chunks k n l).length = n
 | 0, _ => rfl
 | n + 1, l => by simp [chunks, chunks_len]
theorem chunks_get {k : Nat} : ∀ {n : Nat} {l : List Value} {i : Nat} {v : Value}, l.length = n * k → (chunks k n l)[i]? = some v → v.cells.size = k ∧ ∀ j u, v.cells[j]? = some u → l[i * k + j]? = some u
 | 0, _, i, v, _, h => by simp [chunks] at h
 | n + 1, l, i, v, hl, h => by
  rw [Nat.add_mul] at hl
  cases i with
  | zero =>
   simp only [chunks, List.getElem?_cons_zero, Option.some.injEq] at h
   subst h
   refine ⟨by simp [Value.cells]; omega, fun j u e => ?_⟩
   simp only [Value.cells, List.getElem?_toArray, List.getElem?_take] at e
   split at e
   ·rw [Nat.zero_mul, Nat.zero_add]; exact e
   ·exact absurd e (by simp)
  | succ i =>
   simp only [chunks, List.getElem?_cons_succ] at h
   obtain ⟨a, b⟩ := chunks_get (l := l.drop k) (by simp; omega) h
   refine ⟨a, fun j u e => ?_⟩
   have := b j u e
   rw [List.getElem?_drop] at this
   rw [← this]
   congr 1
   rw [Nat.add_mul]
   omega
theorem elems_get {ag : Bool} {k n : Nat} {l : List Value} (hk : (ag || Nat.beq k 1) = true) (hl : l.length = n * k) (hone : l.any notCell = false) :
  (elemsOf ag k n l).length = n ∧ ∀ i v, (elemsOf ag k n l)[i]? = some v → v.cells.size = k ∧ ∀ j u, v.cells[j]? = some u → l[i * k + j]? = some u := by
 cases ag with
 | true => exact ⟨chunks_len, fun i v h => chunks_get hl h⟩
 | false =>
  have hk : k = 1 := beq_t (by simpa using hk)
  subst hk
  refine ⟨by simpa [elemsOf] using hl, fun i v h => ?_⟩
  have hc : v.cells = #[v] := by
   have hm : v ∈ l := List.mem_of_getElem? h
   rw [List.any_eq_false] at hone
   have := hone v hm
   cases v <;> first | rfl | (simp [notCell] at this)
  rw [hc]
  refine ⟨rfl, fun j u e => ?_⟩
  cases j with
  | zero => simp at e; subst e; rw [Nat.mul_one, Nat.add_zero]; exact h
  | succ j => simp at e
theorem tok_rel {k n m c o B : Nat} {es : Array Value} {new new' : List Value} {ag : Bool} {A0 : Option Addr} {g : Nat → Value} {ρ' : Rho} {pfx : Array Value} {T : Tk} {τ : Nat}
  (hle : ρ.le ρ') (hk : (ag || Nat.beq k 1) = true) (hone : new.any notCell = false) (hpu : new.all pureB = true) (hn : n = es.size) (hnl : new.length = m * k) (hnr : LRel ρ new new') (hpos : 0 < m)
  (hs : ∀ (i : Nat) (v : Value), es[i]? = some v → v.cells.size = k) (hm : ∀ (i : Nat) (v : Value) (j : Nat) (u : Value), es[i]? = some v → v.cells[j]? = some u → PRel ρ.mem u (g (i * k + j)))
  (hmem : ρ'.mem B = some pfx) (hp1 : ∀ q, q < n * k → pfx[o + q]? = some (g q)) (hp2 : ∀ q v, new'[q]? = some v → pfx[o + (n * k + q)]? = some v) (hT : ρ'.tok τ = some (some T)) (hTB : T.blk = B) (hTo : o + (n + m) * k = T.off) (hTs : o + c * k ≤ T.size) (hc : n + m ≤ c) :
  VRel ρ' (tls k τ (es ++ (elemsOf ag k m new).toArray)) (.slice (some ⟨B, o, none⟩) (n + m) c) := by
 obtain ⟨el, eg⟩ := elems_get hk hnl hone
 have hsz : (es ++ (elemsOf ag k m new).toArray).size = n + m := by simp [el]; omega
 have key : ∀ i v, (es ++ (elemsOf ag k m new).toArray)[i]? = some v → v.cells.size = k ∧ ∀ j u, v.cells[j]? = some u → PRel ρ'.mem u ((pfx[o + (i * k + j)]?).getD undef) := by
  intro i v h
  by_cases hi : i < es.size
  ·rw [Array.getElem?_append_left hi] at h
   refine ⟨hs i v h, fun j u e => ?_⟩
   have hj : j < k := by have := (Array.getElem?_eq_some_iff.1 e).1; have := hs i v h; omega
   have hlt : i * k + j < n * k := by
    have : (i + 1) * k ≤ n * k := Nat.mul_le_mul_right _ (by omega)
    rw [Nat.add_mul] at this
    omega
   rw [hp1 _ hlt]
   exact (hm i v j u h e).mono hle.mem
  ·rw [Array.getElem?_append_right (by omega), List.getElem?_toArray] at h
   obtain ⟨a, b⟩ := eg _ v h
   refine ⟨a, fun j u e => ?_⟩
   have hb := b j u e
   have hq : (i - es.size) * k + j < new'.length := by rw [← hnr.1]; exact (List.getElem?_eq_some_iff.1 hb).1
   have h1 := hnr.2 _ u _ hb (List.getElem?_eq_getElem hq)
   have h2 := hp2 _ _ (List.getElem?_eq_getElem hq)
   have h3 : n * k + ((i - es.size) * k + j) = i * k + j := by
    rw [hn, ← Nat.add_assoc, ← Nat.add_mul]
    congr 2
    omega
   rw [h3] at h2
   rw [h2]
   rw [List.all_eq_true] at hpu
   exact (pureB_rel (hpu u (List.mem_of_getElem? hb)) h1).mono hle.mem
 have hlast : ∀ q, q < (n + m) * k → ∃ v, pfx[o + q]? = some v := by
  intro q hq
  by_cases h1 : q < n * k
  ·exact ⟨_, hp1 q h1⟩
  ·have hq2 : q - n * k < new'.length := by rw [← hnr.1, hnl]; rw [Nat.add_mul] at hq; omega
   have := hp2 _ _ (List.getElem?_eq_getElem hq2)
   rw [show n * k + (q - n * k) = q by omega] at this
   exact ⟨_, this⟩
 have hP := PRel.lst (M := ρ'.mem) (k := k) (nm := "") (ex := false) (es := es ++ (elemsOf ag k m new).toArray) (A := some ⟨B, o, none⟩) (c := c) (g := fun q => (pfx[o + q]?).getD undef) (by omega) (fun h => by simp at h) (fun h => by simp at h)
  (fun i v h => (key i v h).1) (fun _ => ⟨_, rfl, fun j hj => by
   rw [hsz] at hj
   obtain ⟨v, hv⟩ := hlast j hj
   rw [add_none]
   unfold memCell
   simp only [hmem, hv]
   rfl⟩) (fun i v j u h e => (key i v h).2 j u e)
 have := VRel.tok (ρ := ρ') (k := k) (τ := τ) (n := n + m) (c := c) (nm := "") (es := es ++ (elemsOf ag k m new).toArray) (A := some ⟨B, o, none⟩) (T := some T) (by rw [hsz] at hP; exact hP) hT ⟨o, by rw [hTB], hTo, hTs⟩
 exact this
theorem sizeT_of {elem : TypeId} {i : TypeInfo} (h : P.info? elem = some i) : sizeT P elem = some i.size := by simp [sizeT, h]
theorem ok_append [NoEx P S] (hR : R w0 S σ ρ w) {ts : Array TypeId} {sT ty : TypeId} {s x s' x' : Value} {r : ARes} (hts : ts[0]? = some sT) (h : appendA P σ sT ts[1]? s x = some r)
  (hs : VRel ρ s s') (hx : VRel ρ x x') (args : Array Value) (ha : args[0]? = some s') (hb : args[1]? = some x') :
  ∃ v' w' ρ', (Builtin.append_ ts ty args).run P w = .ok v' w' ∧ ρ.le ρ' ∧
   ((∃ v, r = .val v ∧ VRel ρ' v v' ∧ R w0 S σ ρ' w') ∨ (∃ v σ', r = .eff v σ' ∧ VRel ρ' v v' ∧ R w0 S σ' ρ' w')) := by
 unfold appendA at h
 split at h
 ·rename_i elem hu
  split at h
  ·exact absurd h (by simp)
  ·rename_i i hi
   split at h
   ·exact absurd h (by simp)
   ·rename_i z hzero
    split at h
    ·rename_i hb0
     simp only [Bool.and_eq_true] at hb0
     have h1i := ble_t hb0.1.1
     have hzs := beq_t hb0.1.2
     have T : ApT P ts elem i z := ⟨⟨sT, hts, hu, blt_t hb0.2⟩, hi, hzero⟩
     split at h
     ·exact absurd h (by simp)
     ·rename_i n new hel
      obtain ⟨new', hnr, hnl, A⟩ := ok_more (P := P) hR hzs hel hx
      split at h
      ·rename_i hb1
       simp only [Bool.and_eq_true, Bool.not_eq_true'] at hb1
       obtain ⟨⟨hby, hmx⟩, hone⟩ := hb1
       replace hby := ble_t hby
       replace hmx := ble_t hmx
       unfold appendTo at h
       split at h
       ·have := hs.slice0_inv
        subst this
        simp only [lenOfA] at hby hmx
        split at h
        ·cases h
         simp only [Nat.zero_mul] at hnl
         have : new' = [] := List.eq_nil_of_length_eq_zero (by rw [← hnr.1]; exact hnl)
         subst this
         refine ⟨.slice none 0 0, w, ρ, ?_, ρ.le_refl, .inl ⟨_, rfl, .slice0, hR⟩⟩
         exact run_append_nil T A args ha hb
        ·split at h
         ·rename_i id σ' hnew
          cases h
          have hn0 : n ≠ 0 := by assumption
          obtain ⟨v', w', ρ', a, b, c, d⟩ := app_out (ty := ty) hR T hzs (b := none) (len := 0) (cap := 0) (old := []) (old' := []) A (by omega)
           (by simp [Builtin.firstCells]) args ha hb hby hmx .nil hnr (by simp) hnl (by simpa using hnew)
          simp only [Nat.zero_add] at c
          exact ⟨v', w', ρ', a, b, .inr ⟨_, _, rfl, c, d⟩⟩
         ·exact absurd h (by simp)
       ·rename_i id off len cap
        simp only [lenOfA] at hby hmx
        split at h
        ·cases h
         simp only [Nat.zero_mul] at hnl
         have : new' = [] := List.eq_nil_of_length_eq_zero (by rw [← hnr.1]; exact hnl)
         subst this
         have run0 : ∀ b o c, len ≤ c → args[0]? = some (.slice (some ⟨b, o, none⟩) len c) → (Builtin.append_ ts ty args).run P w = .ok (.slice (some ⟨b, o, none⟩) len c) w := by
          intro b o c hc ha
          exact app_in (n := 0) T A (by omega) (by simp [storeCells]) args ha hb
         cases hs with
         | pure _ hpp => exact absurd hpp (by simp [isP])
         | sliceX hL hc hn => exact ⟨_, w, ρ, run0 _ _ _ hn ha, ρ.le_refl, .inl ⟨_, rfl, .sliceX hL hc hn, hR⟩⟩
         | sliceO hL hn hc => exact ⟨_, w, ρ, run0 _ _ _ hn ha, ρ.le_refl, .inl ⟨_, rfl, .sliceO hL hn hc, hR⟩⟩
         | sliceE hL hc => exact ⟨_, w, ρ, run0 _ _ _ (Nat.zero_le _) ha, ρ.le_refl, .inl ⟨_, rfl, .sliceE hL hc, hR⟩⟩
        ·have hn0 : n ≠ 0 := by assumption
         split at h
         ·rename_i cs ce k' hg
          split at h
          ·rename_i hk hcap
           have hke := hk
           simp only [Bool.and_eq_true] at hke
           have hk := beq_t hke.1
           have hce := beq_t hke.2
           have hcap := ble_t hcap
           cases hs with
           | pure _ hpp => exact absurd hpp (by simp [isP])
           | sliceO hL hn hc => exact absurd hcap open_big
           | sliceE hL hc => exact absurd hcap empty_big
           | @sliceX _ _ _ _ L hL hc hn =>
            split at h
            ·rename_i hroom
             have hroom := ble_t hroom
             split at h
             ·rename_i σ' hw
              cases h
              obtain ⟨w', hst, hR'⟩ := ok_wr (P := P) hR hw hL hnr hone
              exact ⟨_, w', ρ, app_in T A hroom (by rw [Nat.add_assoc]; exact hst) args ha hb, ρ.le_refl, .inr ⟨_, _, rfl, .sliceX hL hc hroom, hR'⟩⟩
             ·exact absurd h (by simp)
            ·rename_i hroom
             have hroom := ble_f hroom
             split at h
             ·rename_i old hrd
              split at h
              ·rename_i id' σ' hnew
               cases h
               obtain ⟨old', ho, hrun, hcl⟩ := run_rd (P := P) hR hrd hL
               have hf3 : (Builtin.firstCells i.size len (.slice (some ⟨L.blk, L.off + off, none⟩) len cap)).run P w.drew = .ok old'.toArray w.drew := by
                simp only [Builtin.firstCells]
                rw [← rd_len hrd, ho.1]
                exact run_loadCells_list w.drew _ old' (by simpa using hcl)
               obtain ⟨v', w', ρ', a, b, c, d⟩ := app_out (ty := ty) hR T hzs A (by omega) hf3 args ha hb hby hmx ho hnr (rd_len hrd) hnl hnew
               exact ⟨v', w', ρ', a, b, .inr ⟨_, _, rfl, c, d⟩⟩
              ·exact absurd h (by simp)
             ·exact absurd h (by simp)
          ·rename_i hk hcap
           have hke := hk
           simp only [Bool.and_eq_true] at hke
           have hk := beq_t hke.1
           have hce := beq_t hke.2
           have hcap := ble_f hcap
           subst hk
           split at h
           ·rename_i hopen
            have hopen := beq_t hopen
            cases hs with
            | pure _ hpp => exact absurd hpp (by simp [isP])
            | sliceX hL hc hn => omega
            | sliceE hL hc => exact absurd hopen (Ne.symm open_empty)
            | @sliceO _ _ _ c L hL hn hc =>
             obtain ⟨ca, ce', fr, hh, d1, d2, d3, d4, d5⟩ := cells_of hR hL hg
             split at h
             ·rename_i hroom
              have hroom := ble_t hroom
              have hroom' : len + n ≤ c := by
               rw [d2] at hc
               have : (len + n) * i.size ≤ c * i.size := by omega
               exact Nat.le_of_mul_le_mul_right this (by omega)
              split at h
              ·rename_i σ' hw
               cases h
               obtain ⟨w', hst, hR'⟩ := ok_wr (P := P) hR hw hL hnr hone
               exact ⟨_, w', ρ, app_in T A hroom' (by rw [Nat.add_assoc]; exact hst) args ha hb, ρ.le_refl, .inr ⟨_, _, rfl, .sliceO hL hroom' hc, hR'⟩⟩
              ·exact absurd h (by simp)
             ·rename_i hroom
              have hroom := ble_f hroom
              split at h
              ·rename_i old hrd
               split at h
               ·rename_i id' σ' hnew
                cases h
                obtain ⟨old', ho, hrun, hcl⟩ := run_rd (P := P) hR hrd hL
                have hol := rd_len hrd
                by_cases hroom' : len + n ≤ c
                ·have hlt := hR.lt hL
                 have hdrop := hR.drop id hlt
                 have hcells : (storeCells ⟨L.blk, L.off + off + len * i.size, none⟩ new').run P w = .ok () (w.setRow L.blk (ca.toList.take (L.off + off + len * i.size) ++ new' ++ ca.toList.drop (L.off + off + len * i.size + new'.length)).toArray) := by
                  refine run_storeFr (P := P) L.blk (L.off + off + len * i.size) ce' fr new' 0 ca w hh d4 ?_ (hnr.cell hone)
                  rw [← hnr.1, hnl, d1, ← hc, d2, Nat.add_zero, Nat.add_assoc _ (len * i.size), ← Nat.add_mul]
                  have := Nat.mul_le_mul_right i.size hroom'
                  omega
                 have hrun2 := app_in (ty := ty) T A hroom' hcells args ha hb
                 have hsz : L.off + off + (len + n) * i.size ≤ L.size := by
                  rw [← hc, d2]
                  have := Nat.mul_le_mul_right i.size hroom'
                  omega
                 have hsum : (old ++ new).length = (len + n) * i.size := by rw [List.length_append, hol, hnl, Nat.add_mul]
                 unfold newCells at hnew
                 rw [sizeT_of T.hi] at hnew
                 simp only at hnew
                 obtain ⟨hid, _, _⟩ := AW.new_eq hnew
                 have hle : ρ.le (ρ.put id' ⟨L.blk, L.off + off, L.size, i.size, none, none⟩) := Rho.le_put (by rw [hid]; exact hR.dom _ (Nat.le_refl _))
                 obtain ⟨_, hR'⟩ := hdrop.bind hnew (L := ⟨L.blk, L.off + off, L.size, i.size, none, none⟩) rfl rfl (fun j M p e1 e2 e => hR.pinApart j M p id _ L e1 e2 hlt hg hL e.symm) (fun b p e => (hR.memApart b p id _ L e hlt hg hL).symm) (hR.at hL hg).1 (by
                   intro j p M hj e1 e2 e
                   have hne : id ≠ j := by
                    intro e'
                    subst e'
                    rw [get_drop (by have := hR.lim; omega) (by have := hR.lim; omega), if_pos rfl] at e1
                    exact absurd e1 (by simp)
                   rw [get_drop (by have := hR.lim; omega) (by have := hR.lim; have : j < σ.next := hj; omega), if_neg hne] at e1
                   exact hne (hR.apart id j _ _ L M hlt hj hg e1 hL e2 e.symm))
                  (w' := w.setRow L.blk (ca.toList.take (L.off + off + len * i.size) ++ new' ++ ca.toList.drop (L.off + off + len * i.size + new'.length)).toArray)
                  rfl rfl rfl (by simp) (fun b hb' _ => setRow_other w _ _ _ hb') (fun b hb' hge => by rw [setRow_other w _ _ _ hb']; exact Array.getElem?_eq_none hge) (fun cs2 e2 k2 he hx => by cases he; exact (T.noEx hx).elim) (by
                   rw [setRow_heap w L.blk ca _ ce' fr hh]
                   have hn1 := hnr.1
                   have hrow : (ca.toList.take (L.off + off + len * i.size) ++ new' ++ ca.toList.drop (L.off + off + len * i.size + new'.length)).toArray.size = L.size := by
                    rw [Nat.add_mul] at hsz
                    simp
                    omega
                   refine ⟨(cells_ty hR hL hg hh).trans hce, hrow, rfl, ?_, ?_, ?_⟩
                   ·rw [hrow, hsum]; exact hsz
                   ·rcases d4 with e | e
                    ·exact .inl e
                    ·right; rw [hrow, ← d1]; exact e
                   ·intro j v hj
                    rw [Nat.add_mul] at hsz
                    have htk : (ca.toList.take (L.off + off + len * i.size)).length = L.off + off + len * i.size := by rw [List.length_take, Array.length_toList]; omega
                    rcases Nat.lt_or_ge j old.length with g | g
                    ·rw [List.getElem?_append_left g] at hj
                     have hgl : j < old'.length := by rw [← ho.1]; exact g
                     refine ⟨old'[j], ?_, (ho.2 j v _ hj (List.getElem?_eq_getElem hgl)).mono hle⟩
                     have hcj := hcl j old'[j] (List.getElem?_eq_getElem hgl)
                     rw [add_none, cell_at hh] at hcj
                     simp only [List.getElem?_toArray, List.append_assoc]
                     rw [List.getElem?_append_left (by rw [htk]; show L.off + off + j < _; omega), List.getElem?_take, if_pos (by show L.off + off + j < _; omega), Array.getElem?_toList]
                     exact hcj
                    ·rw [List.getElem?_append_right g] at hj
                     have hgl : j - old.length < new'.length := by
                      rw [← hn1]
                      rcases Nat.lt_or_ge (j - old.length) new.length with g2 | g2
                      ·exact g2
                      ·rw [List.getElem?_eq_none g2] at hj; exact absurd hj (by simp)
                     refine ⟨new'[j - old.length], ?_, (hnr.2 _ v _ hj (List.getElem?_eq_getElem hgl)).mono hle⟩
                     simp only [List.getElem?_toArray, List.append_assoc]
                     rw [List.getElem?_append_right (by rw [htk]; omega), htk, List.getElem?_append_left (by omega)]
                     have e : L.off + off + j - (L.off + off + len * i.size) = j - old.length := by omega
                     rw [e]
                     exact List.getElem?_eq_getElem hgl)
                 refine ⟨_, _, _, hrun2, hle, .inr ⟨_, _, rfl, ?_, hR'⟩⟩
                 have := VRel.sliceO (ρ := ρ.put id' ⟨L.blk, L.off + off, L.size, i.size, none, none⟩) (id := id') (o := 0) (n := len + n) (c := c) (Rho.put_same _ _ _) hroom' (by
                  show L.off + off + 0 + c * i.size = L.size
                  rw [← hc, d2, Nat.add_zero])
                 exact this
                ·have hf3 : (Builtin.firstCells i.size len (.slice (some ⟨L.blk, L.off + off, none⟩) len c)).run P w.drew = .ok old'.toArray w.drew := by
                  simp only [Builtin.firstCells]
                  rw [← rd_len hrd, ho.1]
                  exact run_loadCells_list w.drew _ old' (by simpa using hcl)
                 obtain ⟨v', w', ρ', a, b, c, d⟩ := app_out (ty := ty) (hR.drop id (hR.lt hL)) T hzs A (by omega) hf3 args ha hb hby hmx ho hnr (rd_len hrd) hnl hnew
                 exact ⟨v', w', ρ', a, b, .inr ⟨_, _, rfl, c, d⟩⟩
               ·exact absurd h (by simp)
              ·exact absurd h (by simp)
           ·rename_i hopen
            have hopen := beq_f hopen
            cases hs with
            | pure _ hpp => exact absurd hpp (by simp [isP])
            | sliceX hL hc hn => omega
            | sliceO hL hn hc => exact absurd rfl hopen
            | @sliceE _ L o c hL hc =>
             obtain ⟨ca, ce', fr, hh, d1, d2, d3, d4, d5⟩ := cells_of hR hL hg
             split at h
             ·rename_i id' σ' hnew
              cases h
              simp only [Nat.zero_add] at hby hmx
              by_cases hroom' : 0 + n ≤ c
              ·have hc : o + c * i.size = L.size := by
                rcases hc with hc | hc
                ·omega
                ·rw [d2] at hc; exact hc
               have hlt := hR.lt hL
               have hdrop := hR.drop id hlt
               have hn1 := hnr.1
               have hsz : o + n * i.size ≤ L.size := by
                rw [← hc]
                have := Nat.mul_le_mul_right i.size hroom'
                simp only [Nat.zero_add] at this
                omega
               have hcells : (storeCells ⟨L.blk, o + 0 * i.size, none⟩ new').run P w = .ok () (w.setRow L.blk (ca.toList.take o ++ new' ++ ca.toList.drop (o + new'.length)).toArray) := by
                have := run_storeFr (P := P) L.blk o ce' fr new' 0 ca w hh d4 (by rw [← hnr.1, hnl, d1]; omega) (hnr.cell hone)
                simpa using this
               have hrun2 := app_in (ty := ty) T A hroom' hcells args ha hb
               unfold newCells at hnew
               rw [sizeT_of T.hi] at hnew
               simp only at hnew
               obtain ⟨hid, _, _⟩ := AW.new_eq hnew
               have hle : ρ.le (ρ.put id' ⟨L.blk, o, L.size, i.size, none, none⟩) := Rho.le_put (by rw [hid]; exact hR.dom _ (Nat.le_refl _))
               have htk : (ca.toList.take o).length = o := by rw [List.length_take, Array.length_toList]; omega
               have hrow : (ca.toList.take o ++ new' ++ ca.toList.drop (o + new'.length)).toArray.size = L.size := by
                have hnl' : new'.length = n * i.size := by rw [← hn1]; exact hnl
                show (ca.toList.take o ++ new' ++ ca.toList.drop (o + new'.length)).length = L.size
                rw [List.length_append, List.length_append, htk, List.length_drop, Array.length_toList (xs := ca)]
                omega
               obtain ⟨_, hR'⟩ := hdrop.bind hnew (L := ⟨L.blk, o, L.size, i.size, none, none⟩) rfl rfl (fun j M p e1 e2 e => hR.pinApart j M p id _ L e1 e2 hlt hg hL e.symm) (fun b p e => (hR.memApart b p id _ L e hlt hg hL).symm) (hR.at hL hg).1 (by
                 intro j p M hj e1 e2 e
                 have hne : id ≠ j := by
                  intro e'
                  subst e'
                  rw [get_drop (by have := hR.lim; omega) (by have := hR.lim; omega), if_pos rfl] at e1
                  exact absurd e1 (by simp)
                 rw [get_drop (by have := hR.lim; omega) (by have := hR.lim; have : j < σ.next := hj; omega), if_neg hne] at e1
                 exact hne (hR.apart id j _ _ L M hlt hj hg e1 hL e2 e.symm))
                (w' := w.setRow L.blk (ca.toList.take o ++ new' ++ ca.toList.drop (o + new'.length)).toArray)
                rfl rfl rfl (by simp) (fun b hb' _ => setRow_other w _ _ _ hb') (fun b hb' hge => by rw [setRow_other w _ _ _ hb']; exact Array.getElem?_eq_none hge) (fun cs2 e2 k2 he hx => by cases he; exact (T.noEx hx).elim) (by
                 rw [setRow_heap w L.blk ca _ ce' fr hh]
                 refine ⟨(cells_ty hR hL hg hh).trans hce, hrow, rfl, ?_, ?_, ?_⟩
                 ·rw [hrow]; show o + new.length ≤ L.size; rw [hnl]; exact hsz
                 ·rcases d4 with e | e
                  ·exact .inl e
                  ·right; rw [hrow, ← d1]; exact e
                 ·intro j v hj
                  have hgl : j < new'.length := by
                   rw [← hn1]
                   rcases Nat.lt_or_ge j new.length with g2 | g2
                   ·exact g2
                   ·rw [List.getElem?_eq_none g2] at hj; exact absurd hj (by simp)
                  refine ⟨new'[j], ?_, (hnr.2 _ v _ hj (List.getElem?_eq_getElem hgl)).mono hle⟩
                  simp only [List.getElem?_toArray, List.append_assoc]
                  rw [List.getElem?_append_right (by rw [htk]; show o ≤ o + j; omega), htk, List.getElem?_append_left (by show o + j - o < new'.length; omega)]
                  have e : o + j - o = j := by omega
                  rw [e]
                  exact List.getElem?_eq_getElem hgl)
               refine ⟨_, _, _, hrun2, hle, .inr ⟨_, _, rfl, ?_, hR'⟩⟩
               have := VRel.sliceO (ρ := ρ.put id' ⟨L.blk, o, L.size, i.size, none, none⟩) (id := id') (o := 0) (n := 0 + n) (c := c) (Rho.put_same _ _ _) hroom' (by
                show o + 0 + c * i.size = L.size
                rw [← hc, Nat.add_zero])
               simp only [Nat.zero_add] at this ⊢
               exact this
              ·obtain ⟨v', w', ρ', a, b, c, d⟩ := app_out (ty := ty) (hR.drop id (hR.lt hL)) T hzs (b := some ⟨L.blk, o, none⟩) (len := 0) (cap := c) (old := []) (old' := []) A (by omega)
                (by simp [Builtin.firstCells, loadCells, loadCellsFrom]) args ha hb (by simpa using hby) (by simpa using hmx) .nil hnr (by simp) hnl (by simpa using hnew)
               simp only [Nat.zero_add] at c
               exact ⟨v', w', ρ', a, b, .inr ⟨_, _, rfl, c, d⟩⟩
             ·exact absurd h (by simp)
          ·exact absurd h (by simp)
         ·exact absurd h (by simp)
       ·rename_i k' nm ff es
        simp only [lenOfA] at hby hmx
        obtain ⟨a0, c, g, rfl, hc, hex, hN, hsz, hA, hm⟩ := hs.lst_inv
        split at h
        ·cases h
         simp only [Nat.zero_mul] at hnl
         have : new' = [] := List.eq_nil_of_length_eq_zero (by rw [← hnr.1]; exact hnl)
         subst this
         cases a0 with
         | none =>
          have hc0 := hN rfl
          subst hc0
          have hs0 : es.size = 0 := by omega
          have hb1 : args[0]? = some (.slice none 0 0) := by rw [ha, hs0]
          refine ⟨.slice none 0 0, w, ρ, run_append_nil T A args hb1 hb, ρ.le_refl, .inl ⟨_, rfl, ?_, hR⟩⟩
          rw [hs0] at hs
          exact hs
         | some a =>
          refine ⟨_, w, ρ, run_append_in (n := 0) T rfl A (by omega) (by simp [storeCells]) args ha hb, ρ.le_refl, .inl ⟨_, rfl, hs, hR⟩⟩
        ·have hn0 : n ≠ 0 := by assumption
         split at h
         ·rename_i ag hb2 hag
          simp only [Bool.and_eq_true] at hb2
          obtain ⟨⟨hkk, hpu⟩, hnx⟩ := hb2
          have hkk := beq_t hkk
          subst hkk
          have hnx := blt_t hnx
          obtain ⟨l1, l2, l3⟩ := lst_cells hR hsz hA hm
          -- into a new block
          have out : ∀ toks, (∀ τ, τ ∈ toks → τ ∈ σ.toks) → toks.Nodup → (ag || Nat.beq i.size 1) = true → c < es.size + n →
            ∃ v' w' ρ', (Builtin.append_ ts ty args).run P w = .ok v' w' ∧ ρ.le ρ' ∧ VRel ρ' (tls i.size σ.next (es ++ (elemsOf ag i.size n new).toArray)) v' ∧ R w0 S (σ.newTok toks) ρ' w' := by
           intro toks ht1 ht2 hk1 hcl
           have hf3 : (Builtin.firstCells i.size es.size (.slice a0 es.size c)).run P w.drew = .ok ((List.range (es.size * i.size)).map g).toArray w.drew := by
            cases a0 with
            | none =>
             have h0 : c = 0 := hN rfl
             have h1 : es.size = 0 := by omega
             rw [h1]
             simp [Builtin.firstCells]
            | some a =>
             have r2 := run_loadCells_list (P := P) w.drew a ((List.range (es.size * i.size)).map g) (by simpa using l3 a rfl)
             simp only [List.length_map, List.length_range] at r2
             simpa [Builtin.firstCells] using r2
           have hrun := run_append_out (ty := ty) T A hcl hf3 args ha hb hby hmx
           have hn1 := hnr.1
           have hgr := grown_ge (w := w) (need := es.size + n) (old := c) (e := elem)
           have hz := size_zeroCells z.cells (grownCap w (es.size + n) c elem - (es.size + n))
           obtain ⟨row, hrowd⟩ : ∃ row : Array Value, row = ((((List.range (es.size * i.size)).map g) ++ new') ++ (Builtin.zeroCells z.cells (grownCap w (es.size + n) c elem - (es.size + n))).toList).toArray := ⟨_, rfl⟩
           have hrsz : row.size = grownCap w (es.size + n) c elem * i.size := by
            rw [hrowd]
            simp only [List.size_toArray, List.length_append, List.length_map, List.length_range, Array.length_toList, hz, hzs, ← hn1, hnl]
            rw [← Nat.add_mul, ← Nat.add_mul]
            congr 1
            omega
           obtain ⟨pfx, hpfx⟩ : ∃ pfx : Array Value, pfx = (((List.range (es.size * i.size)).map g) ++ new').toArray := ⟨_, rfl⟩
           have hpsz : pfx.size = (es.size + n) * i.size := by
            rw [hpfx]
            simp only [List.size_toArray, List.length_append, List.length_map, List.length_range, ← hn1, hnl]
            rw [Nat.add_mul]
           have hR1 := hR.drew
           have hst := hR1.tokStep (w' := w.drew.alloc (.cells row elem)) (B := w.drew.heap.size) (pfx := pfx) (row := row) (te := elem) (fr := (0, 0)) (size := row.size) (toks := toks) rfl rfl rfl (by show _ ≤ (w.drew.heap.push _).size; rw [Array.size_push]; omega)
            (fun b _ hlt => heap_alloc_old _ _ _ hlt) (fun b hb hge => by
             apply Array.getElem?_eq_none
             show (w.drew.heap.push _).size ≤ b
             rw [Array.size_push]
             omega) (heap_alloc_new _ _) (fun j v hv => by
             rw [hpfx, List.getElem?_toArray] at hv
             rw [hrowd, List.getElem?_toArray, List.getElem?_append_left (List.getElem?_eq_some_iff.1 hv).1]
             exact hv) rfl (.inl rfl) (hR1.own _ hR1.size) (fun a e => by
             obtain ⟨_, _, _, q, _⟩ := hR1.mem _ _ e
             rw [Array.getElem?_eq_none (Nat.le_refl _)] at q
             exact absurd q (by simp)) (fun j o M hj ej hM e => by
             have := hR1.blk_lt hM ej
             omega) (fun j M p e1 e2 e => by
             have := hR1.pins j M p e1 e2
             rw [e, Array.getElem?_eq_none (Nat.le_refl _)] at this
             exact absurd this (by simp)) ht1 ht2 (fun τ U ht hU e => by
             obtain ⟨_, T2, q2, q3⟩ := hR1.tok τ (ht1 τ ht)
             rw [hU] at q2
             cases q2
             obtain ⟨_, a2, c2, fr2, _, _, q4, _⟩ := q3 U rfl
             have := heap_lt q4
             omega) hnx
           obtain ⟨hle, hR2⟩ := hst
           have hvr := tok_rel (ρ := ρ) (k := i.size) (n := es.size) (m := n) (c := grownCap w (es.size + n) c elem) (o := 0) (B := w.drew.heap.size) (es := es) (new := new) (new' := new') (ag := ag) (A0 := a0) (g := g) (pfx := pfx) (τ := σ.next) hle hk1 hone hpu rfl hnl hnr (by omega) hsz hm
            (by simp [Rho.grown]) (fun q hq => by
             rw [hpfx, Nat.zero_add, List.getElem?_toArray, List.getElem?_append_left (by simpa using hq), List.getElem?_map, List.getElem?_range hq]
             rfl) (fun q v hv => by
             rw [hpfx, Nat.zero_add, List.getElem?_toArray, List.getElem?_append_right (by simp)]
             simpa using hv) (by simp only [Rho.grown, if_true]; rfl) rfl (by simp only [hpsz]; omega) (by simp only [hrsz]; omega) hgr
           rw [hrowd] at hR2 hle hvr
           exact ⟨_, _, _, hrun, hle, hvr, hR2⟩
          split at h
          ·rename_i τ hto
           split at h
           ·rename_i hct
            cases h
            simp only [Bool.and_eq_true] at hct
            obtain ⟨hct, hk1⟩ := hct
            have hmem : τ ∈ σ.toks := List.contains_iff_mem.1 hct
            obtain ⟨A1, c1, T1, e1, hT1, hTA⟩ := hs.tok_inv hto
            cases e1
            have hsub : ∀ τ', τ' ∈ σ.toks.erase τ → τ' ∈ σ.toks := fun τ' h => List.mem_of_mem_erase h
            have hnd := hR.tokNd.erase τ
            cases T1 with
            | none =>
             have hTA : c = es.size := hTA
             obtain ⟨v', w', ρ', q1, q2, q3, q4⟩ := out _ hsub hnd hk1 (by omega)
             exact ⟨v', w', ρ', q1, q2, .inr ⟨_, _, rfl, q3, q4⟩⟩
            | some U =>
             rcases Nat.lt_or_ge c (es.size + n) with hcl | hcl
             ·obtain ⟨v', w', ρ', q1, q2, q3, q4⟩ := out _ hsub hnd hk1 hcl
              exact ⟨v', w', ρ', q1, q2, .inr ⟨_, _, rfl, q3, q4⟩⟩
             ·-- in its place
              obtain ⟨o, rfl, ho1, ho2⟩ := hTA
              obtain ⟨_, T2, u2, u3⟩ := hR.tok τ hmem
              rw [hT1] at u2
              cases u2
              obtain ⟨uS, a, ca, fr, m1, m2, m3, m4, m5⟩ := u3 U rfl
              obtain ⟨_, _, _, m6, mpre⟩ := hR.mem _ _ m1
              rw [m3] at m6
              cases m6
              have hn1 := hnr.1
              have hoff : U.off + new'.length ≤ ca.size := by
               rw [← hn1, hnl, m4, ← ho1, Nat.add_assoc, ← Nat.add_mul]
               have : (es.size + n) * i.size ≤ c * i.size := Nat.mul_le_mul_right _ hcl
               omega
              have hst := run_storeFr (P := P) U.blk U.off U.te fr new' 0 ca w m3 m5 (by omega) (hnr.cell hone)
              simp only [Nat.add_zero] at hst
              obtain ⟨row, hrowd⟩ : ∃ row : Array Value, row = (ca.toList.take U.off ++ new' ++ ca.toList.drop (U.off + new'.length)).toArray := ⟨_, rfl⟩
              rw [← hrowd] at hst
              have htk : (ca.toList.take U.off).length = U.off := by simp; omega
              have hrsz : row.size = ca.size := by
               rw [hrowd]
               simp only [List.size_toArray, List.length_append, htk, List.length_drop, Array.length_toList]
               omega
              have hrow1 : ∀ q v, q < U.off → ca[q]? = some v → row[q]? = some v := by
               intro q v hq hv
               rw [hrowd, List.getElem?_toArray, List.append_assoc, List.getElem?_append_left (by omega), List.getElem?_take, if_pos hq, Array.getElem?_toList]
               exact hv
              have hrow2 : ∀ q v, new'[q]? = some v → row[U.off + q]? = some v := by
               intro q v hv
               rw [hrowd, List.getElem?_toArray, List.append_assoc, List.getElem?_append_right (by omega), htk, List.getElem?_append_left (by have := (List.getElem?_eq_some_iff.1 hv).1; omega)]
               rw [← hv]
               congr 1
               omega
              have hrun := app_in (ty := ty) T A hcl (b := U.blk) (o := o) (by rw [ho1]; exact hst) args ha hb
              obtain ⟨pfx, hpfx⟩ : ∃ pfx : Array Value, pfx = row.extract 0 (U.off + new'.length) := ⟨_, rfl⟩
              have hpsz : pfx.size = U.off + new'.length := by rw [hpfx]; simp; omega
              have hpget : ∀ q, q < U.off + new'.length → pfx[q]? = row[q]? := by
               intro q hq
               rw [hpfx, Array.getElem?_extract, if_pos (by omega), Nat.zero_add]
              have hstep := hR.tokStep (w' := w.setRow U.blk row) (B := U.blk) (pfx := pfx) (row := row) (te := U.te) (fr := fr) (size := U.size) (toks := σ.toks.erase τ) rfl rfl rfl (by simp)
               (fun b hb' _ => setRow_other w _ _ _ hb') (fun b hb' hge => by rw [setRow_other w _ _ _ hb']; exact Array.getElem?_eq_none hge) (setRow_heap w U.blk ca _ U.te fr m3) (fun j v hv => by
                have hj := (Array.getElem?_eq_some_iff.1 hv).1
                rw [hpget j (by omega)] at hv
                exact hv) (hrsz.trans m4) (by rcases m5 with e | e; exact .inl e; right; omega) uS (fun a2 e => by
                rw [m1] at e
                cases e
                intro j v hv
                have hj := (Array.getElem?_eq_some_iff.1 hv).1
                rw [hpget j (by omega)]
                exact hrow1 j v (by omega) (mpre j v hv)) (fun j o2 M hj ej hM => hR.memApart _ _ j o2 M m1 hj ej hM) (fun j M p e1 e2 => hR.tokPin τ U j M p hmem hT1 e1 e2) hsub hnd (fun τ' U' ht hU' e => by
                have := hR.tokInj τ' τ U' U (hsub τ' ht) hmem hU' hT1 e
                subst this
                exact (List.Nodup.not_mem_erase hR.tokNd) ht) hnx
              obtain ⟨hle, hR2⟩ := hstep
              have hvr := tok_rel (ρ := ρ) (k := i.size) (n := es.size) (m := n) (c := c) (o := o) (B := U.blk) (es := es) (new := new) (new' := new') (ag := ag) (A0 := none) (g := g) (pfx := pfx) (τ := σ.next) (T := ⟨U.blk, pfx.size, U.size, U.te⟩) hle hk1 hone hpu rfl hnl hnr (by omega) hsz hm
               (by simp [Rho.grown]) (fun q hq => by
                rw [hpget _ (by omega)]
                have hes : 0 < es.size := by
                 rcases Nat.eq_zero_or_pos es.size with h0 | h0
                 ·rw [h0] at hq; simp at hq
                 ·exact h0
                obtain ⟨a2, ea, hrw⟩ := hA hes
                cases ea
                have hcell := hrw q hq
                rw [add_none] at hcell
                unfold memCell at hcell
                simp only [m1] at hcell
                exact hrow1 _ _ (by omega) (mpre _ _ hcell)) (fun q v hv => by
                have hq := (List.getElem?_eq_some_iff.1 hv).1
                have e3 : o + (es.size * i.size + q) = U.off + q := by omega
                rw [e3, hpget _ (by omega)]
                exact hrow2 q v hv) (by simp only [Rho.grown, if_true]) rfl (by simp only [hpsz, ← hn1, hnl]; rw [Nat.add_mul]; omega) (by simp only; exact ho2) hcl
              exact ⟨_, _, _, hrun, hle, .inr ⟨_, _, rfl, hvr, hR2⟩⟩
           ·exact absurd h (by simp)
          ·rename_i hto hxe
           split at h
           ·rename_i hk1
            cases h
            have hcc := hex hxe
            obtain ⟨v', w', ρ', q1, q2, q3, q4⟩ := out _ (fun _ h => h) hR.tokNd hk1 (by omega)
            exact ⟨v', w', ρ', q1, q2, .inr ⟨_, _, rfl, q3, q4⟩⟩
           ·exact absurd h (by simp)
          ·exact absurd h (by simp)
         ·exact absurd h (by simp)
       ·exact absurd h (by simp)
      ·exact absurd h (by simp)
    ·exact absurd h (by simp)
 ·exact absurd h (by simp)
end
end Vx
end Go
set_option linter.unusedVariables false
set_option linter.unusedSimpArgs false
namespace Go
namespace Vx
section
variable {P : Program} {w0 : World} {S : Own} {σ : AW} {ρ : Rho} {w : World}
theorem run_pureOf {α : Type} {P : Program} : ∀ (s : Sem α) (a : α), pureOf P s = some a → ∀ w, s.run P w = .ok a w := by
 intro s
 induction s with
 | pure a => intro b h w; simp [pureOf] at h; subst h; rfl
 | program k ih => intro b h w; simp only [pureOf] at h; exact ih P b h w
 | mark m k ih => intro b h w; simp only [pureOf] at h; exact ih b h w
 | _ => intro b h; simp [pureOf] at h
theorem extract_rel {a b : Array Value} (h : ARel ρ a b) (i j : Nat) : ARel ρ (a.extract i j) (b.extract i j) := by
 refine ⟨by simp [h.1], fun k v v' x y => ?_⟩
 rw [Array.getElem?_extract] at x y
 split at x
 ·rename_i c
  rw [if_pos (by rw [← h.1]; exact c)] at y
  exact h.2 _ v v' x y
 ·exact absurd x (by simp)
theorem ARel.get {a b : Array Value} (h : ARel ρ a b) {i : Nat} {v : Value} (hv : a[i]? = some v) : ∃ v', b[i]? = some v' ∧ VRel ρ v v' := by
 have hi : i < a.size := by
  rcases Nat.lt_or_ge i a.size with g | g
  ·exact g
  ·rw [Array.getElem?_eq_none g] at hv; exact absurd hv (by simp)
 have hj : i < b.size := by rw [← h.1]; exact hi
 exact ⟨b[i], Array.getElem?_eq_getElem hj, h.2 i v _ hv (Array.getElem?_eq_getElem hj)⟩
theorem ok_part {t : TypeId} {a b : Array Value} {off : Nat} {v : Value} (h : partA P t a off = some v) (hr : ARel ρ a b) :
  ∃ v', (part t b off).run P w = .ok v' w ∧ VRel ρ v v' := by
 unfold partA at h
 split at h
 ·rename_i n h1 h2
  cases h
  have := extract_rel hr off (off + n)
  exact ⟨.agg (b.extract off (off + n)), by simp [part, run_isAggT h1, run_sizeT h2], .agg this.1 this.2⟩
 ·rename_i h1
  obtain ⟨v', hv', hrel⟩ := hr.get h
  exact ⟨v', by simp [part, run_isAggT h1, hv'], hrel⟩
 ·exact absurd h (by simp)
theorem ok_fieldv {t : TypeId} {x x' v : Value} {f : Nat} (h : fieldA P t x f = some v) (hx : VRel ρ x x') :
  ∃ v', (Instr.field t x' f).run P w = .ok v' w ∧ VRel ρ v v' := by
 unfold fieldA at h
 split at h
 ·rename_i fs cs hu
  split at h
  ·rename_i fd hf
   cases hx with
   | pure _ hpp => exact absurd hpp (by simp [isP])
   | agg h1 h2 =>
    obtain ⟨v', a, b⟩ := ok_part (P := P) (w := w) h ⟨h1, h2⟩
    exact ⟨v', by simp [Instr.field, run_underlying hu, hf, asAgg, a], b⟩
  ·exact absurd h (by simp)
 ·exact absurd h (by simp)
theorem equal_eq (t : TypeId) (x y : Value) : Op.equal t x y = Op.equalIn (9999 + 1) t x y := rfl
theorem ok_equalNil {t : TypeId} {x y x' y' : Value} {b : Bool} (h : eqNil P t x y = some b) (hx : VRel ρ x x') (hy : VRel ρ y y') :
  (Op.equal t x' y').run P w = .ok b w ∧ (∀ op xo yo, (eqGuard op t xo yo x' y').run P w = .ok () w) ∧
   binOp .eql t x' y' = (do pure (.bool (← Op.equal t x' y'))) ∧ binOp .neq t x' y' = (do pure (.bool (!(← Op.equal t x' y')))) := by
 unfold eqNil at h
 split at h
 case h_15 => simp at h
 case h_7 =>
  rename_i k nm f es n c e hu
  split at h
  ·simp at h
  ·rename_i hne
   simp only [Option.some.injEq] at h
   subst h
   obtain ⟨A, c2, g, rfl, _, _, _, _, hA, _⟩ := hx.lst_inv
   obtain ⟨a, rfl, _⟩ := hA (Nat.pos_of_ne_zero (fun e => hne e))
   cases hy with
   | pure _ hpp => exact absurd hpp (by simp [isP])
   | slice0 =>
    refine ⟨?_, ?_, rfl, rfl⟩
    ·rw [equal_eq, Op.equalIn, Sem.run_bind, run_underlying hu]; rfl
    ·intro op xo yo; cases op <;> rfl
 case h_9 =>
  rename_i o f cs e hu
  simp only [Option.some.injEq] at h
  subst h
  obtain ⟨a, g, rfl, _, _⟩ := hx.fpt_inv
  cases hy with
  | pure _ hpp => exact absurd hpp (by simp [isP])
  | ptr0 =>
   refine ⟨?_, ?_, rfl, rfl⟩
   ·rw [equal_eq, Op.equalIn, Sem.run_bind, run_underlying hu]; rfl
   ·intro op xo yo; cases op <;> rfl
 case h_10 =>
  rename_i o f cs e hu
  simp only [Option.some.injEq] at h
  subst h
  obtain ⟨a, g, rfl, _, _⟩ := hy.fpt_inv
  cases hx with
  | pure _ hpp => exact absurd hpp (by simp [isP])
  | ptr0 =>
   refine ⟨?_, ?_, rfl, rfl⟩
   ·rw [equal_eq, Op.equalIn, Sem.run_bind, run_underlying hu]; rfl
   ·intro op xo yo; cases op <;> rfl
 all_goals
  rename_i hu
  simp only [Option.some.injEq] at h
  subst h
  cases hx <;> cases hy <;> first
   | (simp [isP] at *; done)
   | (refine ⟨?_, ?_, ?_, ?_⟩ <;> first
    | (rw [equal_eq, Op.equalIn, Sem.run_bind, run_underlying hu]; rfl)
    | (intro op xo yo; cases op <;> rfl)
    | rfl)
theorem ok_eqNil {t : TypeId} {x y x' y' : Value} {b : Bool} (h : eqNil P t x y = some b) (hx : VRel ρ x x') (hy : VRel ρ y y') (op : BinOp) (xo yo : Operand)
  (hop : op = .eql ∨ op = .neq) :
  (do eqGuard op t xo yo x' y'; binOp op t x' y' : Sem Value).run P w = .ok (.bool (if op = .eql then b else !b)) w := by
 obtain ⟨h1, h2, h3, h4⟩ := ok_equalNil (w := w) h hx hy
 rcases hop with rfl | rfl
 ·simp [h2, h3, h1]
 ·simp [h2, h4, h1]
def PaRel (ρ : Rho) (a b : List (Nat × Value)) : Prop := a.length = b.length ∧ ∀ (i : Nat) (x y : Nat × Value), a[i]? = some x → b[i]? = some y → x.1 = y.1 ∧ VRel ρ x.2 y.2
theorem set_rel {a b : Array Value} (h : ARel ρ a b) {v v' : Value} (hv : VRel ρ v v') (i : Nat) : ARel ρ (a.setIfInBounds i v) (b.setIfInBounds i v') := by
 refine ⟨by simp [h.1], fun k u u' x y => ?_⟩
 rw [Array.getElem?_setIfInBounds] at x y
 split at x
 ·rename_i e
  rw [if_pos e] at y
  split at x
  ·rename_i g
   rw [if_pos (by rw [← h.1]; exact g)] at y
   cases x; cases y; exact hv
  ·exact absurd x (by simp)
 ·rename_i e
  rw [if_neg e] at y
  exact h.2 k u u' x y
theorem fold_rel (off : Nat) : ∀ (l l' : List Value) (j : Nat) (a b : Array Value), LRel ρ l l' → ARel ρ a b →
  ARel ρ ((l.zipIdx j).foldl (fun cs (c, j) => cs.setIfInBounds (off + j) c) a) ((l'.zipIdx j).foldl (fun cs (c, j) => cs.setIfInBounds (off + j) c) b)
 | [], l', j, a, b, h, hab => by
  have : l' = [] := List.eq_nil_of_length_eq_zero h.1.symm
  subst this
  exact hab
 | x :: l, l', j, a, b, h, hab => by
  obtain ⟨y, m, rfl, hxy, hm⟩ := h.of_cons
  simp only [List.zipIdx_cons, List.foldl_cons]
  exact fold_rel off l m (j + 1) _ _ hm (set_rel hab hxy _)
theorem fill_rel (place : Nat → Option (Nat × Nat)) : ∀ (l l' : List (Nat × Value)) (a b : Array Value) (r : Array Value), PaRel ρ l l' → ARel ρ a b → Instr.fill place a l = some r →
  ∃ r', Instr.fill place b l' = some r' ∧ ARel ρ r r'
 | [], l', a, b, r, h, hab, hr => by
  have : l' = [] := List.eq_nil_of_length_eq_zero h.1.symm
  subst this
  simp only [Instr.fill, Option.some.injEq] at hr
  subst hr
  exact ⟨b, rfl, hab⟩
 | (i, v) :: l, l', a, b, r, h, hab, hr => by
  cases l' with
  | nil => have := h.1; simp at this
  | cons y m =>
   obtain ⟨i', v'⟩ := y
   obtain ⟨e1, e2⟩ := h.2 0 (i, v) (i', v') rfl rfl
   simp only at e1 e2
   subst e1
   have hm : PaRel ρ l m := ⟨by have := h.1; simpa using this, fun k x y hx hy => h.2 (k + 1) x y (by simpa using hx) (by simpa using hy)⟩
   unfold Instr.fill at hr ⊢
   cases hp : place i with
   | none => rw [hp] at hr; exact absurd hr (by simp)
   | some q =>
    obtain ⟨off, size⟩ := q
    rw [hp] at hr
    simp only at hr ⊢
    have hc := e2.cells
    have hcs : v'.cells.size = v.cells.size := by have := hc.1; simpa using this.symm
    have hz1 : v.cells.zipIdx = (v.cells.toList.zipIdx).toArray := by apply Array.ext'; simp
    have hz2 : v'.cells.zipIdx = (v'.cells.toList.zipIdx).toArray := by apply Array.ext'; simp
    rw [hcs, ← hab.1]
    split at hr
    ·exact absurd hr (by simp)
    ·rename_i hcond
     rw [if_neg hcond]
     rw [hz1, List.foldl_toArray] at hr
     rw [hz2, List.foldl_toArray]
     exact fill_rel place l m _ _ r hm (fold_rel off _ _ 0 _ _ hc hab) hr
theorem plain_cells {z : Value} (h : plain z = true) : ARel ρ z.cells z.cells := by
 have := (plain_rel ρ h).cells
 exact ⟨rfl, fun i v v' x y => this.2 i v v' (by simpa using x) (by simpa using y)⟩
theorem ok_build {t : TypeId} {ps ps' : Array (Nat × Value)} {v : Value} (h : buildA P t ps = some v) (hp : PaRel ρ ps.toList ps'.toList) :
  ∃ v', (Instr.build t ps').run P w = .ok v' w ∧ VRel ρ v v' := by
 unfold buildA at h
 split at h
 ·rename_i z hz
  have hrun := run_pureOf _ _ h w
  have hpl := plain_cells (ρ := ρ) (zeroT_plain hz)
  unfold Instr.build at hrun ⊢
  simp only [Sem.run_bind, run_zeroT hz, Result.andThen_ok] at hrun ⊢
  cases hu : P.underlying t with
  | none => simp [underlying, hu] at hrun
  | some d =>
   simp only [run_underlying hu, Result.andThen_ok] at hrun ⊢
   cases d <;> simp only [Sem.run_bind, run_stuck] at hrun ⊢
   case array n e =>
    cases hk : (sizeOf e).run P w with
    | halt hh ww => rw [hk] at hrun; simp at hrun
    | ok k w1 =>
     rw [hk] at hrun
     simp only [Result.andThen_ok] at hrun ⊢
     cases hf : Instr.fill (fun i => some (i * k, k)) z.cells ps.toList with
     | none => rw [hf] at hrun; simp at hrun
     | some r =>
      rw [hf] at hrun
      simp only [Sem.run_pure, Result.ok.injEq] at hrun
      obtain ⟨r', hr', hrel⟩ := fill_rel _ _ _ _ _ r hp hpl hf
      rw [hr']
      refine ⟨.agg r', by rw [hrun.2]; rfl, ?_⟩
      rw [← hrun.1]
      exact .agg hrel.1 hrel.2
   case struct fs =>
    generalize hX : (fs.mapM fun f => do pure (f.offset, ← sizeOf f.type) : Sem (Array (Nat × Nat))) = X at hrun ⊢
    cases hk : X.run P w with
    | halt hh ww => rw [hk] at hrun; simp at hrun
    | ok k w1 =>
     rw [hk] at hrun
     simp only [Result.andThen_ok] at hrun ⊢
     cases hf : Instr.fill (k[·]?) z.cells ps.toList with
     | none => rw [hf] at hrun; simp at hrun
     | some r =>
      rw [hf] at hrun
      simp only [Sem.run_pure, Result.ok.injEq] at hrun
      obtain ⟨r', hr', hrel⟩ := fill_rel _ _ _ _ _ r hp hpl hf
      rw [hr']
      refine ⟨.agg r', by rw [hrun.2]; rfl, ?_⟩
      rw [← hrun.1]
      exact .agg hrel.1 hrel.2
   all_goals simp at hrun
 ·exact absurd h (by simp)
end
end Vx
end Go
set_option linter.unusedVariables false
set_option linter.unusedSimpArgs false
namespace Go
namespace Vx
section
variable {P : Program} {w0 : World} {S : Own} {σ : AW} {ρ : Rho} {w : World}
theorem madeRow_rel {z : Array Value} (h : ARel ρ z z) (n : Nat) (hz : 0 < z.size) : ARel ρ (madeRow z n) (madeRow z n) := by
 refine ⟨rfl, fun i v v' x y => ?_⟩
 rw [x] at y; cases y
 have hi : i < n := by
  have hs : (madeRow z n).size = n := by simp [madeRow]
  rcases Nat.lt_or_ge i n with g | g
  ·exact g
  ·rw [Array.getElem?_eq_none (by omega)] at x; exact absurd x (by simp)
 simp only [madeRow, Array.getElem?_map, Array.getElem?_range, if_pos hi, Option.map_some, Option.some.injEq] at x
 have hm : i % z.size < z.size := Nat.mod_lt _ hz
 rw [getElem!_pos z _ hm] at x
 exact h.2 (i % z.size) v v (by rw [Array.getElem?_eq_getElem hm, x]) (by rw [Array.getElem?_eq_getElem hm, x])
theorem toList_app_nil (r : Array Value) : (r.toList ++ []).toArray = r := by apply Array.ext'; simp
theorem ok_row (hR : R w0 S σ ρ w) {a b : Array Value} {elem id len n : Nat} {σ' : AW} (h : newCells P σ a.toList elem = some (id, σ')) (hr : ARel ρ a b) (hle : len ≤ n) (hn : n ≤ 2 ^ 64) :
  ∃ ρ', ρ.le ρ' ∧ VRel ρ' (.slice (some ⟨id, 0, none⟩) len n) (.slice (some ⟨w.heap.size, 0, none⟩) len n) ∧ R w0 S σ' ρ' (w.alloc (.cells b elem)) := by
 obtain ⟨k, _, h1, h2⟩ := ok_new hR h hr.toL [] (0, 0) (.inl rfl) (fun _ => rfl)
 rw [toList_app_nil] at h2
 refine ⟨_, h1, ?_, h2⟩
 have := VRel.sliceX (ρ := ρ.put id ⟨w.heap.size, 0, (b.toList ++ []).length, k, none, none⟩) (id := id) (o := 0) (n := len) (c := n) (Rho.put_same _ _ _) hn hle
 exact this
theorem ok_var (hR : R w0 S σ ρ w) {a b : Array Value} {elem id : Nat} {σ' : AW} (h : newCells P σ a.toList elem = some (id, σ')) (hr : ARel ρ a b) :
  ∃ ρ', ρ.le ρ' ∧ VRel ρ' (.pointer (some ⟨id, 0, none⟩)) (.pointer (some ⟨w.heap.size, 0, none⟩)) ∧ R w0 S σ' ρ' (w.alloc (.cells b elem)) := by
 obtain ⟨k, _, h1, h2⟩ := ok_new hR h hr.toL [] (0, 0) (.inl rfl) (fun _ => rfl)
 rw [toList_app_nil] at h2
 refine ⟨_, h1, ?_, h2⟩
 have := VRel.ptr (ρ := ρ.put id ⟨w.heap.size, 0, (b.toList ++ []).length, k, none, none⟩) (id := id) (o := 0) (Rho.put_same _ _ _)
 exact this
theorem VRel.cellsA {v v' : Value} (h : VRel ρ v v') : ARel ρ v.cells v'.cells := by
 have := h.cells
 exact ⟨by simpa using this.1, fun i a b x y => this.2 i a b (by simpa using x) (by simpa using y)⟩
theorem bytesOf_eq : ∀ {l : List Value} {bs : List UInt8}, bytesOf l = some bs → ∃ ns : List Int, l = ns.map (Value.int .u8) ∧ bs = ns.map fun n => UInt8.ofNat n.toNat
 | [], bs, h => by simp [bytesOf] at h; exact ⟨[], rfl, h⟩
 | v :: l, bs, h => by
  unfold bytesOf at h
  split at h
  ·rename_i e; cases e
  ·rename_i n l' e
   cases e
   cases hb : bytesOf l with
   | none => rw [hb] at h; simp at h
   | some bs' =>
    rw [hb] at h
    simp only [Option.map_some, Option.some.injEq] at h
    obtain ⟨ns, e1, e2⟩ := bytesOf_eq hb
    exact ⟨n :: ns, by simp [e1], by rw [← h, e2]; rfl⟩
  ·exact absurd h (by simp)
theorem LRel.ints {k : IntKind} : ∀ {ns : List Int} {m : List Value}, LRel ρ (ns.map (Value.int k)) m → m = ns.map (Value.int k)
 | [], m, h => List.eq_nil_of_length_eq_zero h.1.symm
 | n :: ns, m, h => by
  obtain ⟨b, m', rfl, h1, h2⟩ := LRel.of_cons h
  rw [h1.int_inv, LRel.ints h2]
  rfl
theorem heap_freeze_other (w : World) (a : Addr) (n b : Nat) (h : b ≠ a.block) : (w.freeze a n).heap[b]? = w.heap[b]? := by
 unfold World.freeze
 split
 ·rfl
 ·simp only [Array.getElem?_modify]
  rw [if_neg (Ne.symm h)]
theorem ok_convert [hE : NoEx P S] (hR : R w0 S σ ρ w) {src dst : TypeId} {x x' : Value} {r : ARes} (h : convertA P σ src dst x = some r) (hx : VRel ρ x x') :
  ∃ v' w' ρ', (convert src dst x').run P w = .ok v' w' ∧ ρ.le ρ' ∧
   ((∃ v, r = .val v ∧ VRel ρ' v v' ∧ R w0 S σ ρ' w') ∨ (∃ v σ', r = .eff v σ' ∧ VRel ρ' v v' ∧ R w0 S σ' ρ' w')) := by
 unfold convertA at h
 split at h
 ·rename_i e s h1 h2
  have := hx.string_inv
  subst this
  split at h
  ·rename_i h3 h4
   have hbt : Nat.blt dst TB = true := by
    cases hq : Nat.blt dst TB with
    | true => rfl
    | false => rw [hq] at h4; simp at h4
   rw [hbt] at h4
   simp only at h4
   split at h
   ·rename_i id σ' hn
    cases h
    have hrun := run_bytes_of_string (P := P) w src dst e s h1 h2 h3
    have hpl : LRel ρ (s.data.toList.map fun (b : UInt8) => Value.int .u8 (b.toNat : Int)) (s.data.toList.map fun (b : UInt8) => Value.int .u8 (b.toNat : Int)) := by
     refine .plain ?_
     intro v hv
     simp at hv
     obtain ⟨b, _, rfl⟩ := hv
     rfl
    have hrow : (bytesRow s (grownCap w s.size 0 e)) = ((s.data.toList.map fun (b : UInt8) => Value.int .u8 (b.toNat : Int)) ++ List.replicate (grownCap w s.size 0 e - s.size) (Value.int .u8 0)).toArray := by
     unfold bytesRow
     apply Array.ext'
     simp
    obtain ⟨k, hk, a1, a2⟩ := ok_new hR.drew hn hpl (List.replicate (grownCap w s.size 0 e - s.size) (Value.int .u8 0))
     ((bytesRow s (grownCap w s.size 0 e)).size, (bytesRow s (grownCap w s.size 0 e)).size + 1) (.inr (by rw [hrow]; simp)) (fun hx => (hE.no _ _ (blt_t hbt) h2 hx).elim)
    rw [h4] at hk
    cases hk
    rw [← hrow] at a2
    refine ⟨_, _, _, hrun, a1, .inr ⟨_, _, rfl, ?_, a2⟩⟩
    have hsz : s.size = s.data.toList.length := by rw [Array.length_toList]; rfl
    have hg := grown_ge (w := w) (need := s.size) (old := 0) (e := e)
    have := VRel.sliceO (ρ := ρ.put id ⟨w.heap.size, 0, ((s.data.toList.map fun (b : UInt8) => Value.int .u8 (b.toNat : Int)) ++ List.replicate (grownCap w s.size 0 e - s.size) (Value.int .u8 0)).length, 1, none, none⟩) (id := id) (o := 0)
     (n := s.size) (c := grownCap w s.size 0 e) (Rho.put_same _ _ _) hg (by
      show 0 + 0 + grownCap w s.size 0 e * 1 = ((s.data.toList.map fun (b : UInt8) => Value.int .u8 (b.toNat : Int)) ++ List.replicate (grownCap w s.size 0 e - s.size) (Value.int .u8 0)).length
      rw [List.length_append, List.length_map, List.length_replicate, ← hsz]
      omega)
    exact this
   ·exact absurd h (by simp)
  ·exact absurd h (by simp)
 ·rename_i e h1 h2
  have := hx.slice0_inv
  subst this
  split at h
  ·rename_i h3
   cases h
   refine ⟨.string .empty, w, ρ, ?_, ρ.le_refl, .inl ⟨_, rfl, .string _, hR⟩⟩
   rw [run_convert_bytes_string w src dst e _ _ _ h1 h3 h2]
   simp [Conv.bytesToString]
  ·exact absurd h (by simp)
 ·rename_i e id off n c h1 h2
  split at h
  ·rename_i h3
   cases hrd : rdCells σ id off n with
   | none => rw [hrd] at h; simp at h
   | some l =>
    rw [hrd] at h
    simp only [Option.bind_some] at h
    cases hb : bytesOf l with
    | none => rw [hb] at h; simp at h
    | some bs =>
     rw [hb] at h
     simp only [Option.some.injEq] at h
     subst h
     obtain ⟨ns, e1, e2⟩ := bytesOf_eq hb
     have main : ∀ a : Addr, (loadCells a n).run P w = .ok (ns.map (Value.int .u8)).toArray w → ∀ c, (convert src dst (.slice (some a) n c)).run P w = .ok (.string ⟨bs.toArray⟩) w := by
      intro a hl c
      rw [run_convert_bytes_string w src dst e _ _ _ h1 h3 h2, run_bytesToString w _ n c ns hl, foldl_push_bytes, e2]
      simp [ByteArray.empty, ByteArray.emptyWithCapacity]
      rfl
     have ld : ∀ L, ρ id = some L → (loadCells ⟨L.blk, L.off + off, none⟩ n).run P w = .ok (ns.map (Value.int .u8)).toArray w := by
      intro L hL
      obtain ⟨l', hl, hrun, _⟩ := run_rd (P := P) hR hrd hL
      rw [hrun]
      subst e1
      rw [hl.ints]
     cases hx with
     | pure _ hpp => exact absurd hpp (by simp [isP])
     | sliceX hL _ _ => exact ⟨_, w, ρ, main _ (ld _ hL) _, ρ.le_refl, .inl ⟨_, rfl, .string _, hR⟩⟩
     | sliceO hL _ _ => exact ⟨_, w, ρ, main _ (ld _ hL) _, ρ.le_refl, .inl ⟨_, rfl, .string _, hR⟩⟩
     | sliceE hL _ =>
      have : ns = [] := by have := rd_len hrd; rw [e1] at this; simpa using this
      subst this
      exact ⟨_, w, ρ, main _ (by simp [loadCells, loadCellsFrom]) _, ρ.le_refl, .inl ⟨_, rfl, .string _, hR⟩⟩
  ·exact absurd h (by simp)
 ·rename_i e k nm f es h1 h2
  split at h
  ·rename_i h3
   split at h
   ·rename_i bs hk hb
    have hk := beq_t hk
    subst hk
    cases h
    obtain ⟨A, c, g, rfl, hc, _, hN, hs, hA, hm⟩ := hx.lst_inv
    obtain ⟨ns, e1, e2⟩ := bytesOf_eq hb
    have hlen : ns.length = es.size := by
     have := congrArg List.length e1
     simpa using this.symm
    obtain ⟨q1, q2, q3⟩ := lst_cells hR hs hA hm
    have hfl : flatL es = ns.map (Value.int .u8) := by
     unfold flatL
     rw [e1]
     clear e1 e2 hlen q1 q2 q3 hs hA hm hb
     induction ns with
     | nil => rfl
     | cons n ns ih => simp only [List.map_cons, List.flatMap_cons, ih]; rfl
    rw [hfl] at q2
    have q4 := q2.ints
    refine ⟨.string ⟨bs.toArray⟩, w, ρ, ?_, ρ.le_refl, .inl ⟨_, rfl, .string _, hR⟩⟩
    cases A with
    | none =>
     have h0 : es.size = 0 := by
      rcases Nat.eq_zero_or_pos es.size with h0 | h0
      ·exact h0
      ·obtain ⟨a, e, _⟩ := hA h0
       exact absurd e (by simp)
     have hn0 : ns = [] := List.eq_nil_of_length_eq_zero (by omega)
     subst hn0
     rw [run_convert_bytes_string w src dst e _ _ _ h1 h3 h2, h0, e2]
     simp [Conv.bytesToString]
     rfl
    | some a =>
     have r1 := run_loadCells_list (P := P) w a _ (q3 a rfl)
     rw [q4] at r1
     rw [List.length_map, hlen] at r1
     rw [run_convert_bytes_string w src dst e _ _ _ h1 h3 h2, run_bytesToString w _ es.size c ns r1, foldl_push_bytes, e2]
     simp [ByteArray.empty, ByteArray.emptyWithCapacity]
     rfl
   ·exact absurd h (by simp)
  ·exact absurd h (by simp)
 ·rename_i e1 e id off n c h1 h2
  split at h
  ·rename_i cs ce k h3 hg
   split at h
   ·rename_i hbt
    have hbt := beq_t hbt
    cases h
    subst hbt
    have main : ∀ (L : Loc) (o cc : Nat), ρ id = some L → ∃ w', (convert src src (.slice (some ⟨L.blk, o, none⟩) n cc)).run P w = .ok (.slice (some ⟨L.blk, o, none⟩) n cc) w' ∧ R w0 S σ ρ w' := by
     intro L o cc hL
     obtain ⟨ca, ce', fr, hh, d1, d2, d3, d4, d5⟩ := cells_of hR hL hg
     have hsh : w.shape? L.blk = some (ce', ca.size) := by simp [World.shape?, hh]
     refine ⟨w.freeze { block := L.blk, off := ca.size } 1, ?_, ?_⟩
     ·have h1' := h1
      simp [convert, run_underlying h2, run_underlying h3, markStringish, hsh]
     ·have hput : σ.put id (.cells cs ce k) = σ.put id (.cells cs ce k) := rfl
      have hR2 := hR.set hL hg (o' := .cells cs ce k) (w' := w.freeze { block := L.blk, off := ca.size } 1) (by simp [World.freeze]) (by simp [World.freeze]) (by simp [World.freeze]) (by simp [World.freeze])
       (fun b hb => heap_freeze_other _ _ _ _ hb) (fun cs2 e2 k2 he hx => by cases he; exact hR.exact _ _ _ _ _ (hR.lt hL) hg hL hx) (by
        have hm : (w.freeze { block := L.blk, off := ca.size } 1).heap[L.blk]? = some (.cells ca ce' (if fr.1 == fr.2 then (ca.size, ca.size + 1) else (min fr.1 ca.size, max fr.2 (ca.size + 1)))) := by
         unfold World.freeze
         rw [if_neg (by decide)]
         simp only [Array.getElem?_modify, if_true, hh, Option.map_some]
        rw [hm]
        refine ⟨cells_ty hR hL hg hh, d1, d2, d3, ?_, d5⟩
        right
        split
        ·exact Nat.le_refl _
        ·rename_i hne
         have hne : fr.1 ≠ fr.2 := by simpa using hne
         have : ca.size ≤ fr.1 := d4.resolve_left hne
         show ca.size ≤ min fr.1 ca.size
         omega)
      have lim := hR.lim
      have hlt := hR.lt hL
      exact { hR2 with
       pinInj := hR.pinInj
       pinVal := hR.pinVal
       pinApart := hR.pinApart
       memApart := hR.memApart
       memNew := hR.memNew
       memBase := hR.memBase
       tok := hR2.tok
       tokInj := hR.tokInj
       tokDom := hR.tokDom
       tokPin := hR.tokPin
       tokNd := hR.tokNd
       exact := hR.exact
       obj := fun i o hi ho => by
        refine hR2.obj i o hi ?_
        rw [get_put (by omega) (by have : i < σ.next := hi; omega)]
        split
        ·rename_i e; subst e; rw [hg] at ho; exact ho
        ·exact ho
       apart := fun i j oi oj Li Lj hi hj ei ej => hR.apart i j oi oj Li Lj hi hj ei ej }
    cases hx with
    | pure _ hpp => exact absurd hpp (by simp [isP])
    | sliceX hL a b => obtain ⟨w', x, y⟩ := main _ _ _ hL; exact ⟨_, w', ρ, x, ρ.le_refl, .inl ⟨_, rfl, .sliceX hL a b, y⟩⟩
    | sliceO hL a b => obtain ⟨w', x, y⟩ := main _ _ _ hL; exact ⟨_, w', ρ, x, ρ.le_refl, .inl ⟨_, rfl, .sliceO hL a b, y⟩⟩
    | sliceE hL a => obtain ⟨w', x, y⟩ := main _ _ _ hL; exact ⟨_, w', ρ, x, ρ.le_refl, .inl ⟨_, rfl, .sliceE hL a, y⟩⟩
   ·exact absurd h (by simp)
  ·exact absurd h (by simp)
 ·exact absurd h (by simp)
end
end Vx
end Go
set_option linter.unusedVariables false
set_option linter.unusedSimpArgs false
namespace Go
namespace Vx
section
variable {P : Program} {w0 : World} {S : Own} {σ : AW} {ρ : Rho} {w : World}
theorem MRel.of_cons {e : MapEntry} {l m : List MapEntry} (h : MRel ρ (e :: l) m) : ∃ f m', m = f :: m' ∧ e.born = f.born ∧ VRel ρ e.key f.key ∧ VRel ρ e.val f.val ∧ MRel ρ l m' := by
 cases m with
 | nil => have := h.1; simp at this
 | cons f m' =>
  obtain ⟨a, b, c⟩ := h.2 0 e f rfl rfl
  exact ⟨f, m', rfl, a, b, c, by have := h.1; simpa using this, fun i x y hx hy => h.2 (i + 1) x y (by simpa using hx) (by simpa using hy)⟩
theorem findA_now {j : IntKind} {a : Int} : ∀ {l m : List MapEntry} {i : Nat} {r : Option (Nat × Value)}, MRel ρ l m → findA (.int j a) l i = some r →
  ∃ r', Instr.findNow (.int j) (.int j a) m i = some r' ∧ ((r = none ∧ r' = none) ∨ ∃ n v v', r = some (n, v) ∧ r' = some (n, v') ∧ VRel ρ v v')
 | [], m, i, r, h, hf => by
  have : m = [] := List.eq_nil_of_length_eq_zero h.1.symm
  subst this
  simp only [findA, Option.some.injEq] at hf
  subst hf
  exact ⟨none, rfl, .inl ⟨rfl, rfl⟩⟩
 | e :: l, m, i, r, h, hf => by
  obtain ⟨f, m', rfl, hb, hk, hv, hm⟩ := h.of_cons
  unfold findA at hf
  split at hf
  ·rename_i j1 a1 j2 b1 ek hek
   cases ek
   rw [hek] at hk
   have hfk := hk.int_inv
   split at hf
   ·rename_i hj
    subst hj
    simp only [Instr.findNow, hfk, Instr.sameNow, if_true]
    split at hf
    ·rename_i hab
     subst hab
     simp only [Option.some.injEq] at hf
     subst hf
     exact ⟨some (i, f.val), by simp, .inr ⟨i, e.val, f.val, rfl, rfl, hv⟩⟩
    ·rename_i hab
     obtain ⟨r', h1, h2⟩ := findA_now hm hf
     refine ⟨r', ?_, h2⟩
     have : (a == b1) = false := by simpa using hab
     rw [this]
     exact h1
   ·exact absurd hf (by simp)
  ·exact absurd hf (by simp)
theorem keyOk_inv {kt : TypeId} {k : Value} (h : keyTypeOk P kt k = true) : ∃ j a, P.underlying kt = some (.int j) ∧ k = .int j a := by
 unfold keyTypeOk at h
 split at h
 ·rename_i j j' a hu
  have : j = j' := by simpa using h
  subst this
  exact ⟨j, a, hu, rfl⟩
 ·exact absurd h (by simp)
theorem run_checkKey {e : Bool} {kt : TypeId} {j : IntKind} {a : Int} (hu : P.underlying kt = some (.int j)) (w : World) : (Instr.checkKey e 10000 kt (.int j a)).run P w = .ok () w := by
 show (Instr.checkKey e (9999 + 1) kt (.int j a)).run P w = _
 rw [Instr.checkKey, Sem.run_bind, run_underlying hu]
 rfl
theorem run_findKey {kt : TypeId} {j : IntKind} {a : Int} {es : List MapEntry} {r : Option (Nat × Value)} (hu : P.underlying kt = some (.int j)) (h : Instr.findNow (.int j) (.int j a) es 0 = some r) (w : World) :
  (Instr.findKey kt (.int j a) es).run P w = .ok r w := by
 simp [Instr.findKey, run_underlying hu, h]
theorem map_of (hR : R w0 S σ ρ w) {id : Nat} {L : Loc} {es : List MapEntry} {ck : Nat} (hL : ρ id = some L) (hg : σ.get id = some (.map es ck)) :
  ∃ es', w.heap[L.blk]? = some (.map es' ck) ∧ MRel ρ es es'.toList := by
 have ho := (hR.at hL hg).2
 unfold ORel at ho
 split at ho
 ·rename_i hx hy; cases hx
 ·rename_i hx hy; cases hx; obtain ⟨rfl, h⟩ := ho; exact ⟨_, hy, h⟩
 ·rename_i hx hy; cases hx
 ·rename_i hx hy; cases hx
 ·exact ho.elim
theorem ok_mapOf (hR : R w0 S σ ρ w) {m m' : Value} {es : List MapEntry} {ck : Nat} (h : mapOf σ m = some (es, ck)) (hm : VRel ρ m m') :
  (m' = .map none ∧ es = []) ∨ ∃ r es', m' = .map (some r) ∧ w.heap[r]? = some (.map es' ck) ∧ MRel ρ es es'.toList := by
 unfold mapOf at h
 split at h
 ·cases h; exact .inl ⟨hm.map0_inv, rfl⟩
 ·rename_i id
  split at h
  ·rename_i es1 c1 hg
   cases h
   cases hm with
   | pure _ hpp => exact absurd hpp (by simp [isP])
   | map hL =>
    obtain ⟨es', a, b⟩ := map_of hR hL hg
    exact .inr ⟨_, es', rfl, a, b⟩
  ·exact absurd h (by simp)
 ·exact absurd h (by simp)
theorem run_getMap {r : Nat} {es : Array MapEntry} {ck : Nat} (h : w.heap[r]? = some (.map es ck)) : (getObj r).run P w = .ok (.map es ck) w := by
 simp [getObj, Sem.run, h]
theorem run_setMap {r : Nat} {es : Array MapEntry} {ck : Nat} (o : Obj) (h : w.heap[r]? = some (.map es ck)) : (setObj r o).run P w = .ok () { w with heap := w.heap.setIfInBounds r o } := by
 simp [setObj, Sem.run, h]
theorem ok_lookup (hR : R w0 S σ ρ w) {t : TypeId} {m m' k k' v : Value} {ok : Bool} (h : lookupA P σ t m k ok = some v) (hm : VRel ρ m m') (hk : VRel ρ k k') :
  ∃ v', (Instr.lookup t m' k' ok).run P w = .ok v' w ∧ VRel ρ v v' := by
 unfold lookupA at h
 split at h
 ·rename_i kt et hu
  split at h
  ·rename_i es ck hmo hko
   obtain ⟨j, a, hku, rfl⟩ := keyOk_inv hko
   rw [hk.int_inv]
   have two : ∀ {x y : Value} {b : Bool}, VRel ρ x y → VRel ρ (if ok then .tuple #[x, .bool b] else x) (if ok then .tuple #[y, .bool b] else y) := by
    intro x y b hxy
    split
    ·have : ARel ρ #[x, .bool b] #[y, .bool b] := (LRel.cons hxy (LRel.cons (.bool b) .nil)).toA
     exact .tuple this.1 this.2
    ·exact hxy
   rcases ok_mapOf hR hmo hm with ⟨rfl, rfl⟩ | ⟨r, es', rfl, hh, hrel⟩
   ·simp only [findA] at h
    cases hz : zeroT P et with
    | none => rw [hz] at h; simp at h
    | some z =>
     rw [hz] at h
     simp only [Option.map_some, Option.some.injEq] at h
     subst h
     refine ⟨if ok then .tuple #[z, .bool false] else z, ?_, two (plain_rel ρ (zeroT_plain hz))⟩
     have hf : (Instr.findKey kt (.int j a) []).run P w = .ok none w := run_findKey hku rfl w
     simp [Instr.lookup, run_underlying hu, run_checkKey hku, hf, run_zeroT hz]
   ·cases hfa : findA (.int j a) es 0 with
    | none => rw [hfa] at h; simp at h
    | some r0 =>
     obtain ⟨r1, hf1, hf2⟩ := findA_now hrel hfa
     have hf := run_findKey (P := P) hku hf1 w
     rw [hfa] at h
     rcases hf2 with ⟨rfl, rfl⟩ | ⟨n, v1, v2, rfl, rfl, hv⟩
     ·simp only at h
      cases hz : zeroT P et with
      | none => rw [hz] at h; simp at h
      | some z =>
       rw [hz] at h
       simp only [Option.map_some, Option.some.injEq] at h
       subst h
       refine ⟨if ok then .tuple #[z, .bool false] else z, ?_, two (plain_rel ρ (zeroT_plain hz))⟩
       simp [Instr.lookup, run_underlying hu, run_checkKey hku, hf, run_zeroT hz, run_getMap hh]
     ·simp only [Option.some.injEq] at h
      subst h
      refine ⟨if ok then .tuple #[v2, .bool true] else v2, ?_, two hv⟩
      simp [Instr.lookup, run_underlying hu, run_checkKey hku, hf, run_getMap hh]
  ·exact absurd h (by simp)
 ·exact absurd h (by simp)
theorem setVal_eq (k v : Value) : ∀ (l : List MapEntry) (i : Nat), setVal k v l i = l.modify i fun e => { e with key := k, val := v }
 | [], i => by simp [setVal]
 | e :: l, 0 => by simp [setVal]
 | e :: l, i + 1 => by simp [setVal, setVal_eq k v l i]
theorem modify_rel {l m : List MapEntry} (h : MRel ρ l m) {k k' v v' : Value} (hk : VRel ρ k k') (hv : VRel ρ v v') (i : Nat) :
  MRel ρ (setVal k v l i) (m.modify i fun e => { e with key := k', val := v' }) := by
 rw [setVal_eq]
 refine ⟨by simp [h.1], fun n e e' x y => ?_⟩
 rw [List.getElem?_modify] at x y
 cases hl : l[n]? with
 | none => rw [hl] at x; simp at x
 | some el =>
  cases hm : m[n]? with
  | none => rw [hm] at y; simp at y
  | some em =>
   obtain ⟨a, b, c⟩ := h.2 n el em hl hm
   rw [hl] at x; rw [hm] at y
   simp only [Option.map_eq_map, Option.map_some, Option.some.injEq] at x y
   split at x
   ·rename_i hin
    rw [if_pos hin] at y
    subst x; subst y
    exact ⟨a, hk, hv⟩
   ·rename_i hin
    rw [if_neg hin] at y
    subst x; subst y
    exact ⟨a, b, c⟩
theorem findNow_at {j : IntKind} {a : Int} : ∀ {m : List MapEntry} {i n : Nat} {v : Value}, Instr.findNow (.int j) (.int j a) m i = some (some (n, v)) → i ≤ n ∧ ∃ e, m[n - i]? = some e ∧ e.key = .int j a
 | [], i, n, v, h => by simp [Instr.findNow] at h
 | e :: m, i, n, v, h => by
  unfold Instr.findNow at h
  split at h
  ·rename_i hs
   simp only [Option.some.injEq, Prod.mk.injEq] at h
   obtain ⟨rfl, _⟩ := h
   refine ⟨Nat.le_refl _, e, by simp, ?_⟩
   unfold Instr.sameNow at hs
   split at hs
   ·rename_i _ _ j1 a1 j2 a2 hd he1 he2
    cases he1
    split at hs
    ·rename_i hj
     simp only [Option.some.injEq, beq_iff_eq] at hs
     rw [he2, hj, hs]
    ·exact absurd hs (by simp)
   all_goals simp_all
  ·obtain ⟨h1, e', h2, h3⟩ := findNow_at h
   refine ⟨by omega, e', ?_, h3⟩
   rw [show n - i = (n - (i + 1)) + 1 by omega]
   simpa using h2
  ·exact absurd h (by simp)
theorem stays (j : IntKind) (a : Int) (w : World) : (Instr.keyThatStays (.int j a) (.int j a)).run P w = .ok (.int j a) w := by
 have : Instr.sameBits 10000 (.int j a) (.int j a) = true := by simp [Instr.sameBits]
 simp [Instr.keyThatStays, this]
theorem R.setMap (hR : R w0 S σ ρ w) {id : Nat} {L : Loc} {es es2 : List MapEntry} {ck ck2 : Nat} {es' es2' : Array MapEntry} (hL : ρ id = some L) (hg : σ.get id = some (.map es ck))
  (hh : w.heap[L.blk]? = some (.map es' ck)) (hrel : MRel ρ es2 es2'.toList) : R w0 S (σ.put id (.map es2 ck2)) ρ { w with heap := w.heap.setIfInBounds L.blk (.map es2' ck2) } := by
 refine hR.set hL hg rfl rfl rfl (by simp) (fun b hb => ?_) (fun _ _ _ e => by cases e) ?_
 ·simp only [Array.getElem?_setIfInBounds]
  rw [if_neg (Ne.symm hb)]
 ·have hlt : L.blk < w.heap.size := hR.blk_lt hL hg
  simp only [Array.getElem?_setIfInBounds, if_true, hlt]
  exact ⟨rfl, hrel⟩
theorem ok_update (hR : R w0 S σ ρ w) {t : TypeId} {m m' k k' v v' : Value} {σ' : AW} (h : mapUpdateA P σ t m k v = some σ') (hm : VRel ρ m m') (hk : VRel ρ k k') (hv : VRel ρ v v') :
  ∃ w', (Instr.mapUpdate t m' k' v').run P w = .ok () w' ∧ R w0 S σ' ρ w' := by
 unfold mapUpdateA at h
 split at h
 ·rename_i kt et id hu
  split at h
  ·rename_i es ck hg hko
   obtain ⟨j, a, hku, rfl⟩ := keyOk_inv hko
   rw [hk.int_inv]
   cases hm with
   | pure _ hpp => exact absurd hpp (by simp [isP])
   | @map _ L hL =>
   obtain ⟨es', hh, hrel⟩ := map_of hR hL hg
   cases hfa : findA (.int j a) es 0 with
   | none => rw [hfa] at h; simp at h
   | some r0 =>
    obtain ⟨r1, hf1, hf2⟩ := findA_now hrel hfa
    have hf := run_findKey (P := P) hku hf1 w
    rw [hfa] at h
    rcases hf2 with ⟨rfl, rfl⟩ | ⟨n, v1, v2, rfl, rfl, hv2⟩
    ·simp only [Option.some.injEq] at h
     subst h
     refine ⟨_, by simp [Instr.mapUpdate, run_underlying hu, run_getMap hh, run_checkKey hku, hf, run_setMap _ hh]; rfl, hR.setMap hL hg hh ?_⟩
     simp only [Array.toList_push]
     refine ⟨by simp [hrel.1], fun i e e' x y => ?_⟩
     rcases Nat.lt_or_ge i es.length with g | g
     ·rw [List.getElem?_append_left g] at x
      rw [List.getElem?_append_left (by rw [← hrel.1]; exact g)] at y
      exact hrel.2 i e e' x y
     ·rw [List.getElem?_append_right g] at x
      rw [List.getElem?_append_right (by rw [← hrel.1]; exact g), ← hrel.1] at y
      cases hi : i - es.length with
      | zero =>
       rw [hi] at x y
       simp at x y
       subst x; subst y
       exact ⟨rfl, .int _ _, hv⟩
      | succ q => rw [hi] at x; simp at x
    ·simp only [Option.some.injEq] at h
     subst h
     obtain ⟨_, e0, he0, hek⟩ := findNow_at hf1
     simp only [Nat.sub_zero] at he0
     have he0' : es'[n]? = some e0 := by rw [← Array.getElem?_toList]; exact he0
     refine ⟨_, ?_, hR.setMap hL hg hh (es2' := es'.modify n fun e => { e with key := .int j a, val := v' }) ?_⟩
     ·simp only [Instr.mapUpdate, Sem.run_bind, run_underlying hu, Result.andThen_ok, run_getMap hh, run_checkKey hku, hf, he0', Option.map_some, Option.getD_some, hek, stays, run_setMap _ hh]
     ·rw [Array.toList_modify]
      exact modify_rel hrel (.int _ _) hv n
  ·exact absurd h (by simp)
 ·exact absurd h (by simp)
theorem ok_delete (hR : R w0 S σ ρ w) {ts : Array TypeId} {t ty : TypeId} {m m' k k' : Value} {r : Option AW} (hts : ts[0]? = some t) (h : deleteA P σ t m k = some r) (hm : VRel ρ m m') (hk : VRel ρ k k')
  (args : Array Value) (ha : args[0]? = some m') (hb : args[1]? = some k') :
  ∃ w', (Builtin.delete_ ts ty args).run P w = .ok (.tuple #[]) w' ∧ (match r with | none => R w0 S σ ρ w' | some σ' => R w0 S σ' ρ w') := by
 unfold deleteA at h
 split at h
 ·rename_i kt et hu
  split at h
  ·rename_i hko
   cases h
   obtain ⟨j, a, hku, rfl⟩ := keyOk_inv hko
   rw [hk.int_inv] at hb
   have := hm.map0_inv
   subst this
   exact ⟨w, by simp [Builtin.delete_, hts, ha, hb, run_underlying hu, run_checkKey hku], hR⟩
  ·exact absurd h (by simp)
 ·rename_i kt et id hu
  split at h
  ·rename_i es ck hg hko
   obtain ⟨j, a, hku, rfl⟩ := keyOk_inv hko
   rw [hk.int_inv] at hb
   cases hm with
   | pure _ hpp => exact absurd hpp (by simp [isP])
   | @map _ L hL =>
   obtain ⟨es', hh, hrel⟩ := map_of hR hL hg
   cases hfa : findA (.int j a) es 0 with
   | none => rw [hfa] at h; simp at h
   | some r0 =>
    obtain ⟨r1, hf1, hf2⟩ := findA_now hrel hfa
    have hf := run_findKey (P := P) hku hf1 w
    rw [hfa] at h
    rcases hf2 with ⟨rfl, rfl⟩ | ⟨n, v1, v2, rfl, rfl, hv2⟩
    ·simp only [Option.some.injEq] at h
     subst h
     exact ⟨_, by simp [Builtin.delete_, hts, ha, hb, run_underlying hu, run_getMap hh, run_checkKey hku, hf, run_setMap _ hh], hR.setMap hL hg hh hrel⟩
    ·simp only [Option.some.injEq] at h
     subst h
     refine ⟨_, by simp [Builtin.delete_, hts, ha, hb, run_underlying hu, run_getMap hh, run_checkKey hku, hf, run_setMap _ hh]; rfl, hR.setMap hL hg hh ?_⟩
     have hn : n < es'.size := by
      obtain ⟨_, e0, he0, _⟩ := findNow_at hf1
      simp only [Nat.sub_zero] at he0
      rcases Nat.lt_or_ge n es'.size with g | g
      ·exact g
      ·rw [List.getElem?_eq_none (by simpa using g)] at he0; exact absurd he0 (by simp)
     have he : (es'.eraseIdxIfInBounds n).toList = es'.toList.eraseIdx n := by
      simp [Array.eraseIdxIfInBounds, hn]
     rw [he]
     refine ⟨?_, fun i e e' x y => ?_⟩
     ·rw [List.length_eraseIdx, List.length_eraseIdx, hrel.1]
     ·rw [List.getElem?_eraseIdx] at x y
      split at x
      ·rename_i hin; rw [if_pos hin] at y; exact hrel.2 _ e e' x y
      ·rename_i hin; rw [if_neg hin] at y; exact hrel.2 _ e e' x y
  ·exact absurd h (by simp)
 ·exact absurd h (by simp)
theorem getObj_iter {r : Nat} {o : Obj} (h : w.heap[r]? = some o) (hc : ∀ c e f, o ≠ .cells c e f) : (getObj r).run P w = .ok o w := by
 simp only [getObj, Sem.run, h]
 try (cases o <;> first | rfl | exact absurd rfl (hc _ _ _))
theorem setObj_iter {r : Nat} {o : Obj} (o' : Obj) (h : w.heap[r]? = some o) (hc : ∀ c e f, o ≠ .cells c e f) : (setObj r o').run P w = .ok () { w with heap := w.heap.setIfInBounds r o' } := by
 simp only [setObj, Sem.run, h]
 try (cases o <;> first | rfl | exact absurd rfl (hc _ _ _))
theorem R.setIt (hR : R w0 S σ ρ w) {id : Nat} {L : Loc} {o o2 : AObj} {p2 : Obj} (hL : ρ id = some L) (hg : σ.get id = some o) (hex : ∀ cs e k, o2 ≠ .cells cs e k) (hrel : ORel ρ L o2 (some p2)) :
  R w0 S (σ.put id o2) ρ { w with heap := w.heap.setIfInBounds L.blk p2 } := by
 refine hR.set hL hg rfl rfl rfl (by simp) (fun b hb => ?_) (fun cs e k he => (hex cs e k he).elim) ?_
 ·simp only [Array.getElem?_setIfInBounds]
  rw [if_neg (Ne.symm hb)]
 ·have hlt : L.blk < w.heap.size := hR.blk_lt hL hg
  simp only [Array.getElem?_setIfInBounds, if_true, hlt]
  exact hrel
theorem ok_range (hR : R w0 S σ ρ w) {t : TypeId} {x x' v : Value} {σ' : AW} (h : rangeA P σ t x = some (v, σ')) (hx : VRel ρ x x') :
  ∃ v' w' ρ', (Instr.range t x').run P w = .ok v' w' ∧ ρ.le ρ' ∧ VRel ρ' v v' ∧ R w0 S σ' ρ' w' := by
 have fin : ∀ {id : Nat} {σ1 : AW} {o : AObj} {p : Obj}, σ.new o = some (id, σ1) → (∀ cs e k, o ≠ .cells cs e k) → ORel ρ ⟨w.heap.size, 0, 0, 0, none, none⟩ o (some p) →
   ∃ ρ', ρ.le ρ' ∧ VRel ρ' (.pointer (some ⟨id, 0, none⟩)) (.pointer (some ⟨w.heap.size, 0, none⟩)) ∧ R w0 S σ1 ρ' (w.alloc p) := by
  intro id σ1 o p hn hexo ho
  obtain ⟨hid, _, _⟩ := AW.new_eq hn
  have hle : ρ.le (ρ.put id ⟨w.heap.size, 0, 0, 0, none, none⟩) := Rho.le_put (by rw [hid]; exact hR.dom _ (Nat.le_refl _))
  obtain ⟨h1, h2⟩ := hR.alloc hn (L := ⟨w.heap.size, 0, 0, 0, none, none⟩) rfl rfl rfl (fun cs e k he => (hexo cs e k he).elim) (ho.mono hle)
  exact ⟨_, h1, VRel.ptr (o := 0) (Rho.put_same _ _ _), h2⟩
 unfold rangeA at h
 split at h
 ·rename_i s hu
  split at h
  ·rename_i id σ1 hn
   cases h
   have := hx.string_inv
   subst this
   obtain ⟨ρ', a, b, c⟩ := fin (p := .stringIter s 0) hn (fun _ _ _ => by simp) ⟨rfl, rfl, rfl⟩
   exact ⟨_, _, ρ', by simp [Instr.range, run_underlying hu], a, b, c⟩
  ·exact absurd h (by simp)
 ·rename_i k e hu
  split at h
  ·rename_i id σ1 hn
   cases h
   have := hx.map0_inv
   subst this
   obtain ⟨ρ', a, b, c⟩ := fin (p := .mapIter none 0 #[] 0) hn (fun _ _ _ => by simp) ⟨rfl, rfl, rfl, rfl, .inl ⟨rfl, rfl⟩⟩
   exact ⟨_, _, ρ', by simp [Instr.range, run_underlying hu], a, b, c⟩
  ·exact absurd h (by simp)
 ·rename_i k e m hu
  split at h
  ·rename_i es ck hg
   split at h
   ·rename_i id σ1 hn
    cases h
    cases hx with
    | pure _ hpp => exact absurd hpp (by simp [isP])
    | @map _ L hL =>
    obtain ⟨es', hh, hrel⟩ := map_of hR hL hg
    obtain ⟨ρ', a, b, c⟩ := fin (p := .mapIter (some L.blk) ck #[] ck) hn (fun _ _ _ => by simp) ⟨rfl, rfl, rfl, rfl, .inr ⟨m, L, rfl, hL, rfl⟩⟩
    exact ⟨_, _, ρ', by simp [Instr.range, run_underlying hu, run_getMap hh], a, b, c⟩
   ·exact absurd h (by simp)
  ·exact absurd h (by simp)
 ·exact absurd h (by simp)
theorem iter_of (hR : R w0 S σ ρ w) {id : Nat} {L : Loc} {m : Option Nat} {since last : Nat} {seen : Array Nat} (hL : ρ id = some L) (hg : σ.get id = some (.miter m since seen last)) :
  ∃ m', L.off = 0 ∧ w.heap[L.blk]? = some (.mapIter m' since seen last) ∧ ((m = none ∧ m' = none) ∨ ∃ id M, m = some id ∧ ρ id = some M ∧ m' = some M.blk) := by
 have ho := (hR.at hL hg).2
 unfold ORel at ho
 split at ho
 ·rename_i hx hy; cases hx
 ·rename_i hx hy; cases hx
 ·rename_i hx hy; cases hx; obtain ⟨z, rfl, rfl, rfl, h⟩ := ho; exact ⟨_, z, hy, h⟩
 ·rename_i hx hy; cases hx
 ·exact ho.elim
theorem siter_of (hR : R w0 S σ ρ w) {id : Nat} {L : Loc} {s : ByteArray} {p : Nat} (hL : ρ id = some L) (hg : σ.get id = some (.siter s p)) :
  L.off = 0 ∧ w.heap[L.blk]? = some (.stringIter s p) := by
 have ho := (hR.at hL hg).2
 unfold ORel at ho
 split at ho
 ·rename_i hx hy; cases hx
 ·rename_i hx hy; cases hx
 ·rename_i hx hy; cases hx
 ·rename_i hx hy; cases hx; obtain ⟨z, rfl, rfl⟩ := ho; exact ⟨z, hy⟩
 ·exact ho.elim
theorem find_rel {l m : List MapEntry} (h : MRel ρ l m) (stamp : Nat) {e : MapEntry} (he : l.find? (fun e => e.born == stamp) = some e) :
  ∃ f, m.find? (fun e => e.born == stamp) = some f ∧ VRel ρ e.key f.key ∧ VRel ρ e.val f.val := by
 induction l generalizing m with
 | nil => simp at he
 | cons x l ih =>
  obtain ⟨y, m', rfl, hb, hk, hv, hm⟩ := h.of_cons
  simp only [List.find?_cons] at he ⊢
  rw [← hb]
  split at he
  ·cases he; exact ⟨y, rfl, hk, hv⟩
  ·exact ih hm he
theorem pair2 {a b a' b' : Value} (h1 : VRel ρ a a') (h2 : VRel ρ b b') : VRel ρ (.tuple #[a, b]) (.tuple #[a', b']) := by
 have : ARel ρ #[a, b] #[a', b'] := (LRel.cons h1 (LRel.cons h2 .nil)).toA
 exact .tuple this.1 this.2
theorem pair3 {a b c a' b' c' : Value} (h1 : VRel ρ a a') (h2 : VRel ρ b b') (h3 : VRel ρ c c') : VRel ρ (.tuple #[a, b, c]) (.tuple #[a', b', c']) := by
 have : ARel ρ #[a, b, c] #[a', b', c'] := (LRel.cons h1 (LRel.cons h2 (LRel.cons h3 .nil))).toA
 exact .tuple this.1 this.2
theorem ok_entry (hR : R w0 S σ ρ w) {x x' v : Value} (h : entryA σ x = some v) (hx : VRel ρ x x') :
  ∃ v', (Instr.entry x').run P w = .ok v' w ∧ VRel ρ v v' := by
 unfold entryA at h
 split at h
 ·rename_i id
  cases hx with
  | pure _ hpp => exact absurd hpp (by simp [isP])
  | @ptr _ _ L hL =>
  split at h
  ·rename_i m since seen stepped hg
   obtain ⟨m', hoff, hh, hm⟩ := iter_of hR hL hg
   rcases hm with ⟨hm, _⟩ | ⟨id2, M, e1, hM, rfl⟩
   ·simp at hm
   ·cases e1
    split at h
    ·rename_i stamp es ck hs hgm
     obtain ⟨es', hh2, hrel⟩ := map_of hR hM hgm
     split at h
     ·rename_i hck
      subst hck
      split at h
      ·rename_i e hf
       cases h
       obtain ⟨f, hf', hk, hv⟩ := find_rel hrel stamp hf
       rw [Array.find?_toList] at hf'
       refine ⟨.tuple #[f.key, f.val], ?_, pair2 hk hv⟩
       rw [hoff]
       simp only [Nat.zero_add, Instr.entry, Sem.run_bind, getObj_iter hh (by simp), hs, Result.andThen_ok, run_getMap hh2, hf', bne_self_eq_false, Bool.false_eq_true, if_false, Sem.run_pure]
      ·exact absurd h (by simp)
     ·exact absurd h (by simp)
    ·exact absurd h (by simp)
  ·exact absurd h (by simp)
 ·exact absurd h (by simp)
theorem filter_rel {p : MapEntry → Bool} : ∀ {l m : List MapEntry}, MRel ρ l m → (∀ e f : MapEntry, e.born = f.born → p e = p f) → MRel ρ (l.filter p) (m.filter p)
 | [], m, h, _ => by
  have : m = [] := List.eq_nil_of_length_eq_zero h.1.symm
  subst this
  exact h
 | e :: l, m, h, hp => by
  obtain ⟨f, m', rfl, hb, hk, hv, hm⟩ := h.of_cons
  have ih := filter_rel hm hp
  simp only [List.filter_cons, hp e f hb]
  split
  ·refine ⟨by simp [ih.1], fun i x y hx hy => ?_⟩
   cases i with
   | zero => simp at hx hy; subst hx; subst hy; exact ⟨hb, hk, hv⟩
   | succ i => exact ih.2 i x y (by simpa using hx) (by simpa using hy)
  ·exact ih
theorem all_rel {p : MapEntry → Bool} : ∀ {l m : List MapEntry}, MRel ρ l m → (∀ e f : MapEntry, e.born = f.born → p e = p f) → l.all p = m.all p
 | [], m, h, _ => by
  have : m = [] := List.eq_nil_of_length_eq_zero h.1.symm
  subst this
  rfl
 | e :: l, m, h, hp => by
  obtain ⟨f, m', rfl, hb, hk, hv, hm⟩ := h.of_cons
  simp only [List.all_cons, hp e f hb, all_rel hm hp]
theorem MRel.isEmpty {l m : List MapEntry} (h : MRel ρ l m) : l.isEmpty = m.isEmpty := by
 have := h.1
 cases l <;> cases m <;> simp_all
theorem MRel.append {l m l2 m2 : List MapEntry} (h : MRel ρ l m) (k : MRel ρ l2 m2) : MRel ρ (l ++ l2) (m ++ m2) := by
 refine ⟨by simp [h.1, k.1], fun i v v' x y => ?_⟩
 rcases Nat.lt_or_ge i l.length with g | g
 ·rw [List.getElem?_append_left g] at x
  rw [List.getElem?_append_left (by rw [← h.1]; exact g)] at y
  exact h.2 i v v' x y
 ·rw [List.getElem?_append_right g] at x
  rw [List.getElem?_append_right (by rw [← h.1]; exact g), ← h.1] at y
  exact k.2 _ v v' x y
theorem MRel.one {l m : List MapEntry} {e : MapEntry} (h : MRel ρ l m) (hl : l = [e]) : ∃ f, m = [f] ∧ e.born = f.born ∧ VRel ρ e.key f.key ∧ VRel ρ e.val f.val := by
 subst hl
 obtain ⟨f, m', rfl, a, b, c, d⟩ := h.of_cons
 have : m' = [] := List.eq_nil_of_length_eq_zero d.1.symm
 subst this
 exact ⟨f, rfl, a, b, c⟩
theorem ok_next (hR : R w0 S σ ρ w) {x x' : Value} {isString : Bool} {ty : TypeId} {r : ARes} (h : nextA σ x isString = some r) (hx : VRel ρ x x') :
  ∃ v' w', (Instr.next x' isString ty).run P w = .ok v' w' ∧ ((∃ v, r = .val v ∧ VRel ρ v v' ∧ R w0 S σ ρ w') ∨ (∃ v σ', r = .eff v σ' ∧ VRel ρ v v' ∧ R w0 S σ' ρ w')) := by
 have over : VRel ρ (.tuple #[.bool false]) (.tuple #[.bool false]) := plain_rel ρ rfl
 unfold nextA at h
 split at h
 ·rename_i id
  cases hx with
  | pure _ hpp => exact absurd hpp (by simp [isP])
  | @ptr _ _ L hL =>
  split at h
  ·rename_i s pos hg
   obtain ⟨hoff, hh⟩ := siter_of hR hL hg
   rw [hoff]
   split at h
   ·rename_i hlt
    cases h
    refine ⟨.tuple #[.bool true, goInt pos, .int .i32 (Utf8.decode s pos).1], _, ?_, .inr ⟨_, _, rfl, plain_rel ρ rfl, hR.setIt hL hg (o2 := .siter s (pos + (Utf8.decode s pos).2)) (p2 := .stringIter s (pos + (Utf8.decode s pos).2)) (fun _ _ _ => by simp) ⟨hoff, rfl, rfl⟩⟩⟩
    simp [Instr.next, getObj_iter hh, hlt, setObj_iter _ hh]
   ·rename_i hlt
    cases h
    exact ⟨_, w, by simp [Instr.next, getObj_iter hh, hlt], .inl ⟨_, rfl, over, hR⟩⟩
  ·rename_i a b c hg
   obtain ⟨m', hoff, hh, hm⟩ := iter_of hR hL hg
   rw [hoff]
   cases h
   rcases hm with ⟨_, rfl⟩ | ⟨_, _, e, _⟩
   ·exact ⟨_, w, by simp [Instr.next, getObj_iter hh], .inl ⟨_, rfl, over, hR⟩⟩
   ·simp at e
  ·rename_i m since seen last hg
   obtain ⟨m', hoff, hh, hm⟩ := iter_of hR hL hg
   rw [hoff]
   rcases hm with ⟨e, _⟩ | ⟨m2, M, e, hM, rfl⟩
   ·simp at e
   ·cases e
    split at h
    ·rename_i es ck hgm
     obtain ⟨es', hh2, hrel⟩ := map_of hR hM hgm
     split at h
     ·exact absurd h (by simp)
     ·rename_i hbad
      have hleft := filter_rel (p := fun e => !seen.contains e.born) hrel (fun e f hb => by simp only [hb])
      have hold := filter_rel (p := fun e => decide (e.born < since)) hleft (fun e f hb => by simp only [hb])
      have hnew := filter_rel (p := fun e => decide (e.born ≥ since)) hleft (fun e f hb => by simp only [hb])
      have hbad' : ¬ ((!seen.isEmpty && !es'.isEmpty && es'.all fun x => decide (x.born ≥ last)) = true) := by
       have h1 : es.isEmpty = es'.isEmpty := by rw [hrel.isEmpty]; simp
       have h2 := all_rel (p := fun x => decide (x.born ≥ last)) hrel (fun e f hb => by simp only [hb])
       rw [h1, h2, Array.all_toList] at hbad
       exact hbad
      have run : ∀ c : Option MapEntry, ((if (es'.filter (fun e => !seen.contains e.born)).filter (fun e => decide (e.born < since)) |>.isEmpty then #[none] else #[]) ++ ((es'.filter (fun e => !seen.contains e.born)).filter (fun e => decide (e.born < since)) ++ (es'.filter (fun e => !seen.contains e.born)).filter (fun e => decide (e.born ≥ since))).map some) = #[c] →
        (Instr.next (.pointer (some ⟨L.blk, 0, none⟩)) false ty).run P w = (match c with
         | some e => .ok (.tuple #[.bool true, e.key, e.val]) { w with heap := w.heap.setIfInBounds L.blk (.mapIter (some M.blk) since (seen.push e.born) ck) }
         | none => .ok (.tuple #[.bool false]) w) := by
       intro c hc
       simp only [Instr.next, Sem.run_bind, getObj_iter hh (by simp), Result.andThen_ok, run_getMap hh2, if_neg hbad', Sem.run_ite]
       rw [hc]
       cases c with
       | none => simp [Question.forced]
       | some e => simp [Question.forced, setObj_iter _ hh]
      have harr : ((if (es'.filter (fun (e : MapEntry) => !seen.contains e.born)).filter (fun (e : MapEntry) => decide (e.born < since)) |>.isEmpty then #[none] else #[]) ++ ((es'.filter (fun (e : MapEntry) => !seen.contains e.born)).filter (fun (e : MapEntry) => decide (e.born < since)) ++ (es'.filter (fun (e : MapEntry) => !seen.contains e.born)).filter (fun (e : MapEntry) => decide (e.born ≥ since))).map some).toList =
        (if ((es'.toList.filter (fun (e : MapEntry) => !seen.contains e.born)).filter (fun (e : MapEntry) => decide (e.born < since))).isEmpty then [none] else []) ++ ((es'.toList.filter (fun (e : MapEntry) => !seen.contains e.born)).filter (fun (e : MapEntry) => decide (e.born < since)) ++ (es'.toList.filter (fun (e : MapEntry) => !seen.contains e.born)).filter (fun (e : MapEntry) => decide (e.born ≥ since))).map some := by
       simp only [Array.toList_append, Array.toList_map, Array.toList_filter]
       have hc : ((es'.filter (fun (e : MapEntry) => !seen.contains e.born)).filter (fun (e : MapEntry) => decide (e.born < since))).isEmpty = ((es'.toList.filter (fun (e : MapEntry) => !seen.contains e.born)).filter (fun (e : MapEntry) => decide (e.born < since))).isEmpty := by
        rw [← Array.toList_filter, ← Array.toList_filter, Array.isEmpty_toList]
       rw [hc]
       congr 1
       split <;> rfl
      have happ := MRel.append hold hnew
      have hemp := hold.isEmpty
      dsimp only at h
      split at h
      ·rename_i e he
       cases h
       by_cases hoe : ((es.filter fun e => !seen.contains e.born).filter fun e => decide (e.born < since)).isEmpty = true
       ·rw [if_pos hoe] at he
        simp at he
       ·rw [if_neg hoe, List.nil_append] at he
        have he2 : ((es.filter fun e => !seen.contains e.born).filter fun e => decide (e.born < since)) ++ ((es.filter fun e => !seen.contains e.born).filter fun e => decide (e.born ≥ since)) = [e] := by
         have := congrArg (List.map (fun o : Option MapEntry => o.getD e)) he
         simpa [List.map_map, Function.comp_def] using this
        obtain ⟨f, hf, hb, hk, hv⟩ := happ.one he2
        have hrun := run (some f) (by
         apply Array.ext'
         rw [harr, ← hemp, if_neg hoe, hf]
         rfl)
        refine ⟨_, _, hrun, .inr ⟨_, _, rfl, pair3 (.bool true) hk hv, ?_⟩⟩
        rw [hb]
        exact hR.setIt hL hg (fun _ _ _ => by simp) ⟨hoff, rfl, rfl, rfl, .inr ⟨m, M, rfl, hM, rfl⟩⟩
      ·rename_i he
       cases h
       by_cases hoe : ((es.filter fun e => !seen.contains e.born).filter fun e => decide (e.born < since)).isEmpty = true
       ·rw [if_pos hoe] at he
        have he2 : ((es.filter fun e => !seen.contains e.born).filter fun e => decide (e.born < since)) ++ ((es.filter fun e => !seen.contains e.born).filter fun e => decide (e.born ≥ since)) = [] := by
         have h1 := congrArg List.length he
         apply List.eq_nil_of_length_eq_zero
         simpa using h1
        have he3 := List.eq_nil_of_length_eq_zero (happ.1.symm.trans (congrArg List.length he2))
        have hrun := run none (by
         apply Array.ext'
         rw [harr, ← hemp, if_pos hoe, he3]
         rfl)
        exact ⟨_, w, hrun, .inl ⟨_, rfl, over, hR⟩⟩
       ·rw [if_neg hoe, List.nil_append] at he
        have h1 := congrArg (fun l => l.all Option.isSome) he
        simp at h1
      ·exact absurd h (by simp)
    ·exact absurd h (by simp)
  ·exact absurd h (by simp)
 ·exact absurd h (by simp)
end
end Vx
end Go
set_option linter.unusedVariables false
set_option linter.unusedSimpArgs false
namespace Go
namespace Vx
section
variable {P : Program} {w0 : World} {S : Own} {σ : AW} {ρ : Rho} {w : World}
def Says (S : Own) (ρ : Rho) : Prop := S.base.le ρ ∧ ∀ i L v, ρ i = some L → L.val = some v → S.spec i L
structure FactsOk (P : Program) (X : Facts) (S : Own) : Prop where
 bin : ∀ op x y r, (op, x, y, r) ∈ X.bin → ∀ ρ, Says S ρ → ∀ t xo yo x' y' w, VRel ρ x x' → VRel ρ y y' → ∃ r', (do eqGuard op t xo yo x' y'; binOp op t x' y' : Sem Value).run P w = .ok r' w ∧ VRel ρ r r'
 un : ∀ op x r, (op, x, r) ∈ X.un → ∀ ρ, Says S ρ → ∀ x' w, VRel ρ x x' → ∃ r', (Op.unary op x').run P w = .ok r' w ∧ VRel ρ r r'
 conv : ∀ s d x r, (s, d, x, r) ∈ X.conv → ∀ ρ, Says S ρ → ∀ x' w, VRel ρ x x' → ∃ r', (convert s d x').run P w = .ok r' w ∧ VRel ρ r r'
 len : ∀ t x r, (t, x, r) ∈ X.len → ∀ ρ, Says S ρ → ∀ (ts : Array TypeId) ty (args : Array Value) x' w, ts[0]? = some t → args[0]? = some x' → VRel ρ x x' → ∃ r', (Builtin.len_ ts ty args).run P w = .ok r' w ∧ VRel ρ r r'
 made : ∀ t l i, (t, l, i) ∈ X.made → ∀ ρ, Says S ρ → ∀ l' w, VRel ρ l l' → ∃ (n : Nat) (o : Obj), l' = .int .i64 n ∧ S.spec i ⟨w.heap.size, 0, 0, 0, some (.slice (some ⟨w.heap.size, 0, none⟩) n n), some o⟩ ∧ (Instr.makeSlice t l' l').run P w = .ok (.slice (some ⟨w.heap.size, 0, none⟩) n n) (w.alloc o)
 keys : ∀ kt k ns, (kt, k, ns) ∈ X.keys → ∀ ρ, Says S ρ → ∀ k' j, VRel ρ k k' → P.underlying kt = some (.int j) → ∃ a, k' = .int j a ∧ ∀ n ∈ ns, a ≠ n
theorem FactsOk.none (P : Program) (S : Own) : FactsOk P .none S :=
 ⟨fun _ _ _ _ h => by simp [Facts.none] at h, fun _ _ _ h => by simp [Facts.none] at h, fun _ _ _ _ h => by simp [Facts.none] at h, fun _ _ _ h => by simp [Facts.none] at h, fun _ _ _ h => by simp [Facts.none] at h, fun _ _ _ h => by simp [Facts.none] at h⟩
theorem R.says {σ : AW} {ρ : Rho} {w : World} (h : R w0 S σ ρ w) : Says S ρ := ⟨h.base, h.spec⟩
theorem lookBin_mem {op : BinOp} {x y r : Value} : ∀ {l : List (BinOp × Value × Value × Value)}, lookBin op x y l = some r → (op, x, y, r) ∈ l
 | [], h => by simp [lookBin] at h
 | (op', x', y', r') :: l, h => by
  unfold lookBin at h
  split at h
  ·rename_i hb
   simp only [Bool.and_eq_true, decide_eq_true_eq] at hb
   obtain ⟨⟨h1, h2⟩, h3⟩ := hb
   cases h
   rw [h1, ← sameN_eq _ _ _ h2, ← sameN_eq _ _ _ h3]
   simp
  ·exact List.mem_cons_of_mem _ (lookBin_mem h)
theorem lookUn_mem {op : UnOp} {x r : Value} : ∀ {l : List (UnOp × Value × Value)}, lookUn op x l = some r → (op, x, r) ∈ l
 | [], h => by simp [lookUn] at h
 | (op', x', r') :: l, h => by
  unfold lookUn at h
  split at h
  ·rename_i hb
   simp only [Bool.and_eq_true, decide_eq_true_eq] at hb
   cases h
   rw [hb.1, ← sameN_eq _ _ _ hb.2]
   simp
  ·exact List.mem_cons_of_mem _ (lookUn_mem h)
theorem lookConv_mem {s d : TypeId} {x r : Value} : ∀ {l : List (TypeId × TypeId × Value × Value)}, lookConv s d x l = some r → (s, d, x, r) ∈ l
 | [], h => by simp [lookConv] at h
 | (s', d', x', r') :: l, h => by
  unfold lookConv at h
  split at h
  ·rename_i hb
   simp only [Bool.and_eq_true] at hb
   cases h
   rw [beq_t hb.1.1, beq_t hb.1.2, ← sameN_eq _ _ _ hb.2]
   simp
  ·exact List.mem_cons_of_mem _ (lookConv_mem h)
theorem lookLen_mem {t : TypeId} {x r : Value} : ∀ {l : List (TypeId × Value × Value)}, lookLen t x l = some r → (t, x, r) ∈ l
 | [], h => by simp [lookLen] at h
 | (t', x', r') :: l, h => by
  unfold lookLen at h
  split at h
  ·rename_i hb
   simp only [Bool.and_eq_true] at hb
   cases h
   rw [beq_t hb.1, ← sameN_eq _ _ _ hb.2]
   simp
  ·exact List.mem_cons_of_mem _ (lookLen_mem h)
theorem lookMk_mem {t : TypeId} {x : Value} {i : Nat} : ∀ {l : List (TypeId × Value × Nat)}, lookMk t x i l = true → (t, x, i) ∈ l
 | [], h => by simp [lookMk] at h
 | (t', x', i') :: l, h => by
  unfold lookMk at h
  split at h
  ·rename_i hb
   simp only [Bool.and_eq_true] at hb
   rw [beq_t hb.1.1, ← sameN_eq _ _ _ hb.1.2, beq_t hb.2]
   simp
  ·exact List.mem_cons_of_mem _ (lookMk_mem h)
theorem lookKey_mem {kt : TypeId} {k : Value} {ns : List Int} : ∀ {l : List (TypeId × Value × List Int)}, lookKey kt k l = some ns → (kt, k, ns) ∈ l
 | [], h => by simp [lookKey] at h
 | (t', x', ns') :: l, h => by
  unfold lookKey at h
  split at h
  ·rename_i hb
   simp only [Bool.and_eq_true] at hb
   cases h
   rw [beq_t hb.1, ← sameN_eq _ _ _ hb.2]
   simp
  ·exact List.mem_cons_of_mem _ (lookKey_mem h)
theorem otherKeys_now {j : IntKind} {a : Int} {ns : List Int} (hns : ∀ n ∈ ns, a ≠ n) : ∀ {l m : List MapEntry} {i : Nat}, MRel ρ l m → otherKeys j ns l = true → Instr.findNow (.int j) (.int j a) m i = some none
 | [], m, i, h, _ => by
  have : m = [] := List.eq_nil_of_length_eq_zero h.1.symm
  subst this
  rfl
 | e :: l, m, i, h, ho => by
  obtain ⟨f, m', rfl, hb, hk, hv, hm⟩ := h.of_cons
  unfold otherKeys at ho
  split at ho
  ·rename_i j' b he
   simp only [Bool.and_eq_true, decide_eq_true_eq, List.any_eq_true] at ho
   obtain ⟨⟨h1, n, hn, h2⟩, h3⟩ := ho
   subst h1
   rw [he] at hk
   have hfk := hk.int_inv
   have hne : (a == b) = false := by
    have := hns n hn
    rw [h2] at this
    simpa using this
   simp only [Instr.findNow, hfk, Instr.sameNow, if_true, hne]
   exact otherKeys_now hns hm h3
  ·exact absurd ho (by simp)
theorem ok_lookupK (hR : R w0 S σ ρ w) {X : Facts} (hX : FactsOk P X S) {t : TypeId} {m m' k k' v : Value} {ok : Bool} (h : lookupK P X σ t m k ok = some v) (hm : VRel ρ m m') (hk : VRel ρ k k') :
  ∃ v', (Instr.lookup t m' k' ok).run P w = .ok v' w ∧ VRel ρ v v' := by
 unfold lookupK at h
 split at h
 ·rename_i kt et hu
  split at h
  ·rename_i es ck ns j hmo hkf hku
   obtain ⟨a, rfl, hns⟩ := hX.keys _ _ _ (lookKey_mem hkf) ρ hR.says k' j hk hku
   split at h
   ·rename_i z ho hz
    simp only [Option.some.injEq] at h
    subst h
    have two : VRel ρ (if ok then .tuple #[z, .bool false] else z) (if ok then .tuple #[z, .bool false] else z) := by
     have hzz := plain_rel ρ (zeroT_plain hz)
     split
     ·have : ARel ρ #[z, .bool false] #[z, .bool false] := (LRel.cons hzz (LRel.cons (.bool false) .nil)).toA
      exact .tuple this.1 this.2
     ·exact hzz
    refine ⟨if ok then .tuple #[z, .bool false] else z, ?_, two⟩
    rcases ok_mapOf hR hmo hm with ⟨rfl, rfl⟩ | ⟨r, es', rfl, hh, hrel⟩
    ·have hf : (Instr.findKey kt (.int j a) []).run P w = .ok none w := run_findKey hku rfl w
     simp [Instr.lookup, run_underlying hu, run_checkKey hku, hf, run_zeroT hz]
    ·have hf := run_findKey (P := P) hku (otherKeys_now (i := 0) hns hrel ho) w
     simp [Instr.lookup, run_underlying hu, run_checkKey hku, hf, run_zeroT hz, run_getMap hh]
   ·exact absurd h (by simp)
  ·exact absurd h (by simp)
 ·exact absurd h (by simp)
theorem ok_intBin {op : BinOp} {x y x' y' v : Value} (h : intBin op x y = some v) (hx : VRel ρ x x') (hy : VRel ρ y y') (t : TypeId) (xo yo : Operand) :
  (do eqGuard op t xo yo x' y'; binOp op t x' y' : Sem Value).run P w = .ok v w ∧ VRel ρ v v := by
 unfold intBin at h
 split at h
 ·rename_i k a k' b
  rw [hx.int_inv, hy.int_inv]
  split at h
  ·rename_i hk
   have hk : k = k' := by simpa using hk
   subst hk
   split at h
   case h_10 => exact absurd h (by simp)
   all_goals
    simp only [Option.some.injEq] at h
    subst h
    refine ⟨?_, ?_⟩
    ·simp [eqGuard, binOp, Op.intArith, Op.intCmp]
     try rfl
    ·first | exact .int _ _ | exact .bool _
  ·exact absurd h (by simp)
 ·exact absurd h (by simp)
theorem ok_len (hR : R w0 S σ ρ w) {ts : Array TypeId} {t ty : TypeId} {x x' v : Value} (hts : ts[0]? = some t) (h : lenA P σ t x = some v) (hx : VRel ρ x x') (args : Array Value) (ha : args[0]? = some x') :
  (Builtin.len_ ts ty args).run P w = .ok v w ∧ VRel ρ v v := by
 unfold lenA at h
 split at h
 ·rename_i s hu
  cases h
  have := hx.string_inv
  subst this
  exact ⟨by simp [Builtin.len_, hts, ha, run_underlying hu], plain_rel ρ rfl⟩
 ·rename_i n e hu
  cases h
  exact ⟨by simp [Builtin.len_, hts, ha, run_underlying hu], plain_rel ρ rfl⟩
 ·rename_i e a n c hu
  cases h
  cases hx with
  | pure _ hpp => exact absurd hpp (by simp [isP])
  | _ => exact ⟨by simp [Builtin.len_, hts, ha, run_underlying hu], plain_rel ρ rfl⟩
 ·rename_i e k nm f es hu
  cases h
  obtain ⟨A, c, g, rfl, _⟩ := hx.lst_inv
  exact ⟨by simp [Builtin.len_, hts, ha, run_underlying hu], plain_rel ρ rfl⟩
 ·rename_i m _ _ k e hu
  cases hmo : mapOf σ m with
  | none => rw [hmo] at h; simp at h
  | some p =>
   obtain ⟨es, ck⟩ := p
   rw [hmo] at h
   simp only [Option.map_some, Option.some.injEq] at h
   subst h
   refine ⟨?_, plain_rel ρ rfl⟩
   rcases ok_mapOf hR hmo hx with ⟨rfl, rfl⟩ | ⟨r, es', rfl, hh, hrel⟩
   ·simp [Builtin.len_, hts, ha, run_underlying hu]
   ·have : es'.size = es.length := by rw [hrel.1]; simp
    simp [Builtin.len_, hts, ha, run_underlying hu, run_getMap hh, this]
 ·rename_i hu
  split at h
  ·rename_i n e hu2
   cases h
   exact ⟨by simp [Builtin.len_, hts, ha, run_underlying hu, run_underlying hu2], plain_rel ρ rfl⟩
  ·exact absurd h (by simp)
 ·exact absurd h (by simp)
theorem ok_cap {ts : Array TypeId} {t ty : TypeId} {x x' v : Value} (hts : ts[0]? = some t) (h : capA P t x = some v) (hx : VRel ρ x x') (args : Array Value) (ha : args[0]? = some x') :
  (Builtin.cap_ ts ty args).run P w = .ok v w ∧ VRel ρ v v := by
 unfold capA at h
 split at h
 ·rename_i e a n c hu
  split at h
  ·rename_i hc
   have hc := ble_t hc
   cases h
   cases hx with
   | pure _ hpp => exact absurd hpp (by simp [isP])
   | slice0 => exact ⟨by simp [Builtin.cap_, hts, ha, run_underlying hu], plain_rel ρ rfl⟩
   | sliceX hL _ _ => exact ⟨by simp [Builtin.cap_, hts, ha, run_underlying hu], plain_rel ρ rfl⟩
   | sliceO hL _ _ => exact absurd hc open_big
   | sliceE hL _ => exact absurd hc empty_big
  ·exact absurd h (by simp)
 ·rename_i e k nm f es hu
  split at h
  ·rename_i hf
   cases h
   obtain ⟨A, c, g, rfl, _, hex, _⟩ := hx.lst_inv
   have hc := hex hf
   subst hc
   exact ⟨by simp [Builtin.cap_, hts, ha, run_underlying hu], plain_rel ρ rfl⟩
  ·exact absurd h (by simp)
 ·rename_i hu
  cases h
  exact ⟨by simp [Builtin.cap_, hts, ha, run_underlying hu], plain_rel ρ rfl⟩
 ·exact absurd h (by simp)
inductive Out (w0 : World) (S : Own) (σ : AW) (ρ : Rho) : ARes → Result Next → Prop
 | val {v v' : Value} {w' : World} {ρ' : Rho} (hle : ρ.le ρ') (hv : VRel ρ' v v') (hR : R w0 S σ ρ' w') : Out w0 S σ ρ (.val v) (.ok (.value v') w')
 | eff {v v' : Value} {σ' : AW} {w' : World} {ρ' : Rho} (hle : ρ.le ρ') (hv : VRel ρ' v v') (hR : R w0 S σ' ρ' w') : Out w0 S σ ρ (.eff v σ') (.ok (.value v') w')
 | skip {σ' : AW} {w' : World} {ρ' : Rho} (hle : ρ.le ρ') (hR : R w0 S σ' ρ' w') : Out w0 S σ ρ (.eff undef σ') (.ok .skip w')
 | call {f : FuncId} {args args' : Array Value} {w' : World} (ha : ARel ρ args args') (hR : R w0 S σ ρ w') : Out w0 S σ ρ (.call f args) (.ok (.enter f args') w')
 | pan {v v' : Value} {w' : World} (hv : VRel ρ v v') (hR : R w0 S σ ρ w') : Out w0 S σ ρ (.pan v) (.halt (.panic v') w')
 | defer {f : FuncId} {c c' x x' : Array Value} {w' : World} (hc : ARel ρ c c') (hx : ARel ρ x x') (hR : R w0 S σ ρ w') :
   Out w0 S σ ρ (.defer { target := .fn (.func f) c, args := x }) (.ok (.defer { target := .fn (.func f) c', args := x' }) w')
 | recover {w' : World} (hR : R w0 S σ ρ w') : Out w0 S σ ρ .recover (.ok .recover w')
theorem ARel.map {ev e' : Operand → Value} {xs : Array Operand} (h : ∀ x ∈ xs, VRel ρ (ev x) (e' x)) : ARel ρ (xs.map ev) (xs.map e') := by
 refine ⟨by simp, fun i v v' x y => ?_⟩
 rw [Array.getElem?_map] at x y
 cases hx : xs[i]? with
 | none => rw [hx] at x; simp at x
 | some o =>
  rw [hx] at x y
  simp at x y
  subst x; subst y
  exact h o (Array.mem_of_getElem? hx)
theorem ARel.append {a b c d : Array Value} (h : ARel ρ a b) (k : ARel ρ c d) : ARel ρ (a ++ c) (b ++ d) := by
 have := (LRel.append h.toL k.toL).toA
 have e : ∀ x y : Array Value, (x.toList ++ y.toList).toArray = x ++ y := fun x y => by apply Array.ext'; simp
 rw [e, e] at this
 exact this
theorem all_same {ev e' : Operand → Value} {xs : Array Operand} (h : ∀ x ∈ xs, VRel ρ (ev x) (e' x)) (hp : xs.toList.all (fun x => plain (ev x)) = true) : ∀ x ∈ xs, ev x = e' x := by
 intro x hx
 rw [List.all_eq_true] at hp
 exact plain_eq (h x hx) (hp x (by rw [Array.mem_toList_iff]; exact hx))
theorem ok_pure (hR : R w0 S σ ρ w) {ev e' : Operand → Value} {o : Oper} {r : ARes} (hs : ∀ cs b, o.op ≠ .select cs b) (h : pureVal P (execOp ev o) = some r) (hev : ∀ x ∈ o.op.operands, ev x = e' x) :
  Out w0 S σ ρ r ((execOp e' o).run P w) := by
 unfold pureVal at h
 split at h
 ·rename_i v hp
  split at h
  ·rename_i hpl
   cases h
   rw [← execOp_congr o hs hev, run_pureOf _ _ hp w]
   exact .val ρ.le_refl (plain_rel ρ hpl) hR
  ·exact absurd h (by simp)
 ·exact absurd h (by simp)
theorem run_noEscape {P : Program} {f : FuncId} {fn : Func} (hf : P.funcs[f]? = some fn) (h1 : (fn.name == "internal/abi.NoEscape") = true) (h2 : (fn.origin == "") = true) (h3 : fn.body.isNone = true) (v : Value) (w : World) :
  (callFunc f #[v]).run P w = .ok (.value v) w := by
 have e1 : fn.name = "internal/abi.NoEscape" := by simpa using h1
 have e2 : fn.origin = "" := by simpa using h2
 rw [run_callFunc_extern (e := Extern.AbiNoEscape.same) hf (by rw [e1]; decide +kernel) h3 (by unfold Extern.findNext; rw [e1, e2]; rfl) (by unfold Extern.find; rw [e1, e2]; rfl)]
 rfl
theorem aop_sound [NoEx P S] (hR : R w0 S σ ρ w) {ev e' : Operand → Value} {o : Oper} {r : ARes} {X : Facts} (hX : FactsOk P X S) (h : aop P X ev o σ = some r) (hev : ∀ x ∈ o.op.operands, VRel ρ (ev x) (e' x)) :
  Out w0 S σ ρ r ((execOp e' o).run P w) := by
 obtain ⟨dst, op, type, pos, after, guard⟩ := o
 cases op <;> simp only [aop] at h <;> simp only [Op.operands] at hev
 case move x => cases h; exact .val ρ.le_refl (hev x (by simp)) hR
 case assign x => cases h; exact .val ρ.le_refl (hev x (by simp)) hR
 case pick c a b =>
  unfold pickA at h
  have h1 := hev c (by simp)
  split at h
  ·rename_i hc
   cases h
   rw [hc] at h1
   have h2 : e' c = .bool true := (plain_eq h1 rfl).symm
   simp only [execOp, Sem.run_bind, h2, asBool, Sem.run_pure, Result.andThen_ok]
   exact .val ρ.le_refl (hev a (by simp)) hR
  ·rename_i hc
   cases h
   rw [hc] at h1
   have h2 : e' c = .bool false := (plain_eq h1 rfl).symm
   simp only [execOp, Sem.run_bind, h2, asBool, Sem.run_pure, Result.andThen_ok]
   exact .val ρ.le_refl (hev b (by simp)) hR
  ·exact absurd h (by simp)
 case extract t i =>
  unfold extractA at h
  split at h
  ·rename_i vs ht
   split at h
   ·rename_i v hv
    cases h
    have h1 := hev t (by simp)
    rw [ht] at h1
    generalize hq : e' t = q at h1
    cases h1 with
    | pure _ hpp => exact absurd hpp (by simp [isP])
    | tuple a b =>
     obtain ⟨v', hv', hrel⟩ := ARel.get ⟨a, b⟩ hv
     simp only [execOp, Sem.run_bind, hq, Instr.extract, hv', Sem.run_pure, Result.andThen_ok]
     exact .val ρ.le_refl hrel hR
   ·exact absurd h (by simp)
  ·exact absurd h (by simp)
 case alloc e =>
  unfold allocA at h
  split at h
  ·rename_i z hz
   unfold boxA at h
   split at h
   ·rename_i id σ' hn
    cases h
    obtain ⟨ρ', a, b, c⟩ := ok_var hR hn (plain_cells (zeroT_plain hz))
    have : (execOp e' { dst := dst, op := .alloc e, type := type, pos := pos, after := after, guard := guard }).run P w = .ok (.value (.pointer (some ⟨w.heap.size, 0, none⟩))) (w.alloc (.cells z.cells e)) := by
     simp [execOp, Instr.alloc, run_zeroT hz, newVar, newRow]
    rw [this]
    exact .eff a b c
   ·exact absurd h (by simp)
  ·exact absurd h (by simp)
 case box e x =>
  unfold boxA at h
  split at h
  ·rename_i id σ' hn
   cases h
   obtain ⟨ρ', a, b, c⟩ := ok_var hR hn (hev x (by simp)).cellsA
   have : (execOp e' { dst := dst, op := .box e x, type := type, pos := pos, after := after, guard := guard }).run P w = .ok (.value (.pointer (some ⟨w.heap.size, 0, none⟩))) (w.alloc (.cells (e' x).cells e)) := by
    simp [execOp, Instr.box, newVar, newRow]
   rw [this]
   exact .eff a b c
  ·exact absurd h (by simp)
 case build t parts =>
  cases hb : buildA P t (parts.map fun (i, x) => (i, ev x)) with
  | none => rw [hb] at h; simp [valOf] at h
  | some v =>
   rw [hb] at h
   simp only [valOf, Option.some.injEq] at h
   subst h
   have hp : PaRel ρ (parts.map fun (i, x) => (i, ev x)).toList (parts.map fun (i, x) => (i, e' x)).toList := by
    refine ⟨by simp, fun i x y hx hy => ?_⟩
    simp only [Array.toList_map, List.getElem?_map] at hx hy
    cases hq : parts.toList[i]? with
    | none => rw [hq] at hx; simp at hx
    | some q =>
     rw [hq] at hx hy
     simp at hx hy
     subst hx; subst hy
     exact ⟨rfl, hev q.2 (by simp; exact ⟨q.1, by rw [← Array.mem_toList_iff]; exact List.mem_of_getElem? hq⟩)⟩
   obtain ⟨v', hrun, hrel⟩ := ok_build (w := w) hb hp
   simp only [execOp, Sem.run_bind, hrun, Result.andThen_ok, Sem.run_pure]
   exact .val ρ.le_refl hrel hR
 case buildSlice t len parts =>
  unfold buildSliceA at h
  split at h
  ·rename_i elem hu
   split at h
   ·rename_i k z hk hz
    split at h
    ·rename_i hb
     simp only [Bool.and_eq_true] at hb
     obtain ⟨⟨b1, b2⟩, b3⟩ := hb
     have b1 := ble_t b1; have b2 := ble_t b2; have b3 := beq_t b3
     split at h
     ·rename_i cs hf
      split at h
      ·rename_i id σ' hn
       cases h
       have hp : PaRel ρ (parts.map fun (i, x) => (i, ev x)).toList (parts.map fun (i, x) => (i, e' x)).toList := by
        refine ⟨by simp, fun i x y hx hy => ?_⟩
        simp only [Array.toList_map, List.getElem?_map] at hx hy
        cases hq : parts.toList[i]? with
        | none => rw [hq] at hx; simp at hx
        | some q =>
         rw [hq] at hx hy
         simp at hx hy
         subst hx; subst hy
         exact ⟨rfl, hev q.2 (by simp; exact ⟨q.1, by rw [← Array.mem_toList_iff]; exact List.mem_of_getElem? hq⟩)⟩
       obtain ⟨cs', hf', hrel⟩ := fill_rel _ _ _ _ _ _ hp (madeRow_rel (plain_cells (zeroT_plain hz)) (len * k) (by omega)) hf
       obtain ⟨ρ', a, b, c⟩ := ok_row hR hn hrel (Nat.le_refl len) (by
        have : len * 1 ≤ len * k := Nat.mul_le_mul_left _ b2
        omega)
       have : (execOp e' { dst := dst, op := .buildSlice t len parts, type := type, pos := pos, after := after, guard := guard }).run P w = .ok (.value (.slice (some ⟨w.heap.size, 0, none⟩) len len)) (w.alloc (.cells cs' elem)) := by
        have hnot : ¬ (len * k > 2 ^ 24) := by omega
        by_cases h0 : len * k = 0
        ·have hrow : madeRow z.cells (len * k) = (Array.range (len * k)).map ((#[] : Array Value)[· % (#[] : Array Value).size]!) := by
          rw [h0]; simp [madeRow, Array.range_zero']
         rw [hrow] at hf'
         simp only [execOp, Instr.buildSlice, Sem.run_bind, run_underlying hu, Result.andThen_ok, run_sizeT hk, Sem.run_ite, if_neg hnot, if_pos h0, Sem.run_pure, hf', newRow, run_newObj]
         rfl
        ·have hf2 : Instr.fill (fun i => some (i * k, k)) ((Array.range (len * k)).map (z.cells[· % z.cells.size]!)) (parts.map fun (i, x) => (i, e' x)).toList = some cs' := hf'
         simp only [execOp, Instr.buildSlice, Sem.run_bind, run_underlying hu, Result.andThen_ok, run_sizeT hk, Sem.run_ite, if_neg hnot, if_neg h0, run_zeroT hz, Sem.run_pure, hf2, newRow, run_newObj]
         rfl
       rw [this]
       exact .eff a b c
      ·exact absurd h (by simp)
     ·exact absurd h (by simp)
    ·exact absurd h (by simp)
   ·exact absurd h (by simp)
  ·exact absurd h (by simp)
 case load t a =>
  cases hl : loadA P σ t (ev a) with
  | none => rw [hl] at h; simp [valOf, skipOf] at h
  | some v =>
   rw [hl] at h
   simp only [valOf, Option.some.injEq] at h
   subst h
   obtain ⟨v', hrun, hrel⟩ := ok_load (P := P) hR hl (hev a (by simp))
   simp only [execOp, Sem.run_bind, hrun, Result.andThen_ok, Sem.run_pure]
   exact .val ρ.le_refl hrel hR
 case store t a x =>
  cases hl : storeA P σ t (ev a) (ev x) with
  | none => rw [hl] at h; simp [valOf, skipOf] at h
  | some σ' =>
   rw [hl] at h
   simp only [skipOf, Option.some.injEq] at h
   subst h
   obtain ⟨w', hrun, hR'⟩ := ok_store (P := P) hR hl (hev a (by simp)) (hev x (by simp))
   simp only [execOp, Sem.run_bind, hrun, Result.andThen_ok, Sem.run_pure]
   exact .skip ρ.le_refl hR'
 case nilCheck x =>
  have h1 := hev x (by simp)
  generalize hq : e' x = q at h1
  unfold nilCheckA at h
  split at h
  ·rename_i a he
   cases h
   rw [he] at h1
   cases h1 with
   | pure _ hpp => exact absurd hpp (by simp [isP])
   | ptr hL =>
    simp only [execOp, hq]
    exact .val ρ.le_refl (.ptr hL) hR
  ·rename_i f a c he
   cases h
   rw [he] at h1
   cases h1 with
   | pure _ hpp => exact absurd hpp (by simp [isP])
   | func p0 p1 p2 p3 p4 =>
    simp only [execOp, hq]
    exact .val ρ.le_refl (.func p0 p1 p2 p3 p4) hR
  ·rename_i o a c he
   cases h
   rw [he] at h1
   obtain ⟨a2, g, rfl, _, _⟩ := h1.fpt_inv
   simp only [execOp, hq]
   exact .val ρ.le_refl h1 hR
  ·rename_i t v he
   cases h
   rw [he] at h1
   cases h1 with
   | pure _ hpp => exact absurd hpp (by simp [isP])
   | iface p =>
    simp only [execOp, hq]
    exact .val ρ.le_refl (.iface p) hR
  ·exact absurd h (by simp)
 case binOp op t x y yt =>
  unfold binA at h
  split at h
  ·rename_i v hv
   cases h
   obtain ⟨hrun, hvv⟩ := ok_intBin (P := P) (w := w) hv (hev x (by simp)) (hev y (by simp)) t x y
   simp only [execOp, Sem.run_bind] at hrun ⊢
   rw [hrun]
   exact .val ρ.le_refl hvv hR
  ·split at h
   ·rename_i v hv
    cases h
    unfold eqBin at hv
    split at hv
    ·split at hv
     ·rename_i b hb
      cases hv
      have := ok_eqNil (w := w) hb (hev x (by simp)) (hev y (by simp)) .eql x y (.inl rfl)
      simp only [execOp, Sem.run_bind] at this ⊢
      rw [this]
      exact .val ρ.le_refl (.bool _) hR
     ·exact absurd hv (by simp)
    ·split at hv
     ·rename_i b hb
      cases hv
      have := ok_eqNil (w := w) hb (hev x (by simp)) (hev y (by simp)) .neq x y (.inr rfl)
      simp only [execOp, Sem.run_bind] at this ⊢
      rw [this]
      exact .val ρ.le_refl (.bool _) hR
     ·exact absurd hv (by simp)
    ·exact absurd hv (by simp)
   ·split at h
    ·rename_i hp
     simp only [Bool.and_eq_true] at hp
     refine ok_pure hR (by simp) h ?_
     intro u hu
     simp only [Op.operands] at hu
     simp at hu
     rcases hu with rfl | rfl
     ·exact plain_eq (hev _ (by simp)) hp.1
     ·exact plain_eq (hev _ (by simp)) hp.2
    ·cases hl : lookBin op (ev x) (ev y) X.bin with
     | none => rw [hl] at h; simp at h
     | some v =>
      rw [hl] at h
      simp only [Option.map_some, Option.some.injEq] at h
      subst h
      obtain ⟨r', hrun, hrel⟩ := hX.bin _ _ _ _ (lookBin_mem hl) ρ hR.says t x y _ _ w (hev x (by simp)) (hev y (by simp))
      simp only [execOp, Sem.run_bind] at hrun ⊢
      rw [hrun]
      exact .val ρ.le_refl hrel hR
 case unOp op t x =>
  unfold unA at h
  split at h
  ·rename_i v hv
   cases h
   unfold notA at hv
   split at hv
   ·rename_i b hb
    cases hv
    have h1 := hev x (by simp)
    rw [hb] at h1
    have h2 : e' x = .bool b := (plain_eq h1 rfl).symm
    simp only [execOp, Sem.run_bind, h2, Op.unary, Sem.run_pure, Result.andThen_ok]
    exact .val ρ.le_refl (.bool _) hR
   ·exact absurd hv (by simp)
  ·split at h
   ·rename_i hp
    refine ok_pure hR (by simp) h ?_
    intro u hu
    simp only [Op.operands] at hu
    simp at hu
    subst hu
    exact plain_eq (hev _ (by simp)) hp
   ·cases hl : lookUn op (ev x) X.un with
    | none => rw [hl] at h; simp at h
    | some v =>
     rw [hl] at h
     simp only [Option.map_some, Option.some.injEq] at h
     subst h
     obtain ⟨r', hrun, hrel⟩ := hX.un _ _ _ (lookUn_mem hl) ρ hR.says _ w (hev x (by simp))
     simp only [execOp, Sem.run_bind] at hrun ⊢
     rw [hrun]
     exact .val ρ.le_refl hrel hR
 case index t x i =>
  unfold indexA at h
  split at h
  ·rename_i hp
   simp only [Bool.and_eq_true] at hp
   refine ok_pure hR (by simp) h ?_
   intro u hu
   simp only [Op.operands] at hu
   simp at hu
   rcases hu with rfl | rfl
   ·exact plain_eq (hev _ (by simp)) hp.1
   ·exact plain_eq (hev _ (by simp)) hp.2
  ·exact absurd h (by simp)
 case convert s d x =>
  unfold convA at h
  split at h
  ·rename_i v hv
   cases h
   unfold intConv at hv
   split at hv
   ·rename_i k n hx
    have h1 := hev x (by simp)
    rw [hx] at h1
    have h2 := h1.int_inv
    split at hv
    ·rename_i ds k' hs hd
     cases hv
     simp only [execOp, Sem.run_bind, h2, convert, run_underlying hs, run_underlying hd, Result.andThen_ok, Conv.intToInt, Sem.run_pure]
     exact .val ρ.le_refl (.int _ _) hR
    ·exact absurd hv (by simp)
   ·exact absurd hv (by simp)
  ·split at h
   ·rename_i r' hc
    cases h
    obtain ⟨v', w', ρ', hrun, hle, hr⟩ := ok_convert (P := P) hR hc (hev x (by simp))
    simp only [execOp, Sem.run_bind, hrun, Result.andThen_ok, Sem.run_pure]
    rcases hr with ⟨v, rfl, hv, hR'⟩ | ⟨v, σ', rfl, hv, hR'⟩
    ·exact .val hle hv hR'
    ·exact .eff hle hv hR'
   ·split at h
    ·rename_i hp
     refine ok_pure hR (by simp) h ?_
     intro u hu
     simp only [Op.operands] at hu
     simp at hu
     subst hu
     exact plain_eq (hev _ (by simp)) hp
    ·cases hl : lookConv s d (ev x) X.conv with
     | none => rw [hl] at h; simp at h
     | some v =>
      rw [hl] at h
      simp only [Option.map_some, Option.some.injEq] at h
      subst h
      obtain ⟨r', hrun, hrel⟩ := hX.conv _ _ _ _ (lookConv_mem hl) ρ hR.says _ w (hev x (by simp))
      simp only [execOp, Sem.run_bind, hrun, Result.andThen_ok, Sem.run_pure]
      exact .val ρ.le_refl hrel hR
 case makeInterface t x =>
  unfold makeIfaceA at h
  split at h
  ·exact absurd h (by simp)
  ·exact absurd h (by simp)
  ·rename_i d hne hu
   cases h
   have hcon : P.concrete t = true := by
    unfold Program.concrete
    rw [hu]
    cases d <;> first | rfl | exact (hne _ rfl).elim
   simp only [execOp, Sem.run_bind, run_makeInterface w t (e' x) hcon, Result.andThen_ok, Sem.run_pure]
   exact .val ρ.le_refl (.iface (hev x (by simp))) hR
 case makeFunc fn first captured =>
  split at h
  ·rename_i hfn
   cases h
   have h1 := ARel.map (ρ := ρ) (xs := first) (ev := ev) (e' := e') fun x hx => hev x (by simp [hx])
   have h2 := ARel.map (ρ := ρ) (xs := captured) (ev := ev) (e' := e') fun x hx => hev x (by simp [hx])
   simp only [execOp, Instr.makeFunc, Sem.run_bind, Sem.run_pure, Result.andThen_ok]
   exact .val ρ.le_refl (.func hfn h1.1 h1.2 h2.1 h2.2) hR
  ·exact absurd h (by simp)
 case makeMap t r0 =>
  unfold makeMapA at h
  split at h
  ·rename_i id σ' hn
   cases h
   obtain ⟨hid, _, _⟩ := AW.new_eq hn
   have hle : ρ.le (ρ.put id ⟨w.heap.size, 0, 0, 0, none, none⟩) := Rho.le_put (by rw [hid]; exact hR.dom _ (Nat.le_refl _))
   obtain ⟨h1, h2⟩ := hR.alloc hn (L := ⟨w.heap.size, 0, 0, 0, none, none⟩) (p := .map #[] 0) rfl rfl rfl (fun _ _ _ e => by cases e) ⟨rfl, rfl, fun i e e' x => by simp at x⟩
   have : (execOp e' { dst := dst, op := .makeMap t none, type := type, pos := pos, after := after, guard := guard }).run P w = .ok (.value (.map (some w.heap.size))) (w.alloc (.map #[] 0)) := by
    simp [execOp, Instr.makeMap]
   rw [this]
   exact .eff h1 (.map (Rho.put_same _ _ _)) h2
  ·exact absurd h (by simp)
 case makeSlice t l c =>
  unfold mkA at h
  split at h
  ·rename_i hmk
   simp only [Bool.and_eq_true] at hmk
   obtain ⟨⟨hm1, hm2⟩, hm3⟩ := hmk
   cases h
   have hlc : ev l = ev c := sameN_eq _ _ _ hm2
   have h1 := hev l (by simp)
   have h2 := hev c (by simp)
   rw [← hlc] at h2
   obtain ⟨n, o, hl', hspec, hrun⟩ := hX.made _ _ _ (lookMk_mem hm1) ρ hR.says (e' l) w h1
   have hcl : e' c = e' l := by
    rw [hl'] at h1
    generalize hq : ev l = q at h1 h2
    cases h1 with
    | pure hpr hpp => exact (by cases hpr; simp [isP] at hpp)
    | int => rw [hl']; exact h2.int_inv
    | @sym id L v ha hb hc =>
     generalize hq2 : e' c = q2 at h2
     cases h2 with
     | pure _ hpp => exact absurd hpp (by simp [isP])
     | @sym id2 L2 v2 ha2 hb2 hc2 =>
      rw [ha] at ha2
      cases ha2
      rw [hb] at hb2
      cases hb2
      rw [hl']
   obtain ⟨hle, hR'⟩ := hR.name (L := ⟨w.heap.size, 0, 0, 0, some (.slice (some ⟨w.heap.size, 0, none⟩) n n), some o⟩) (fun _ _ => ⟨_, rfl⟩) (fun _ _ => hspec) (blt_t hm3) (w' := w.alloc o) rfl rfl rfl (by show w.heap.size ≤ (w.heap.push o).size; rw [Array.size_push]; omega)
    (fun b hb => heap_alloc_old w o b hb) (fun o' e => by cases e; exact ⟨heap_alloc_new w o, Nat.le_refl _⟩)
   simp only [execOp, Sem.run_bind, hcl, hrun, Result.andThen_ok, Sem.run_pure]
   exact .eff hle (.sym (Rho.put_same _ _ _) rfl rfl) hR'
  unfold makeSliceA at h
  split at h
  ·rename_i elem kl l kc c hu hl hc
   split at h
   ·rename_i i z hi hz
    split at h
    ·rename_i hb
     simp only [Bool.and_eq_true] at hb
     obtain ⟨⟨⟨⟨b1, b2⟩, b3⟩, b4⟩, b5⟩ := hb
     have b1 := ble_t b1; have b2 := ble_t b2; have b3 := ble_t b3; have b4 := beq_t b4; have b5 := ble_t b5
     split at h
     ·rename_i id σ' hn
      cases h
      have e1 : e' _ = _ := (hl ▸ hev _ (by simp)).int_inv
      have e2 : e' _ = _ := (hc ▸ hev _ (by simp)).int_inv
      have hzr : i.zero = some z := by
       unfold zeroT at hz
       rw [hi] at hz
       simp only [Option.bind_some] at hz
       split at hz
       ·rename_i z' hz'
        split at hz
        ·cases hz; exact hz'
        ·exact absurd hz (by simp)
       ·exact absurd hz (by simp)
      obtain ⟨ρ', a, b, cR⟩ := ok_row hR hn (madeRow_rel (plain_cells (zeroT_plain hz)) (c * i.size) (by omega)) b1 (by omega)
      have hm := run_make (P := P) w t elem i z hu hi hzr kl kc (Int.ofNat l) (Int.ofNat c) (Int.natCast_nonneg _) (by show (l : Int) ≤ (c : Int); omega)
       (by show (i.bytes : Int) * (c : Int) ≤ _; have : ((i.bytes * c : Nat) : Int) ≤ 281474976710656 := by omega
           rwa [Int.natCast_mul] at this) (by show (c : Int) ≤ _; omega)
      simp only [execOp, Sem.run_bind, e1, e2, hm, Result.andThen_ok, Sem.run_pure]
      exact .eff a b cR
     ·exact absurd h (by simp)
    ·exact absurd h (by simp)
   ·exact absurd h (by simp)
  ·exact absurd h (by simp)
 case slice t x lo hi mx =>
  have opr : ∀ y : Option Operand, (∀ u, y = some u → VRel ρ (ev u) (e' u)) → OpRel ρ (y.map ev) (y.map e') := by
   intro y hy
   cases y with
   | none => exact trivial
   | some u => exact hy u rfl
  unfold slcA at h
  split at h
  ·rename_i s hs
   split at h
   ·rename_i hp
    refine ok_pure hR (by simp) h ?_
    exact all_same hev hp
   ·exact absurd h (by simp)
  ·obtain ⟨v, v', rfl, hrun, hrel⟩ := ok_slice (P := P) hR h (hev x (by simp)) (opr lo fun u hu => hev u (by simp [hu])) (opr hi fun u hu => hev u (by simp [hu])) (opr mx fun u hu => hev u (by simp [hu]))
   simp only [execOp, Sem.run_bind, hrun, Result.andThen_ok, Sem.run_pure]
   exact .val ρ.le_refl hrel hR
 case fieldAddr s x f =>
  cases hl : fieldAddrA P s (ev x) f with
  | none => rw [hl] at h; simp [valOf, skipOf] at h
  | some v =>
   rw [hl] at h
   simp only [valOf, Option.some.injEq] at h
   subst h
   obtain ⟨v', hrun, hrel⟩ := ok_field (P := P) (w := w) hl (hev x (by simp))
   simp only [execOp, Sem.run_bind, hrun, Result.andThen_ok, Sem.run_pure]
   exact .val ρ.le_refl hrel hR
 case field t x f =>
  cases hl : fieldA P t (ev x) f with
  | none => rw [hl] at h; simp [valOf, skipOf] at h
  | some v =>
   rw [hl] at h
   simp only [valOf, Option.some.injEq] at h
   subst h
   obtain ⟨v', hrun, hrel⟩ := ok_fieldv (P := P) (w := w) hl (hev x (by simp))
   simp only [execOp, Sem.run_bind, hrun, Result.andThen_ok, Sem.run_pure]
   exact .val ρ.le_refl hrel hR
 case indexAddr t x i =>
  cases hl : indexAddrA P t (ev x) (ev i) with
  | none => rw [hl] at h; simp [valOf, skipOf] at h
  | some v =>
   rw [hl] at h
   simp only [valOf, Option.some.injEq] at h
   subst h
   obtain ⟨v', hrun, hrel⟩ := ok_indexAddr (P := P) (w := w) hl (hev x (by simp)) (hev i (by simp))
   simp only [execOp, Sem.run_bind, hrun, Result.andThen_ok, Sem.run_pure]
   exact .val ρ.le_refl hrel hR
 case lookup t x i ok =>
  unfold lookupR at h
  split at h
  ·rename_i v hl
   cases h
   obtain ⟨v', hrun, hrel⟩ := ok_lookup (P := P) hR hl (hev x (by simp)) (hev i (by simp))
   simp only [execOp, Sem.run_bind, hrun, Result.andThen_ok, Sem.run_pure]
   exact .val ρ.le_refl hrel hR
  ·cases hl : lookupK P X σ t (ev x) (ev i) ok with
   | none => rw [hl] at h; simp [lookupR.valOfK] at h
   | some v =>
    rw [hl] at h
    simp only [lookupR.valOfK, Option.some.injEq] at h
    subst h
    obtain ⟨v', hrun, hrel⟩ := ok_lookupK (P := P) hR hX hl (hev x (by simp)) (hev i (by simp))
    simp only [execOp, Sem.run_bind, hrun, Result.andThen_ok, Sem.run_pure]
    exact .val ρ.le_refl hrel hR
 case mapUpdate t m k v =>
  cases hl : mapUpdateA P σ t (ev m) (ev k) (ev v) with
  | none => rw [hl] at h; simp [valOf, skipOf] at h
  | some σ' =>
   rw [hl] at h
   simp only [skipOf, Option.some.injEq] at h
   subst h
   obtain ⟨w', hrun, hR'⟩ := ok_update (P := P) hR hl (hev m (by simp)) (hev k (by simp)) (hev v (by simp))
   simp only [execOp, Sem.run_bind, hrun, Result.andThen_ok, Sem.run_pure]
   exact .skip ρ.le_refl hR'
 case insert t m k v =>
  cases hl : mapUpdateA P σ t (ev m) (ev k) (ev v) with
  | none => rw [hl] at h; simp [valOf, skipOf] at h
  | some σ' =>
   rw [hl] at h
   simp only [skipOf, Option.some.injEq] at h
   subst h
   obtain ⟨w', hrun, hR'⟩ := ok_update (P := P) hR hl (hev m (by simp)) (hev k (by simp)) (hev v (by simp))
   simp only [execOp, Sem.run_bind, hrun, Result.andThen_ok, Sem.run_pure]
   exact .skip ρ.le_refl hR'
 case range t x =>
  unfold rangeR at h
  split at h
  ·rename_i v σ' hl
   cases h
   obtain ⟨v', w', ρ', hrun, hle, hrel, hR'⟩ := ok_range (P := P) hR hl (hev x (by simp))
   simp only [execOp, Sem.run_bind, hrun, Result.andThen_ok, Sem.run_pure]
   exact .eff hle hrel hR'
  ·exact absurd h (by simp)
 case next it s =>
  obtain ⟨v', w', hrun, hr⟩ := ok_next (P := P) (ty := type) hR h (hev it (by simp))
  simp only [execOp, Sem.run_bind, hrun, Result.andThen_ok, Sem.run_pure]
  rcases hr with ⟨v, rfl, hv, hR'⟩ | ⟨v, σ', rfl, hv, hR'⟩
  ·exact .val ρ.le_refl hv hR'
  ·exact .eff ρ.le_refl hv hR'
 case entry it =>
  cases hl : entryA σ (ev it) with
  | none => rw [hl] at h; simp [valOf, skipOf] at h
  | some v =>
   rw [hl] at h
   simp only [valOf, Option.some.injEq] at h
   subst h
   obtain ⟨v', hrun, hrel⟩ := ok_entry (P := P) hR hl (hev it (by simp))
   simp only [execOp, Sem.run_bind, hrun, Result.andThen_ok, Sem.run_pure]
   exact .val ρ.le_refl hrel hR
 case typeAssert x xt t ok =>
  unfold assertA at h
  have h1 := hev x (by simp)
  split at h
  ·exact absurd h (by simp)
  ·exact absurd h (by simp)
  ·rename_i d t' v hne hu hx
   rw [hx] at h1
   generalize hq : e' x = q at h1
   cases h1 with
   | pure _ hpp => exact absurd hpp (by simp [isP])
   | iface p =>
    rename_i v'
    have hd : ∀ is, d ≠ .interface is := fun is e => hne is e
    split at h
    ·rename_i ht
     have ht : t' = t := Nat.eq_of_beq_eq_true ht
     cases h
     have : (Instr.typeAssert (.iface t' v') xt t ok).run P w = .ok (if ok then .tuple #[v', .bool true] else v') w := by
      cases d <;> first | exact absurd rfl (hd _) | simp [Instr.typeAssert, run_underlying hu, ht]
     simp only [execOp, Sem.run_bind, hq, this, Result.andThen_ok, Sem.run_pure]
     refine .val ρ.le_refl ?_ hR
     cases ok
     ·exact p
     ·exact .tuple rfl (fun i a b x y => match i, x, y with
       | 0, x, y => by simp at x y; subst x; subst y; exact p
       | 1, x, y => by simp at x y; subst x; subst y; exact .bool _
       | i + 2, x, _ => by simp at x)
    ·rename_i ht
     have ht : ¬ t' = t := fun e => by subst e; simp at ht
     split at h
     ·rename_i z hz
      cases h
      have : (Instr.typeAssert (.iface t' v') xt t true).run P w = .ok (.tuple #[z, .bool false]) w := by
       cases d <;> first | exact absurd rfl (hd _) | simp [Instr.typeAssert, run_underlying hu, ht, run_zeroT hz]
      simp only [execOp, Sem.run_bind, hq, this, Result.andThen_ok, Sem.run_pure]
      refine .val ρ.le_refl (.tuple rfl fun i a b x y => match i, x, y with
       | 0, x, y => by simp at x y; subst x; subst y; exact plain_rel ρ (zeroT_plain hz)
       | 1, x, y => by simp at x y; subst x; subst y; exact .bool _
       | i + 2, x, _ => by simp at x) hR
     ·exact absurd h (by simp)
  ·rename_i d hne hu hx
   rw [hx] at h1
   have hq : e' x = .nilIface := (plain_eq h1 rfl).symm
   have hd : ∀ is, d ≠ .interface is := fun is e => hne is e
   split at h
   ·rename_i z hz
    cases h
    have : (Instr.typeAssert .nilIface xt t true).run P w = .ok (.tuple #[z, .bool false]) w := by
     cases d <;> first | exact absurd rfl (hd _) | simp [Instr.typeAssert, run_underlying hu, run_zeroT hz]
    simp only [execOp, Sem.run_bind, hq, this, Result.andThen_ok, Sem.run_pure]
    refine .val ρ.le_refl (.tuple rfl fun i a b x y => match i, x, y with
     | 0, x, y => by simp at x y; subst x; subst y; exact plain_rel ρ (zeroT_plain hz)
     | 1, x, y => by simp at x y; subst x; subst y; exact .bool _
     | i + 2, x, _ => by simp at x) hR
   ·exact absurd h (by simp)
  ·exact absurd h (by simp)
 case panic x =>
  unfold panicA at h
  split at h
  ·rename_i t v hx
   cases h
   have h1 := hev x (by simp)
   rw [hx] at h1
   generalize hq : e' x = q at h1
   cases h1 with
   | pure _ hpp => exact absurd hpp (by simp [isP])
   | iface p =>
    simp only [execOp, Sem.run_bind, hq, Instr.panic, run_goPanic, Result.andThen_halt]
    exact .pan (.iface p) hR
  ·exact absurd h (by simp)
 case defer c =>
  unfold deferA at h
  obtain ⟨callee, args, ats⟩ := c
  cases callee with
  | invoke a b => exact absurd h (by simp)
  | builtin b => exact absurd h (by simp)
  | value f =>
   simp only at h
   have h1 := hev f (by simp [Call.operands])
   have h2 := ARel.map (ρ := ρ) (xs := args) (ev := ev) (e' := e') fun x hx => hev x (by simp [Call.operands, hx])
   generalize hq : e' f = q at h1
   split at h
   ·rename_i fid first captured hf
    rw [hf] at h1
    cases h1 with
    | pure _ hpp => exact absurd hpp (by simp [isP])
    | @func _ _ b _ d p0 p1 p2 p3 p4 =>
    cases h
    have : (execOp e' { dst := dst, op := .defer ⟨.value f, args, ats⟩, type := type, pos := pos, after := after, guard := guard }).run P w = .ok (.defer { target := .fn (.func fid) d, args := b ++ args.map e' }) w := by
     simp [execOp, resolve, hq, Deferred.ofValue]
    rw [this]
    exact .defer ⟨p3, p4⟩ (ARel.append ⟨p1, p2⟩ h2) hR
   ·exact absurd h (by simp)
 case call c =>
  unfold callA at h
  obtain ⟨callee, args, ats⟩ := c
  cases callee with
  | invoke a b => exact absurd h (by simp)
  | value f =>
   simp only at h
   have h1 := hev f (by simp [Call.operands])
   have h2 := ARel.map (ρ := ρ) (xs := args) (ev := ev) (e' := e') fun x hx => hev x (by simp [Call.operands, hx])
   cases hfo : funcOf P (ev f) (args.map ev) with
   | some r0 =>
    rw [hfo] at h
    cases h
    unfold funcOf at hfo
    generalize hq : e' f = q at h1
    split at hfo
    ·rename_i fid first captured hf
     rw [hf] at h1
     cases h1 with
     | pure _ hpp => exact absurd hpp (by simp [isP])
     | @func _ _ b _ d p0 p1 p2 p3 p4 =>
     split at hfo
     ·rename_i fn hfn
      split at hfo
      ·exact absurd hfo (by simp)
      ·rename_i hc
       cases hfo
       simp only [Bool.or_eq_true, not_or, Bool.not_eq_true] at hc
       obtain ⟨hc1, hc2⟩ := hc
       have hc3 : ¬ fn.name = "runtime.NumGoroutine" := by simpa using hc1
       have hc4 : ¬ fn.body = none := by intro e; rw [e] at hc2; simp at hc2
       have : (execOp e' { dst := dst, op := .call ⟨.value f, args, ats⟩, type := type, pos := pos, after := after, guard := guard }).run P w = .ok (.enter fid ((b ++ args.map e') ++ d)) w := by
        simp [execOp, resolve, hq, Deferred.ofValue, invoke, callFunc, hfn, hc3, hc4]
       rw [this]
       exact .call (ARel.append (ARel.append ⟨p1, p2⟩ h2) ⟨p3, p4⟩) hR
     ·exact absurd hfo (by simp)
    ·exact absurd hfo (by simp)
   | none =>
    rw [hfo] at h
    simp only at h
    split at h
    ·rename_i hp
     exact ok_pure hR (by simp) h (all_same hev hp)
    ·unfold noEscA at h
     generalize hq : e' f = q at h1
     split at h
     ·rename_i fid first captured v hf hargs
      rw [hf] at h1
      cases h1 with
      | pure _ hpp => exact absurd hpp (by simp [isP])
      | @func _ _ b _ d p0 p1 p2 p3 p4 =>
      split at h
      ·rename_i fn hfn hfi hca
       split at h
       ·rename_i hc
        cases h
        simp only [Bool.and_eq_true] at hc
        obtain ⟨⟨hc1, hc2⟩, hc3⟩ := hc
        have hb0 : b = #[] := by
         have : first = #[] := by apply Array.ext'; simpa using hfi
         rw [this] at p1
         exact Array.eq_empty_of_size_eq_zero p1.symm
        have hd0 : d = #[] := by
         have : captured = #[] := by apply Array.ext'; simpa using hca
         rw [this] at p3
         exact Array.eq_empty_of_size_eq_zero p3.symm
        subst hb0; subst hd0
        obtain ⟨v', hv', hvr⟩ : ∃ v', args.map e' = #[v'] ∧ VRel ρ v v' := by
         have e1 : args.map ev = #[v] := by apply Array.ext'; simpa using hargs
         rw [e1] at h2
         generalize hm : args.map e' = m at h2
         obtain ⟨l⟩ := m
         have hsz := h2.1
         match l, hsz, h2 with
         | [v'], _, h2 => exact ⟨v', rfl, h2.2 0 v v' rfl rfl⟩
        have hext := run_noEscape (P := P) hfn hc1 hc2 hc3 v' w
        have : (execOp e' { dst := dst, op := .call ⟨.value f, args, ats⟩, type := type, pos := pos, after := after, guard := guard }).run P w = .ok (.value v') w := by
         rw [← hext]
         simp [execOp, resolve, hq, Deferred.ofValue, invoke, hv']
        rw [this]
        exact .val ρ.le_refl hvr hR
       ·exact absurd h (by simp)
      ·exact absurd h (by simp)
     ·exact absurd h (by simp)
  | builtin b =>
   have h2 := ARel.map (ρ := ρ) (xs := args) (ev := ev) (e' := e') fun x hx => hev x (by simp [Call.operands, hx])
   have run : (execOp e' { dst := dst, op := .call ⟨.builtin b, args, ats⟩, type := type, pos := pos, after := after, guard := guard }).run P w =
     (builtin b ats type (args.map fun | .const _ => true | _ => false) (args.map e')).run P w := rfl
   simp only at h
   unfold builtinR at h
   split at h
   ·cases h
    rw [run]
    exact .recover hR
   ·split at h
    ·rename_i hp
     exact ok_pure hR (by simp) h (all_same hev hp)
    ·exact absurd h (by simp)
   ·split at h
    ·rename_i hp
     exact ok_pure hR (by simp) h (all_same hev hp)
    ·exact absurd h (by simp)
   ·rw [run]
    split at h
    ·rename_i t x hs ha
     obtain ⟨x', hx', hxr⟩ := h2.get ha
     split at h
     ·rename_i v hl
      cases h
      obtain ⟨hrun, hv⟩ := ok_len (P := P) (ty := type) hR hs hl hxr _ hx'
      simp only [builtin, Sem.run_bind, hrun, Result.andThen_ok, Sem.run_pure]
      exact .val ρ.le_refl hv hR
     ·cases hl : lookLen t x X.len with
      | none => rw [hl] at h; simp at h
      | some v =>
       rw [hl] at h
       simp only [Option.map_some, Option.some.injEq] at h
       subst h
       obtain ⟨r', hrun, hrel⟩ := hX.len _ _ _ (lookLen_mem hl) ρ hR.says ats type _ _ w hs hx' hxr
       simp only [builtin, Sem.run_bind, hrun, Result.andThen_ok, Sem.run_pure]
       exact .val ρ.le_refl hrel hR
    ·exact absurd h (by simp)
   ·rw [run]
    unfold builtinA at h
    split at h
    ·split at h
     ·rename_i sT s x hs ha hb
      obtain ⟨s', hs', hsr⟩ := h2.get ha
      obtain ⟨x', hx', hxr⟩ := h2.get hb
      obtain ⟨v', w', ρ', hrun, hle, hr⟩ := ok_append (P := P) (ty := type) hR hs h hsr hxr _ hs' hx'
      simp only [builtin, Sem.run_bind, hrun, Result.andThen_ok, Sem.run_pure]
      rcases hr with ⟨v, rfl, hv, hR'⟩ | ⟨v, σ', rfl, hv, hR'⟩
      ·exact .val hle hv hR'
      ·exact .eff hle hv hR'
     ·exact absurd h (by simp)
    ·split at h
     ·rename_i t x hs ha
      obtain ⟨x', hx', hxr⟩ := h2.get ha
      cases hl : capA P t x with
      | none => rw [hl] at h; simp [valOf, skipOf] at h
      | some v =>
       rw [hl] at h
       simp only [Option.map_some, Option.some.injEq] at h
       subst h
       obtain ⟨hrun, hv⟩ := ok_cap (P := P) (w := w) (ty := type) hs hl hxr _ hx'
       simp only [builtin, Sem.run_bind, hrun, Result.andThen_ok, Sem.run_pure]
       exact .val ρ.le_refl hv hR
     ·exact absurd h (by simp)
    ·split at h
     ·rename_i t m k hs ha hb
      obtain ⟨m', hm', hmr⟩ := h2.get ha
      obtain ⟨k', hk', hkr⟩ := h2.get hb
      cases hl : deleteA P σ t m k with
      | none => rw [hl] at h; simp [valOf, skipOf] at h
      | some q =>
       rw [hl] at h
       simp only [Option.map_some, Option.some.injEq] at h
       obtain ⟨w', hrun, hR'⟩ := ok_delete (P := P) (ty := type) hR hs hl hmr hkr _ hm' hk'
       simp only [builtin, Sem.run_bind, hrun, Result.andThen_ok, Sem.run_pure]
       cases q with
       | none => simp only at h; subst h; exact .val ρ.le_refl (plain_rel ρ rfl) hR'
       | some σ' => simp only at h; subst h; exact .eff ρ.le_refl (plain_rel ρ rfl) hR'
     ·exact absurd h (by simp)
    ·exact absurd h (by simp)
 all_goals exact absurd h (by simp)
end
end Vx
end Go
