import Derived.Test.YtcokmnpgeokfpaaDoorAmA
import Derived.MapKept
import Derived.Laws.Externs
import Derived.Laws.Build
/- The abstract machine's operations and the model's: the rest. -/
set_option linter.unusedVariables false
set_option linter.unusedSimpArgs false
namespace Go
namespace Am
section
variable {P : Program} {w0 : World} {S : Own} {σ : AW} {ρ : Rho} {w : World}

theorem run_pureOf {α : Type} {P : Program} : ∀ (s : Sem α) (a : α), pureOf P s = some a → ∀ w, s.run P w = .ok a w := by
  intro s
  induction s with
  | pure a => intro b h w; simp [pureOf] at h; subst h; rfl
  | program k ih => intro b h w; simp only [pureOf] at h; exact ih P b h w
  | mark m k ih => intro b h w; simp only [pureOf] at h; exact ih b h w
  | _ => intro b h; simp [pureOf] at h

theorem extract_rel {a b : Array Value} (h : ARel ρ a b) (i j : Nat) : ARel ρ (a.extract i j) (b.extract i j) := by
  refine ⟨by simp [h.1], fun k v v' x y => ?_⟩
  rw [Array.getElem?_extract] at x y
  split at x
  · rename_i c
    rw [if_pos (by rw [← h.1]; exact c)] at y
    exact h.2 _ v v' x y
  · exact absurd x (by simp)

theorem ARel.get {a b : Array Value} (h : ARel ρ a b) {i : Nat} {v : Value} (hv : a[i]? = some v) : ∃ v', b[i]? = some v' ∧ VRel ρ v v' := by
  have hi : i < a.size := by
    rcases Nat.lt_or_ge i a.size with g | g
    · exact g
    · rw [Array.getElem?_eq_none g] at hv; exact absurd hv (by simp)
  have hj : i < b.size := by rw [← h.1]; exact hi
  exact ⟨b[i], Array.getElem?_eq_getElem hj, h.2 i v _ hv (Array.getElem?_eq_getElem hj)⟩

theorem ok_part {t : TypeId} {a b : Array Value} {off : Nat} {v : Value} (h : partA P t a off = some v) (hr : ARel ρ a b) :
    ∃ v', (part t b off).run P w = .ok v' w ∧ VRel ρ v v' := by
  unfold partA at h
  split at h
  · rename_i n h1 h2
    cases h
    have := extract_rel hr off (off + n)
    exact ⟨.agg (b.extract off (off + n)), by simp [part, run_isAggT h1, run_sizeT h2], .agg this.1 this.2⟩
  · rename_i h1
    obtain ⟨v', hv', hrel⟩ := hr.get h
    exact ⟨v', by simp [part, run_isAggT h1, hv'], hrel⟩
  · exact absurd h (by simp)

theorem ok_fieldv {t : TypeId} {x x' v : Value} {f : Nat} (h : fieldA P t x f = some v) (hx : VRel ρ x x') :
    ∃ v', (Instr.field t x' f).run P w = .ok v' w ∧ VRel ρ v v' := by
  unfold fieldA at h
  split at h
  · rename_i fs cs hu
    split at h
    · rename_i fd hf
      cases hx with
      | agg h1 h2 =>
        obtain ⟨v', a, b⟩ := ok_part (P := P) (w := w) h ⟨h1, h2⟩
        exact ⟨v', by simp [Instr.field, run_underlying hu, hf, asAgg, a], b⟩
    · exact absurd h (by simp)
  · exact absurd h (by simp)

/- equality with nil -/
theorem equal_eq (t : TypeId) (x y : Value) : Op.equal t x y = Op.equalIn (9999 + 1) t x y := rfl

theorem ok_equalNil {t : TypeId} {x y x' y' : Value} {b : Bool} (h : eqNil P t x y = some b) (hx : VRel ρ x x') (hy : VRel ρ y y') :
    (Op.equal t x' y').run P w = .ok b w ∧ (∀ op xo yo, (eqGuard op t xo yo x' y').run P w = .ok () w) ∧
      binOp .eql t x' y' = (do pure (.bool (← Op.equal t x' y'))) ∧ binOp .neq t x' y' = (do pure (.bool (!(← Op.equal t x' y')))) := by
  unfold eqNil at h
  split at h
  case h_12 => simp at h
  all_goals
    rename_i hu
    simp only [Option.some.injEq] at h
    subst h
    cases hx <;> cases hy <;> refine ⟨?_, ?_, ?_, ?_⟩ <;> first
      | (rw [equal_eq, Op.equalIn, Sem.run_bind, run_underlying hu]; rfl)
      | (intro op xo yo; cases op <;> rfl)
      | rfl

theorem ok_eqNil {t : TypeId} {x y x' y' : Value} {b : Bool} (h : eqNil P t x y = some b) (hx : VRel ρ x x') (hy : VRel ρ y y') (op : BinOp) (xo yo : Operand)
    (hop : op = .eql ∨ op = .neq) :
    (do eqGuard op t xo yo x' y'; binOp op t x' y' : Sem Value).run P w = .ok (.bool (if op = .eql then b else !b)) w := by
  obtain ⟨h1, h2, h3, h4⟩ := ok_equalNil (w := w) h hx hy
  rcases hop with rfl | rfl
  · simp [h2, h3, h1]
  · simp [h2, h4, h1]

/- build -/
def PRel (ρ : Rho) (a b : List (Nat × Value)) : Prop := a.length = b.length ∧ ∀ (i : Nat) (x y : Nat × Value), a[i]? = some x → b[i]? = some y → x.1 = y.1 ∧ VRel ρ x.2 y.2

theorem set_rel {a b : Array Value} (h : ARel ρ a b) {v v' : Value} (hv : VRel ρ v v') (i : Nat) : ARel ρ (a.setIfInBounds i v) (b.setIfInBounds i v') := by
  refine ⟨by simp [h.1], fun k u u' x y => ?_⟩
  rw [Array.getElem?_setIfInBounds] at x y
  split at x
  · rename_i e
    rw [if_pos e] at y
    split at x
    · rename_i g
      rw [if_pos (by rw [← h.1]; exact g)] at y
      cases x; cases y; exact hv
    · exact absurd x (by simp)
  · rename_i e
    rw [if_neg e] at y
    exact h.2 k u u' x y

theorem fold_rel (off : Nat) : ∀ (l l' : List Value) (j : Nat) (a b : Array Value), LRel ρ l l' → ARel ρ a b →
    ARel ρ ((l.zipIdx j).foldl (fun cs (c, j) => cs.setIfInBounds (off + j) c) a) ((l'.zipIdx j).foldl (fun cs (c, j) => cs.setIfInBounds (off + j) c) b)
  | [], l', j, a, b, h, hab => by
    have : l' = [] := List.eq_nil_of_length_eq_zero h.1.symm
    subst this
    exact hab
  | x :: l, l', j, a, b, h, hab => by
    obtain ⟨y, m, rfl, hxy, hm⟩ := h.of_cons
    simp only [List.zipIdx_cons, List.foldl_cons]
    exact fold_rel off l m (j + 1) _ _ hm (set_rel hab hxy _)

theorem fill_rel (place : Nat → Option (Nat × Nat)) : ∀ (l l' : List (Nat × Value)) (a b : Array Value) (r : Array Value), PRel ρ l l' → ARel ρ a b → Instr.fill place a l = some r →
    ∃ r', Instr.fill place b l' = some r' ∧ ARel ρ r r'
  | [], l', a, b, r, h, hab, hr => by
    have : l' = [] := List.eq_nil_of_length_eq_zero h.1.symm
    subst this
    simp only [Instr.fill, Option.some.injEq] at hr
    subst hr
    exact ⟨b, rfl, hab⟩
  | (i, v) :: l, l', a, b, r, h, hab, hr => by
    cases l' with
    | nil => have := h.1; simp at this
    | cons y m =>
      obtain ⟨i', v'⟩ := y
      obtain ⟨e1, e2⟩ := h.2 0 (i, v) (i', v') rfl rfl
      simp only at e1 e2
      subst e1
      have hm : PRel ρ l m := ⟨by have := h.1; simpa using this, fun k x y hx hy => h.2 (k + 1) x y (by simpa using hx) (by simpa using hy)⟩
      unfold Instr.fill at hr ⊢
      cases hp : place i with
      | none => rw [hp] at hr; exact absurd hr (by simp)
      | some q =>
        obtain ⟨off, size⟩ := q
        rw [hp] at hr
        simp only at hr ⊢
        have hc := e2.cells
        have hcs : v'.cells.size = v.cells.size := by have := hc.1; simpa using this.symm
        have hz1 : v.cells.zipIdx = (v.cells.toList.zipIdx).toArray := by apply Array.ext'; simp
        have hz2 : v'.cells.zipIdx = (v'.cells.toList.zipIdx).toArray := by apply Array.ext'; simp
        rw [hcs, ← hab.1]
        split at hr
        · exact absurd hr (by simp)
        · rename_i hcond
          rw [if_neg hcond]
          rw [hz1, List.foldl_toArray] at hr
          rw [hz2, List.foldl_toArray]
          exact fill_rel place l m _ _ r hm (fold_rel off _ _ 0 _ _ hc hab) hr

theorem plain_cells {z : Value} (h : plain z = true) : ARel ρ z.cells z.cells := by
  have := (plain_rel ρ h).cells
  exact ⟨rfl, fun i v v' x y => this.2 i v v' (by simpa using x) (by simpa using y)⟩

theorem ok_build {t : TypeId} {ps ps' : Array (Nat × Value)} {v : Value} (h : buildA P t ps = some v) (hp : PRel ρ ps.toList ps'.toList) :
    ∃ v', (Instr.build t ps').run P w = .ok v' w ∧ VRel ρ v v' := by
  unfold buildA at h
  split at h
  · rename_i z hz
    have hrun := run_pureOf _ _ h w
    have hpl := plain_cells (ρ := ρ) (zeroT_plain hz)
    unfold Instr.build at hrun ⊢
    simp only [Sem.run_bind, run_zeroT hz, Result.andThen_ok] at hrun ⊢
    cases hu : P.underlying t with
    | none => simp [underlying, hu] at hrun
    | some d =>
      simp only [run_underlying hu, Result.andThen_ok] at hrun ⊢
      cases d <;> simp only [Sem.run_bind, run_stuck] at hrun ⊢
      case array n e =>
        cases hk : (sizeOf e).run P w with
        | halt hh ww => rw [hk] at hrun; simp at hrun
        | ok k w1 =>
          rw [hk] at hrun
          simp only [Result.andThen_ok] at hrun ⊢
          cases hf : Instr.fill (fun i => some (i * k, k)) z.cells ps.toList with
          | none => rw [hf] at hrun; simp at hrun
          | some r =>
            rw [hf] at hrun
            simp only [Sem.run_pure, Result.ok.injEq] at hrun
            obtain ⟨r', hr', hrel⟩ := fill_rel _ _ _ _ _ r hp hpl hf
            rw [hr']
            refine ⟨.agg r', by rw [hrun.2]; rfl, ?_⟩
            rw [← hrun.1]
            exact .agg hrel.1 hrel.2
      case struct fs =>
        generalize hX : (fs.mapM fun f => do pure (f.offset, ← sizeOf f.type) : Sem (Array (Nat × Nat))) = X at hrun ⊢
        cases hk : X.run P w with
        | halt hh ww => rw [hk] at hrun; simp at hrun
        | ok k w1 =>
          rw [hk] at hrun
          simp only [Result.andThen_ok] at hrun ⊢
          cases hf : Instr.fill (k[·]?) z.cells ps.toList with
          | none => rw [hf] at hrun; simp at hrun
          | some r =>
            rw [hf] at hrun
            simp only [Sem.run_pure, Result.ok.injEq] at hrun
            obtain ⟨r', hr', hrel⟩ := fill_rel _ _ _ _ _ r hp hpl hf
            rw [hr']
            refine ⟨.agg r', by rw [hrun.2]; rfl, ?_⟩
            rw [← hrun.1]
            exact .agg hrel.1 hrel.2
      all_goals simp at hrun
  · exact absurd h (by simp)
end
end Am
end Go

/- The abstract machine's operations and the model's: rows, conversions, maps. -/
set_option linter.unusedVariables false
set_option linter.unusedSimpArgs false
namespace Go
namespace Am
section
variable {P : Program} {w0 : World} {S : Own} {σ : AW} {ρ : Rho} {w : World}

theorem madeRow_rel {z : Array Value} (h : ARel ρ z z) (n : Nat) (hz : 0 < z.size) : ARel ρ (madeRow z n) (madeRow z n) := by
  refine ⟨rfl, fun i v v' x y => ?_⟩
  rw [x] at y; cases y
  have hi : i < n := by
    have hs : (madeRow z n).size = n := by simp [madeRow]
    rcases Nat.lt_or_ge i n with g | g
    · exact g
    · rw [Array.getElem?_eq_none (by omega)] at x; exact absurd x (by simp)
  simp only [madeRow, Array.getElem?_map, Array.getElem?_range, if_pos hi, Option.map_some, Option.some.injEq] at x
  have hm : i % z.size < z.size := Nat.mod_lt _ hz
  rw [getElem!_pos z _ hm] at x
  exact h.2 (i % z.size) v v (by rw [Array.getElem?_eq_getElem hm, x]) (by rw [Array.getElem?_eq_getElem hm, x])

theorem LRel.ofA {a b : Array Value} (h : ARel ρ a b) : LRel ρ a.toList b.toList := h.toL

theorem toList_app_nil (r : Array Value) : (r.toList ++ []).toArray = r := by apply Array.ext'; simp

/-- a row whose bounds are known -/
theorem ok_row (hR : R w0 S σ ρ w) {a b : Array Value} {elem id len n : Nat} {σ' : AW} (h : newCells P σ a.toList elem = some (id, σ')) (hr : ARel ρ a b) (hle : len ≤ n) (hn : n ≤ 2 ^ 64) :
    ∃ ρ', ρ.le ρ' ∧ VRel ρ' (.slice (some ⟨id, 0, none⟩) len n) (.slice (some ⟨w.heap.size, 0, none⟩) len n) ∧ R w0 S σ' ρ' (w.alloc (.cells b elem)) := by
  obtain ⟨k, _, h1, h2⟩ := ok_new hR h hr.toL [] (0, 0) (.inl rfl) (fun _ => rfl)
  rw [toList_app_nil] at h2
  refine ⟨_, h1, ?_, h2⟩
  have := VRel.sliceX (ρ := ρ.put id ⟨w.heap.size, 0, (b.toList ++ []).length, k, none, none⟩) (id := id) (o := 0) (n := len) (c := n) (Rho.put_same _ _ _) hn hle
  exact this

theorem ok_var (hR : R w0 S σ ρ w) {a b : Array Value} {elem id : Nat} {σ' : AW} (h : newCells P σ a.toList elem = some (id, σ')) (hr : ARel ρ a b) :
    ∃ ρ', ρ.le ρ' ∧ VRel ρ' (.pointer (some ⟨id, 0, none⟩)) (.pointer (some ⟨w.heap.size, 0, none⟩)) ∧ R w0 S σ' ρ' (w.alloc (.cells b elem)) := by
  obtain ⟨k, _, h1, h2⟩ := ok_new hR h hr.toL [] (0, 0) (.inl rfl) (fun _ => rfl)
  rw [toList_app_nil] at h2
  refine ⟨_, h1, ?_, h2⟩
  have := VRel.ptr (ρ := ρ.put id ⟨w.heap.size, 0, (b.toList ++ []).length, k, none, none⟩) (id := id) (o := 0) (Rho.put_same _ _ _)
  exact this

theorem VRel.cellsA {v v' : Value} (h : VRel ρ v v') : ARel ρ v.cells v'.cells := by
  have := h.cells
  exact ⟨by simpa using this.1, fun i a b x y => this.2 i a b (by simpa using x) (by simpa using y)⟩

theorem bytesOf_eq : ∀ {l : List Value} {bs : List UInt8}, bytesOf l = some bs → ∃ ns : List Int, l = ns.map (Value.int .u8) ∧ bs = ns.map fun n => UInt8.ofNat n.toNat
  | [], bs, h => by simp [bytesOf] at h; exact ⟨[], rfl, h⟩
  | v :: l, bs, h => by
    unfold bytesOf at h
    split at h
    · rename_i e; cases e
    · rename_i n l' e
      cases e
      cases hb : bytesOf l with
      | none => rw [hb] at h; simp at h
      | some bs' =>
        rw [hb] at h
        simp only [Option.map_some, Option.some.injEq] at h
        obtain ⟨ns, e1, e2⟩ := bytesOf_eq hb
        exact ⟨n :: ns, by simp [e1], by rw [← h, e2]; rfl⟩
    · exact absurd h (by simp)

theorem LRel.ints {k : IntKind} : ∀ {ns : List Int} {m : List Value}, LRel ρ (ns.map (Value.int k)) m → m = ns.map (Value.int k)
  | [], m, h => List.eq_nil_of_length_eq_zero h.1.symm
  | n :: ns, m, h => by
    obtain ⟨b, m', rfl, h1, h2⟩ := LRel.of_cons h
    rw [h1.int_inv, LRel.ints h2]
    rfl

theorem heap_freeze_other (w : World) (a : Addr) (n b : Nat) (h : b ≠ a.block) : (w.freeze a n).heap[b]? = w.heap[b]? := by
  unfold World.freeze
  split
  · rfl
  · simp only [Array.getElem?_modify]
    rw [if_neg (Ne.symm h)]

theorem ok_convert [hE : NoEx P S] (hR : R w0 S σ ρ w) {src dst : TypeId} {x x' : Value} {r : ARes} (h : convertA P σ src dst x = some r) (hx : VRel ρ x x') :
    ∃ v' w' ρ', (convert src dst x').run P w = .ok v' w' ∧ ρ.le ρ' ∧
      ((∃ v, r = .val v ∧ VRel ρ' v v' ∧ R w0 S σ ρ' w') ∨ (∃ v σ', r = .eff v σ' ∧ VRel ρ' v v' ∧ R w0 S σ' ρ' w')) := by
  unfold convertA at h
  split at h
  · rename_i e s h1 h2
    cases hx
    split at h
    · rename_i h3 h4
      have hbt : Nat.blt dst TB = true := by
        cases hq : Nat.blt dst TB with
        | true => rfl
        | false => rw [hq] at h4; simp at h4
      rw [hbt] at h4
      simp only at h4
      split at h
      · rename_i id σ' hn
        cases h
        have hrun := run_bytes_of_string (P := P) w src dst e s h1 h2 h3
        have hpl : LRel ρ (s.data.toList.map fun (b : UInt8) => Value.int .u8 (b.toNat : Int)) (s.data.toList.map fun (b : UInt8) => Value.int .u8 (b.toNat : Int)) := by
          refine .plain ?_
          intro v hv
          simp at hv
          obtain ⟨b, _, rfl⟩ := hv
          rfl
        have hrow : (bytesRow s (grownCap w s.size 0 e)) = ((s.data.toList.map fun (b : UInt8) => Value.int .u8 (b.toNat : Int)) ++ List.replicate (grownCap w s.size 0 e - s.size) (Value.int .u8 0)).toArray := by
          unfold bytesRow
          apply Array.ext'
          simp
        obtain ⟨k, hk, a1, a2⟩ := ok_new hR.drew hn hpl (List.replicate (grownCap w s.size 0 e - s.size) (Value.int .u8 0))
          ((bytesRow s (grownCap w s.size 0 e)).size, (bytesRow s (grownCap w s.size 0 e)).size + 1) (.inr (by rw [hrow]; simp)) (fun hx => (hE.no _ _ (blt_t hbt) h2 hx).elim)
        rw [h4] at hk
        cases hk
        rw [← hrow] at a2
        refine ⟨_, _, _, hrun, a1, .inr ⟨_, _, rfl, ?_, a2⟩⟩
        have hsz : s.size = s.data.toList.length := by rw [Array.length_toList]; rfl
        have hg := grown_ge (w := w) (need := s.size) (old := 0) (e := e)
        have := VRel.sliceO (ρ := ρ.put id ⟨w.heap.size, 0, ((s.data.toList.map fun (b : UInt8) => Value.int .u8 (b.toNat : Int)) ++ List.replicate (grownCap w s.size 0 e - s.size) (Value.int .u8 0)).length, 1, none, none⟩) (id := id) (o := 0)
          (n := s.size) (c := grownCap w s.size 0 e) (Rho.put_same _ _ _) hg (by
            show 0 + 0 + grownCap w s.size 0 e * 1 = ((s.data.toList.map fun (b : UInt8) => Value.int .u8 (b.toNat : Int)) ++ List.replicate (grownCap w s.size 0 e - s.size) (Value.int .u8 0)).length
            rw [List.length_append, List.length_map, List.length_replicate, ← hsz]
            omega)
        exact this
      · exact absurd h (by simp)
    · exact absurd h (by simp)
  · rename_i e h1 h2
    cases hx
    split at h
    · rename_i h3
      cases h
      refine ⟨.string .empty, w, ρ, ?_, ρ.le_refl, .inl ⟨_, rfl, .string _, hR⟩⟩
      rw [run_convert_bytes_string w src dst e _ _ _ h1 h3 h2]
      simp [Conv.bytesToString]
    · exact absurd h (by simp)
  · rename_i e id off n c h1 h2
    split at h
    · rename_i h3
      cases hrd : rdCells σ id off n with
      | none => rw [hrd] at h; simp at h
      | some l =>
        rw [hrd] at h
        simp only [Option.bind_some] at h
        cases hb : bytesOf l with
        | none => rw [hb] at h; simp at h
        | some bs =>
          rw [hb] at h
          simp only [Option.some.injEq] at h
          subst h
          obtain ⟨ns, e1, e2⟩ := bytesOf_eq hb
          have main : ∀ a : Addr, (loadCells a n).run P w = .ok (ns.map (Value.int .u8)).toArray w → ∀ c, (convert src dst (.slice (some a) n c)).run P w = .ok (.string ⟨bs.toArray⟩) w := by
            intro a hl c
            rw [run_convert_bytes_string w src dst e _ _ _ h1 h3 h2, run_bytesToString w _ n c ns hl, foldl_push_bytes, e2]
            simp [ByteArray.empty, ByteArray.emptyWithCapacity]
            rfl
          have ld : ∀ L, ρ id = some L → (loadCells ⟨L.blk, L.off + off, none⟩ n).run P w = .ok (ns.map (Value.int .u8)).toArray w := by
            intro L hL
            obtain ⟨l', hl, hrun, _⟩ := run_rd (P := P) hR hrd hL
            rw [hrun]
            subst e1
            rw [hl.ints]
          cases hx with
          | sliceX hL _ _ => exact ⟨_, w, ρ, main _ (ld _ hL) _, ρ.le_refl, .inl ⟨_, rfl, .string _, hR⟩⟩
          | sliceO hL _ _ => exact ⟨_, w, ρ, main _ (ld _ hL) _, ρ.le_refl, .inl ⟨_, rfl, .string _, hR⟩⟩
          | sliceE hL _ =>
            have : ns = [] := by have := rd_len hrd; rw [e1] at this; simpa using this
            subst this
            exact ⟨_, w, ρ, main _ (by simp [loadCells, loadCellsFrom]) _, ρ.le_refl, .inl ⟨_, rfl, .string _, hR⟩⟩
    · exact absurd h (by simp)
  · rename_i e1 e id off n c h1 h2
    split at h
    · rename_i cs ce k h3 hg
      split at h
      · rename_i hbt
        have hbt := beq_t hbt
        cases h
        subst hbt
        have main : ∀ (L : Loc) (o cc : Nat), ρ id = some L → ∃ w', (convert src src (.slice (some ⟨L.blk, o, none⟩) n cc)).run P w = .ok (.slice (some ⟨L.blk, o, none⟩) n cc) w' ∧ R w0 S σ ρ w' := by
          intro L o cc hL
          obtain ⟨ca, ce', fr, hh, d1, d2, d3, d4, d5⟩ := cells_of hR hL hg
          have hsh : w.shape? L.blk = some (ce', ca.size) := by simp [World.shape?, hh]
          refine ⟨w.freeze { block := L.blk, off := ca.size } 1, ?_, ?_⟩
          · have h1' := h1
            simp [convert, run_underlying h2, run_underlying h3, markStringish, hsh]
          · have hput : σ.put id (.cells cs ce k) = σ.put id (.cells cs ce k) := rfl
            have hR2 := hR.set hL hg (o' := .cells cs ce k) (w' := w.freeze { block := L.blk, off := ca.size } 1) (by simp [World.freeze]) (by simp [World.freeze]) (by simp [World.freeze]) (by simp [World.freeze])
              (fun b hb => heap_freeze_other _ _ _ _ hb) (fun cs2 e2 k2 he hx => by cases he; exact hR.exact _ _ _ _ _ (hR.lt hL) hg hL hx) (by
                have hm : (w.freeze { block := L.blk, off := ca.size } 1).heap[L.blk]? = some (.cells ca ce' (if fr.1 == fr.2 then (ca.size, ca.size + 1) else (min fr.1 ca.size, max fr.2 (ca.size + 1)))) := by
                  unfold World.freeze
                  rw [if_neg (by decide)]
                  simp only [Array.getElem?_modify, if_true, hh, Option.map_some]
                rw [hm]
                refine ⟨cells_ty hR hL hg hh, d1, d2, d3, ?_, d5⟩
                right
                split
                · exact Nat.le_refl _
                · rename_i hne
                  have hne : fr.1 ≠ fr.2 := by simpa using hne
                  have : ca.size ≤ fr.1 := d4.resolve_left hne
                  show ca.size ≤ min fr.1 ca.size
                  omega)
            have lim := hR.lim
            have hlt := hR.lt hL
            exact { hR2 with
              pinInj := hR.pinInj
              pinApart := hR.pinApart
              exact := hR.exact
              obj := fun i o hi ho => by
                refine hR2.obj i o hi ?_
                rw [get_put (by omega) (by have : i < σ.next := hi; omega)]
                split
                · rename_i e; subst e; rw [hg] at ho; exact ho
                · exact ho
              apart := fun i j oi oj Li Lj hi hj ei ej => hR.apart i j oi oj Li Lj hi hj ei ej }
        cases hx with
        | sliceX hL a b => obtain ⟨w', x, y⟩ := main _ _ _ hL; exact ⟨_, w', ρ, x, ρ.le_refl, .inl ⟨_, rfl, .sliceX hL a b, y⟩⟩
        | sliceO hL a b => obtain ⟨w', x, y⟩ := main _ _ _ hL; exact ⟨_, w', ρ, x, ρ.le_refl, .inl ⟨_, rfl, .sliceO hL a b, y⟩⟩
        | sliceE hL a => obtain ⟨w', x, y⟩ := main _ _ _ hL; exact ⟨_, w', ρ, x, ρ.le_refl, .inl ⟨_, rfl, .sliceE hL a, y⟩⟩
      · exact absurd h (by simp)
    · exact absurd h (by simp)
  · exact absurd h (by simp)

end
end Am
end Go

/- The abstract machine's operations and the model's: maps. -/
set_option linter.unusedVariables false
set_option linter.unusedSimpArgs false
namespace Go
namespace Am
section
variable {P : Program} {w0 : World} {S : Own} {σ : AW} {ρ : Rho} {w : World}

theorem MRel.of_cons {e : MapEntry} {l m : List MapEntry} (h : MRel ρ (e :: l) m) : ∃ f m', m = f :: m' ∧ e.born = f.born ∧ VRel ρ e.key f.key ∧ VRel ρ e.val f.val ∧ MRel ρ l m' := by
  cases m with
  | nil => have := h.1; simp at this
  | cons f m' =>
    obtain ⟨a, b, c⟩ := h.2 0 e f rfl rfl
    exact ⟨f, m', rfl, a, b, c, by have := h.1; simpa using this, fun i x y hx hy => h.2 (i + 1) x y (by simpa using hx) (by simpa using hy)⟩

theorem findA_now {j : IntKind} {a : Int} : ∀ {l m : List MapEntry} {i : Nat} {r : Option (Nat × Value)}, MRel ρ l m → findA (.int j a) l i = some r →
    ∃ r', Instr.findNow (.int j) (.int j a) m i = some r' ∧ ((r = none ∧ r' = none) ∨ ∃ n v v', r = some (n, v) ∧ r' = some (n, v') ∧ VRel ρ v v')
  | [], m, i, r, h, hf => by
    have : m = [] := List.eq_nil_of_length_eq_zero h.1.symm
    subst this
    simp only [findA, Option.some.injEq] at hf
    subst hf
    exact ⟨none, rfl, .inl ⟨rfl, rfl⟩⟩
  | e :: l, m, i, r, h, hf => by
    obtain ⟨f, m', rfl, hb, hk, hv, hm⟩ := h.of_cons
    unfold findA at hf
    split at hf
    · rename_i j1 a1 j2 b1 ek hek
      cases ek
      rw [hek] at hk
      have hfk := hk.int_inv
      split at hf
      · rename_i hj
        subst hj
        simp only [Instr.findNow, hfk, Instr.sameNow, if_true]
        split at hf
        · rename_i hab
          subst hab
          simp only [Option.some.injEq] at hf
          subst hf
          exact ⟨some (i, f.val), by simp, .inr ⟨i, e.val, f.val, rfl, rfl, hv⟩⟩
        · rename_i hab
          obtain ⟨r', h1, h2⟩ := findA_now hm hf
          refine ⟨r', ?_, h2⟩
          have : (a == b1) = false := by simpa using hab
          rw [this]
          exact h1
      · exact absurd hf (by simp)
    · exact absurd hf (by simp)

theorem keyOk_inv {kt : TypeId} {k : Value} (h : keyTypeOk P kt k = true) : ∃ j a, P.underlying kt = some (.int j) ∧ k = .int j a := by
  unfold keyTypeOk at h
  split at h
  · rename_i j j' a hu
    have : j = j' := by simpa using h
    subst this
    exact ⟨j, a, hu, rfl⟩
  · exact absurd h (by simp)

theorem run_checkKey {e : Bool} {kt : TypeId} {j : IntKind} {a : Int} (hu : P.underlying kt = some (.int j)) (w : World) : (Instr.checkKey e 10000 kt (.int j a)).run P w = .ok () w := by
  show (Instr.checkKey e (9999 + 1) kt (.int j a)).run P w = _
  rw [Instr.checkKey, Sem.run_bind, run_underlying hu]
  rfl

theorem run_findKey {kt : TypeId} {j : IntKind} {a : Int} {es : List MapEntry} {r : Option (Nat × Value)} (hu : P.underlying kt = some (.int j)) (h : Instr.findNow (.int j) (.int j a) es 0 = some r) (w : World) :
    (Instr.findKey kt (.int j a) es).run P w = .ok r w := by
  simp [Instr.findKey, run_underlying hu, h]

theorem map_of (hR : R w0 S σ ρ w) {id : Nat} {L : Loc} {es : List MapEntry} {ck : Nat} (hL : ρ id = some L) (hg : σ.get id = some (.map es ck)) :
    ∃ es', w.heap[L.blk]? = some (.map es' ck) ∧ MRel ρ es es'.toList := by
  have ho := (hR.at hL hg).2
  unfold ORel at ho
  split at ho
  · rename_i hx hy; cases hx
  · rename_i hx hy; cases hx; obtain ⟨rfl, h⟩ := ho; exact ⟨_, hy, h⟩
  · rename_i hx hy; cases hx
  · rename_i hx hy; cases hx
  · exact ho.elim

/-- the entries behind a map value -/
theorem ok_mapOf (hR : R w0 S σ ρ w) {m m' : Value} {es : List MapEntry} {ck : Nat} (h : mapOf σ m = some (es, ck)) (hm : VRel ρ m m') :
    (m' = .map none ∧ es = []) ∨ ∃ r es', m' = .map (some r) ∧ w.heap[r]? = some (.map es' ck) ∧ MRel ρ es es'.toList := by
  unfold mapOf at h
  split at h
  · cases h; cases hm; exact .inl ⟨rfl, rfl⟩
  · rename_i id
    split at h
    · rename_i es1 c1 hg
      cases h
      cases hm with
      | map hL =>
        obtain ⟨es', a, b⟩ := map_of hR hL hg
        exact .inr ⟨_, es', rfl, a, b⟩
    · exact absurd h (by simp)
  · exact absurd h (by simp)

theorem run_getMap {r : Nat} {es : Array MapEntry} {ck : Nat} (h : w.heap[r]? = some (.map es ck)) : (getObj r).run P w = .ok (.map es ck) w := by
  simp [getObj, Sem.run, h]
theorem run_setMap {r : Nat} {es : Array MapEntry} {ck : Nat} (o : Obj) (h : w.heap[r]? = some (.map es ck)) : (setObj r o).run P w = .ok () { w with heap := w.heap.setIfInBounds r o } := by
  simp [setObj, Sem.run, h]

theorem ok_lookup (hR : R w0 S σ ρ w) {t : TypeId} {m m' k k' v : Value} {ok : Bool} (h : lookupA P σ t m k ok = some v) (hm : VRel ρ m m') (hk : VRel ρ k k') :
    ∃ v', (Instr.lookup t m' k' ok).run P w = .ok v' w ∧ VRel ρ v v' := by
  unfold lookupA at h
  split at h
  · rename_i kt et hu
    split at h
    · rename_i es ck hmo hko
      obtain ⟨j, a, hku, rfl⟩ := keyOk_inv hko
      rw [hk.int_inv]
      have two : ∀ {x y : Value} {b : Bool}, VRel ρ x y → VRel ρ (if ok then .tuple #[x, .bool b] else x) (if ok then .tuple #[y, .bool b] else y) := by
        intro x y b hxy
        split
        · have : ARel ρ #[x, .bool b] #[y, .bool b] := (LRel.cons hxy (LRel.cons (.bool b) .nil)).toA
          exact .tuple this.1 this.2
        · exact hxy
      rcases ok_mapOf hR hmo hm with ⟨rfl, rfl⟩ | ⟨r, es', rfl, hh, hrel⟩
      · simp only [findA] at h
        cases hz : zeroT P et with
        | none => rw [hz] at h; simp at h
        | some z =>
          rw [hz] at h
          simp only [Option.map_some, Option.some.injEq] at h
          subst h
          refine ⟨if ok then .tuple #[z, .bool false] else z, ?_, two (plain_rel ρ (zeroT_plain hz))⟩
          have hf : (Instr.findKey kt (.int j a) []).run P w = .ok none w := run_findKey hku rfl w
          simp [Instr.lookup, run_underlying hu, run_checkKey hku, hf, run_zeroT hz]
      · cases hfa : findA (.int j a) es 0 with
        | none => rw [hfa] at h; simp at h
        | some r0 =>
          obtain ⟨r1, hf1, hf2⟩ := findA_now hrel hfa
          have hf := run_findKey (P := P) hku hf1 w
          rw [hfa] at h
          rcases hf2 with ⟨rfl, rfl⟩ | ⟨n, v1, v2, rfl, rfl, hv⟩
          · simp only at h
            cases hz : zeroT P et with
            | none => rw [hz] at h; simp at h
            | some z =>
              rw [hz] at h
              simp only [Option.map_some, Option.some.injEq] at h
              subst h
              refine ⟨if ok then .tuple #[z, .bool false] else z, ?_, two (plain_rel ρ (zeroT_plain hz))⟩
              simp [Instr.lookup, run_underlying hu, run_checkKey hku, hf, run_zeroT hz, run_getMap hh]
          · simp only [Option.some.injEq] at h
            subst h
            refine ⟨if ok then .tuple #[v2, .bool true] else v2, ?_, two hv⟩
            simp [Instr.lookup, run_underlying hu, run_checkKey hku, hf, run_getMap hh]
    · exact absurd h (by simp)
  · exact absurd h (by simp)

theorem setVal_eq (k v : Value) : ∀ (l : List MapEntry) (i : Nat), setVal k v l i = l.modify i fun e => { e with key := k, val := v }
  | [], i => by simp [setVal]
  | e :: l, 0 => by simp [setVal]
  | e :: l, i + 1 => by simp [setVal, setVal_eq k v l i]

theorem modify_rel {l m : List MapEntry} (h : MRel ρ l m) {k k' v v' : Value} (hk : VRel ρ k k') (hv : VRel ρ v v') (i : Nat) :
    MRel ρ (setVal k v l i) (m.modify i fun e => { e with key := k', val := v' }) := by
  rw [setVal_eq]
  refine ⟨by simp [h.1], fun n e e' x y => ?_⟩
  rw [List.getElem?_modify] at x y
  cases hl : l[n]? with
  | none => rw [hl] at x; simp at x
  | some el =>
    cases hm : m[n]? with
    | none => rw [hm] at y; simp at y
    | some em =>
      obtain ⟨a, b, c⟩ := h.2 n el em hl hm
      rw [hl] at x; rw [hm] at y
      simp only [Option.map_eq_map, Option.map_some, Option.some.injEq] at x y
      split at x
      · rename_i hin
        rw [if_pos hin] at y
        subst x; subst y
        exact ⟨a, hk, hv⟩
      · rename_i hin
        rw [if_neg hin] at y
        subst x; subst y
        exact ⟨a, b, c⟩

theorem findNow_at {j : IntKind} {a : Int} : ∀ {m : List MapEntry} {i n : Nat} {v : Value}, Instr.findNow (.int j) (.int j a) m i = some (some (n, v)) → i ≤ n ∧ ∃ e, m[n - i]? = some e ∧ e.key = .int j a
  | [], i, n, v, h => by simp [Instr.findNow] at h
  | e :: m, i, n, v, h => by
    unfold Instr.findNow at h
    split at h
    · rename_i hs
      simp only [Option.some.injEq, Prod.mk.injEq] at h
      obtain ⟨rfl, _⟩ := h
      refine ⟨Nat.le_refl _, e, by simp, ?_⟩
      unfold Instr.sameNow at hs
      split at hs
      · rename_i _ _ j1 a1 j2 a2 hd he1 he2
        cases he1
        split at hs
        · rename_i hj
          simp only [Option.some.injEq, beq_iff_eq] at hs
          rw [he2, hj, hs]
        · exact absurd hs (by simp)
      all_goals simp_all
    · obtain ⟨h1, e', h2, h3⟩ := findNow_at h
      refine ⟨by omega, e', ?_, h3⟩
      rw [show n - i = (n - (i + 1)) + 1 by omega]
      simpa using h2
    · exact absurd h (by simp)

theorem stays (j : IntKind) (a : Int) (w : World) : (Instr.keyThatStays (.int j a) (.int j a)).run P w = .ok (.int j a) w := by
  have : Instr.sameBits 10000 (.int j a) (.int j a) = true := by simp [Instr.sameBits]
  simp [Instr.keyThatStays, this]

/-- a map is turned -/
theorem R.setMap (hR : R w0 S σ ρ w) {id : Nat} {L : Loc} {es es2 : List MapEntry} {ck ck2 : Nat} {es' es2' : Array MapEntry} (hL : ρ id = some L) (hg : σ.get id = some (.map es ck))
    (hh : w.heap[L.blk]? = some (.map es' ck)) (hrel : MRel ρ es2 es2'.toList) : R w0 S (σ.put id (.map es2 ck2)) ρ { w with heap := w.heap.setIfInBounds L.blk (.map es2' ck2) } := by
  refine hR.set hL hg rfl rfl rfl (by simp) (fun b hb => ?_) (fun _ _ _ e => by cases e) ?_
  · simp only [Array.getElem?_setIfInBounds]
    rw [if_neg (Ne.symm hb)]
  · have hlt : L.blk < w.heap.size := hR.blk_lt hL hg
    simp only [Array.getElem?_setIfInBounds, if_true, hlt]
    exact ⟨rfl, hrel⟩

theorem ok_update (hR : R w0 S σ ρ w) {t : TypeId} {m m' k k' v v' : Value} {σ' : AW} (h : mapUpdateA P σ t m k v = some σ') (hm : VRel ρ m m') (hk : VRel ρ k k') (hv : VRel ρ v v') :
    ∃ w', (Instr.mapUpdate t m' k' v').run P w = .ok () w' ∧ R w0 S σ' ρ w' := by
  unfold mapUpdateA at h
  split at h
  · rename_i kt et id hu
    split at h
    · rename_i es ck hg hko
      obtain ⟨j, a, hku, rfl⟩ := keyOk_inv hko
      rw [hk.int_inv]
      cases hm with
      | @map _ L hL =>
      obtain ⟨es', hh, hrel⟩ := map_of hR hL hg
      cases hfa : findA (.int j a) es 0 with
      | none => rw [hfa] at h; simp at h
      | some r0 =>
        obtain ⟨r1, hf1, hf2⟩ := findA_now hrel hfa
        have hf := run_findKey (P := P) hku hf1 w
        rw [hfa] at h
        rcases hf2 with ⟨rfl, rfl⟩ | ⟨n, v1, v2, rfl, rfl, hv2⟩
        · simp only [Option.some.injEq] at h
          subst h
          refine ⟨_, by simp [Instr.mapUpdate, run_underlying hu, run_getMap hh, run_checkKey hku, hf, run_setMap _ hh]; rfl, hR.setMap hL hg hh ?_⟩
          simp only [Array.toList_push]
          refine ⟨by simp [hrel.1], fun i e e' x y => ?_⟩
          rcases Nat.lt_or_ge i es.length with g | g
          · rw [List.getElem?_append_left g] at x
            rw [List.getElem?_append_left (by rw [← hrel.1]; exact g)] at y
            exact hrel.2 i e e' x y
          · rw [List.getElem?_append_right g] at x
            rw [List.getElem?_append_right (by rw [← hrel.1]; exact g), ← hrel.1] at y
            cases hi : i - es.length with
            | zero =>
              rw [hi] at x y
              simp at x y
              subst x; subst y
              exact ⟨rfl, .int _ _, hv⟩
            | succ q => rw [hi] at x; simp at x
        · simp only [Option.some.injEq] at h
          subst h
          obtain ⟨_, e0, he0, hek⟩ := findNow_at hf1
          simp only [Nat.sub_zero] at he0
          have he0' : es'[n]? = some e0 := by rw [← Array.getElem?_toList]; exact he0
          refine ⟨_, ?_, hR.setMap hL hg hh (es2' := es'.modify n fun e => { e with key := .int j a, val := v' }) ?_⟩
          · simp only [Instr.mapUpdate, Sem.run_bind, run_underlying hu, Result.andThen_ok, run_getMap hh, run_checkKey hku, hf, he0', Option.map_some, Option.getD_some, hek, stays, run_setMap _ hh]
          · rw [Array.toList_modify]
            exact modify_rel hrel (.int _ _) hv n
    · exact absurd h (by simp)
  · exact absurd h (by simp)

theorem ok_delete (hR : R w0 S σ ρ w) {ts : Array TypeId} {t ty : TypeId} {m m' k k' : Value} {r : Option AW} (hts : ts[0]? = some t) (h : deleteA P σ t m k = some r) (hm : VRel ρ m m') (hk : VRel ρ k k')
    (args : Array Value) (ha : args[0]? = some m') (hb : args[1]? = some k') :
    ∃ w', (Builtin.delete_ ts ty args).run P w = .ok (.tuple #[]) w' ∧ (match r with | none => R w0 S σ ρ w' | some σ' => R w0 S σ' ρ w') := by
  unfold deleteA at h
  split at h
  · rename_i kt et hu
    split at h
    · rename_i hko
      cases h
      obtain ⟨j, a, hku, rfl⟩ := keyOk_inv hko
      rw [hk.int_inv] at hb
      cases hm
      exact ⟨w, by simp [Builtin.delete_, hts, ha, hb, run_underlying hu, run_checkKey hku], hR⟩
    · exact absurd h (by simp)
  · rename_i kt et id hu
    split at h
    · rename_i es ck hg hko
      obtain ⟨j, a, hku, rfl⟩ := keyOk_inv hko
      rw [hk.int_inv] at hb
      cases hm with
      | @map _ L hL =>
      obtain ⟨es', hh, hrel⟩ := map_of hR hL hg
      cases hfa : findA (.int j a) es 0 with
      | none => rw [hfa] at h; simp at h
      | some r0 =>
        obtain ⟨r1, hf1, hf2⟩ := findA_now hrel hfa
        have hf := run_findKey (P := P) hku hf1 w
        rw [hfa] at h
        rcases hf2 with ⟨rfl, rfl⟩ | ⟨n, v1, v2, rfl, rfl, hv2⟩
        · simp only [Option.some.injEq] at h
          subst h
          exact ⟨_, by simp [Builtin.delete_, hts, ha, hb, run_underlying hu, run_getMap hh, run_checkKey hku, hf, run_setMap _ hh], hR.setMap hL hg hh hrel⟩
        · simp only [Option.some.injEq] at h
          subst h
          refine ⟨_, by simp [Builtin.delete_, hts, ha, hb, run_underlying hu, run_getMap hh, run_checkKey hku, hf, run_setMap _ hh]; rfl, hR.setMap hL hg hh ?_⟩
          have hn : n < es'.size := by
            obtain ⟨_, e0, he0, _⟩ := findNow_at hf1
            simp only [Nat.sub_zero] at he0
            rcases Nat.lt_or_ge n es'.size with g | g
            · exact g
            · rw [List.getElem?_eq_none (by simpa using g)] at he0; exact absurd he0 (by simp)
          have he : (es'.eraseIdxIfInBounds n).toList = es'.toList.eraseIdx n := by
            simp [Array.eraseIdxIfInBounds, hn]
          rw [he]
          refine ⟨?_, fun i e e' x y => ?_⟩
          · rw [List.length_eraseIdx, List.length_eraseIdx, hrel.1]
          · rw [List.getElem?_eraseIdx] at x y
            split at x
            · rename_i hin; rw [if_pos hin] at y; exact hrel.2 _ e e' x y
            · rename_i hin; rw [if_neg hin] at y; exact hrel.2 _ e e' x y
    · exact absurd h (by simp)
  · exact absurd h (by simp)

/- iterators -/
theorem getObj_iter {r : Nat} {o : Obj} (h : w.heap[r]? = some o) (hc : ∀ c e f, o ≠ .cells c e f) : (getObj r).run P w = .ok o w := by
  simp only [getObj, Sem.run, h]
  try (cases o <;> first | rfl | exact absurd rfl (hc _ _ _))

theorem setObj_iter {r : Nat} {o : Obj} (o' : Obj) (h : w.heap[r]? = some o) (hc : ∀ c e f, o ≠ .cells c e f) : (setObj r o').run P w = .ok () { w with heap := w.heap.setIfInBounds r o' } := by
  simp only [setObj, Sem.run, h]
  try (cases o <;> first | rfl | exact absurd rfl (hc _ _ _))

theorem R.setIt (hR : R w0 S σ ρ w) {id : Nat} {L : Loc} {o o2 : AObj} {p2 : Obj} (hL : ρ id = some L) (hg : σ.get id = some o) (hex : ∀ cs e k, o2 ≠ .cells cs e k) (hrel : ORel ρ L o2 (some p2)) :
    R w0 S (σ.put id o2) ρ { w with heap := w.heap.setIfInBounds L.blk p2 } := by
  refine hR.set hL hg rfl rfl rfl (by simp) (fun b hb => ?_) (fun cs e k he => (hex cs e k he).elim) ?_
  · simp only [Array.getElem?_setIfInBounds]
    rw [if_neg (Ne.symm hb)]
  · have hlt : L.blk < w.heap.size := hR.blk_lt hL hg
    simp only [Array.getElem?_setIfInBounds, if_true, hlt]
    exact hrel

theorem ok_range (hR : R w0 S σ ρ w) {t : TypeId} {x x' v : Value} {σ' : AW} (h : rangeA P σ t x = some (v, σ')) (hx : VRel ρ x x') :
    ∃ v' w' ρ', (Instr.range t x').run P w = .ok v' w' ∧ ρ.le ρ' ∧ VRel ρ' v v' ∧ R w0 S σ' ρ' w' := by
  have fin : ∀ {id : Nat} {σ1 : AW} {o : AObj} {p : Obj}, σ.new o = some (id, σ1) → (∀ cs e k, o ≠ .cells cs e k) → ORel ρ ⟨w.heap.size, 0, 0, 0, none, none⟩ o (some p) →
      ∃ ρ', ρ.le ρ' ∧ VRel ρ' (.pointer (some ⟨id, 0, none⟩)) (.pointer (some ⟨w.heap.size, 0, none⟩)) ∧ R w0 S σ1 ρ' (w.alloc p) := by
    intro id σ1 o p hn hexo ho
    obtain ⟨hid, _, _⟩ := AW.new_eq hn
    have hle : ρ.le (ρ.put id ⟨w.heap.size, 0, 0, 0, none, none⟩) := Rho.le_put (by rw [hid]; exact hR.dom _ (Nat.le_refl _))
    obtain ⟨h1, h2⟩ := hR.alloc hn (L := ⟨w.heap.size, 0, 0, 0, none, none⟩) rfl rfl rfl (fun cs e k he => (hexo cs e k he).elim) (ho.mono hle)
    exact ⟨_, h1, VRel.ptr (o := 0) (Rho.put_same _ _ _), h2⟩
  unfold rangeA at h
  split at h
  · rename_i s hu
    split at h
    · rename_i id σ1 hn
      cases h
      cases hx
      obtain ⟨ρ', a, b, c⟩ := fin (p := .stringIter s 0) hn (fun _ _ _ => by simp) ⟨rfl, rfl, rfl⟩
      exact ⟨_, _, ρ', by simp [Instr.range, run_underlying hu], a, b, c⟩
    · exact absurd h (by simp)
  · rename_i k e hu
    split at h
    · rename_i id σ1 hn
      cases h
      cases hx
      obtain ⟨ρ', a, b, c⟩ := fin (p := .mapIter none 0 #[] 0) hn (fun _ _ _ => by simp) ⟨rfl, rfl, rfl, rfl, .inl ⟨rfl, rfl⟩⟩
      exact ⟨_, _, ρ', by simp [Instr.range, run_underlying hu], a, b, c⟩
    · exact absurd h (by simp)
  · rename_i k e m hu
    split at h
    · rename_i es ck hg
      split at h
      · rename_i id σ1 hn
        cases h
        cases hx with
        | @map _ L hL =>
        obtain ⟨es', hh, hrel⟩ := map_of hR hL hg
        obtain ⟨ρ', a, b, c⟩ := fin (p := .mapIter (some L.blk) ck #[] ck) hn (fun _ _ _ => by simp) ⟨rfl, rfl, rfl, rfl, .inr ⟨m, L, rfl, hL, rfl⟩⟩
        exact ⟨_, _, ρ', by simp [Instr.range, run_underlying hu, run_getMap hh], a, b, c⟩
      · exact absurd h (by simp)
    · exact absurd h (by simp)
  · exact absurd h (by simp)

theorem iter_of (hR : R w0 S σ ρ w) {id : Nat} {L : Loc} {m : Option Nat} {since last : Nat} {seen : Array Nat} (hL : ρ id = some L) (hg : σ.get id = some (.miter m since seen last)) :
    ∃ m', L.off = 0 ∧ w.heap[L.blk]? = some (.mapIter m' since seen last) ∧ ((m = none ∧ m' = none) ∨ ∃ id M, m = some id ∧ ρ id = some M ∧ m' = some M.blk) := by
  have ho := (hR.at hL hg).2
  unfold ORel at ho
  split at ho
  · rename_i hx hy; cases hx
  · rename_i hx hy; cases hx
  · rename_i hx hy; cases hx; obtain ⟨z, rfl, rfl, rfl, h⟩ := ho; exact ⟨_, z, hy, h⟩
  · rename_i hx hy; cases hx
  · exact ho.elim

theorem siter_of (hR : R w0 S σ ρ w) {id : Nat} {L : Loc} {s : ByteArray} {p : Nat} (hL : ρ id = some L) (hg : σ.get id = some (.siter s p)) :
    L.off = 0 ∧ w.heap[L.blk]? = some (.stringIter s p) := by
  have ho := (hR.at hL hg).2
  unfold ORel at ho
  split at ho
  · rename_i hx hy; cases hx
  · rename_i hx hy; cases hx
  · rename_i hx hy; cases hx
  · rename_i hx hy; cases hx; obtain ⟨z, rfl, rfl⟩ := ho; exact ⟨z, hy⟩
  · exact ho.elim

theorem find_rel {l m : List MapEntry} (h : MRel ρ l m) (stamp : Nat) {e : MapEntry} (he : l.find? (fun e => e.born == stamp) = some e) :
    ∃ f, m.find? (fun e => e.born == stamp) = some f ∧ VRel ρ e.key f.key ∧ VRel ρ e.val f.val := by
  induction l generalizing m with
  | nil => simp at he
  | cons x l ih =>
    obtain ⟨y, m', rfl, hb, hk, hv, hm⟩ := h.of_cons
    simp only [List.find?_cons] at he ⊢
    rw [← hb]
    split at he
    · cases he; exact ⟨y, rfl, hk, hv⟩
    · exact ih hm he

theorem pair2 {a b a' b' : Value} (h1 : VRel ρ a a') (h2 : VRel ρ b b') : VRel ρ (.tuple #[a, b]) (.tuple #[a', b']) := by
  have : ARel ρ #[a, b] #[a', b'] := (LRel.cons h1 (LRel.cons h2 .nil)).toA
  exact .tuple this.1 this.2
theorem pair3 {a b c a' b' c' : Value} (h1 : VRel ρ a a') (h2 : VRel ρ b b') (h3 : VRel ρ c c') : VRel ρ (.tuple #[a, b, c]) (.tuple #[a', b', c']) := by
  have : ARel ρ #[a, b, c] #[a', b', c'] := (LRel.cons h1 (LRel.cons h2 (LRel.cons h3 .nil))).toA
  exact .tuple this.1 this.2

theorem ok_entry (hR : R w0 S σ ρ w) {x x' v : Value} (h : entryA σ x = some v) (hx : VRel ρ x x') :
    ∃ v', (Instr.entry x').run P w = .ok v' w ∧ VRel ρ v v' := by
  unfold entryA at h
  split at h
  · rename_i id
    cases hx with
    | @ptr _ _ L hL =>
    split at h
    · rename_i m since seen stepped hg
      obtain ⟨m', hoff, hh, hm⟩ := iter_of hR hL hg
      rcases hm with ⟨hm, _⟩ | ⟨id2, M, e1, hM, rfl⟩
      · simp at hm
      · cases e1
        split at h
        · rename_i stamp es ck hs hgm
          obtain ⟨es', hh2, hrel⟩ := map_of hR hM hgm
          split at h
          · rename_i hck
            subst hck
            split at h
            · rename_i e hf
              cases h
              obtain ⟨f, hf', hk, hv⟩ := find_rel hrel stamp hf
              rw [Array.find?_toList] at hf'
              refine ⟨.tuple #[f.key, f.val], ?_, pair2 hk hv⟩
              rw [hoff]
              simp only [Nat.zero_add, Instr.entry, Sem.run_bind, getObj_iter hh (by simp), hs, Result.andThen_ok, run_getMap hh2, hf', bne_self_eq_false, Bool.false_eq_true, if_false, Sem.run_pure]
            · exact absurd h (by simp)
          · exact absurd h (by simp)
        · exact absurd h (by simp)
    · exact absurd h (by simp)
  · exact absurd h (by simp)

theorem filter_rel {p : MapEntry → Bool} : ∀ {l m : List MapEntry}, MRel ρ l m → (∀ e f : MapEntry, e.born = f.born → p e = p f) → MRel ρ (l.filter p) (m.filter p)
  | [], m, h, _ => by
    have : m = [] := List.eq_nil_of_length_eq_zero h.1.symm
    subst this
    exact h
  | e :: l, m, h, hp => by
    obtain ⟨f, m', rfl, hb, hk, hv, hm⟩ := h.of_cons
    have ih := filter_rel hm hp
    simp only [List.filter_cons, hp e f hb]
    split
    · refine ⟨by simp [ih.1], fun i x y hx hy => ?_⟩
      cases i with
      | zero => simp at hx hy; subst hx; subst hy; exact ⟨hb, hk, hv⟩
      | succ i => exact ih.2 i x y (by simpa using hx) (by simpa using hy)
    · exact ih

theorem all_rel {p : MapEntry → Bool} : ∀ {l m : List MapEntry}, MRel ρ l m → (∀ e f : MapEntry, e.born = f.born → p e = p f) → l.all p = m.all p
  | [], m, h, _ => by
    have : m = [] := List.eq_nil_of_length_eq_zero h.1.symm
    subst this
    rfl
  | e :: l, m, h, hp => by
    obtain ⟨f, m', rfl, hb, hk, hv, hm⟩ := h.of_cons
    simp only [List.all_cons, hp e f hb, all_rel hm hp]

theorem MRel.isEmpty {l m : List MapEntry} (h : MRel ρ l m) : l.isEmpty = m.isEmpty := by
  have := h.1
  cases l <;> cases m <;> simp_all

theorem MRel.append {l m l2 m2 : List MapEntry} (h : MRel ρ l m) (k : MRel ρ l2 m2) : MRel ρ (l ++ l2) (m ++ m2) := by
  refine ⟨by simp [h.1, k.1], fun i v v' x y => ?_⟩
  rcases Nat.lt_or_ge i l.length with g | g
  · rw [List.getElem?_append_left g] at x
    rw [List.getElem?_append_left (by rw [← h.1]; exact g)] at y
    exact h.2 i v v' x y
  · rw [List.getElem?_append_right g] at x
    rw [List.getElem?_append_right (by rw [← h.1]; exact g), ← h.1] at y
    exact k.2 _ v v' x y

theorem MRel.one {l m : List MapEntry} {e : MapEntry} (h : MRel ρ l m) (hl : l = [e]) : ∃ f, m = [f] ∧ e.born = f.born ∧ VRel ρ e.key f.key ∧ VRel ρ e.val f.val := by
  subst hl
  obtain ⟨f, m', rfl, a, b, c, d⟩ := h.of_cons
  have : m' = [] := List.eq_nil_of_length_eq_zero d.1.symm
  subst this
  exact ⟨f, rfl, a, b, c⟩

theorem ok_next (hR : R w0 S σ ρ w) {x x' : Value} {isString : Bool} {ty : TypeId} {r : ARes} (h : nextA σ x isString = some r) (hx : VRel ρ x x') :
    ∃ v' w', (Instr.next x' isString ty).run P w = .ok v' w' ∧ ((∃ v, r = .val v ∧ VRel ρ v v' ∧ R w0 S σ ρ w') ∨ (∃ v σ', r = .eff v σ' ∧ VRel ρ v v' ∧ R w0 S σ' ρ w')) := by
  have over : VRel ρ (.tuple #[.bool false]) (.tuple #[.bool false]) := plain_rel ρ rfl
  unfold nextA at h
  split at h
  · rename_i id
    cases hx with
    | @ptr _ _ L hL =>
    split at h
    · rename_i s pos hg
      obtain ⟨hoff, hh⟩ := siter_of hR hL hg
      rw [hoff]
      split at h
      · rename_i hlt
        cases h
        refine ⟨.tuple #[.bool true, goInt pos, .int .i32 (Utf8.decode s pos).1], _, ?_, .inr ⟨_, _, rfl, plain_rel ρ rfl, hR.setIt hL hg (o2 := .siter s (pos + (Utf8.decode s pos).2)) (p2 := .stringIter s (pos + (Utf8.decode s pos).2)) (fun _ _ _ => by simp) ⟨hoff, rfl, rfl⟩⟩⟩
        simp [Instr.next, getObj_iter hh, hlt, setObj_iter _ hh]
      · rename_i hlt
        cases h
        exact ⟨_, w, by simp [Instr.next, getObj_iter hh, hlt], .inl ⟨_, rfl, over, hR⟩⟩
    · rename_i a b c hg
      obtain ⟨m', hoff, hh, hm⟩ := iter_of hR hL hg
      rw [hoff]
      cases h
      rcases hm with ⟨_, rfl⟩ | ⟨_, _, e, _⟩
      · exact ⟨_, w, by simp [Instr.next, getObj_iter hh], .inl ⟨_, rfl, over, hR⟩⟩
      · simp at e
    · rename_i m since seen last hg
      obtain ⟨m', hoff, hh, hm⟩ := iter_of hR hL hg
      rw [hoff]
      rcases hm with ⟨e, _⟩ | ⟨m2, M, e, hM, rfl⟩
      · simp at e
      · cases e
        split at h
        · rename_i es ck hgm
          obtain ⟨es', hh2, hrel⟩ := map_of hR hM hgm
          split at h
          · exact absurd h (by simp)
          · rename_i hbad
            have hleft := filter_rel (p := fun e => !seen.contains e.born) hrel (fun e f hb => by simp only [hb])
            have hold := filter_rel (p := fun e => decide (e.born < since)) hleft (fun e f hb => by simp only [hb])
            have hnew := filter_rel (p := fun e => decide (e.born ≥ since)) hleft (fun e f hb => by simp only [hb])
            have hbad' : ¬ ((!seen.isEmpty && !es'.isEmpty && es'.all fun x => decide (x.born ≥ last)) = true) := by
              have h1 : es.isEmpty = es'.isEmpty := by rw [hrel.isEmpty]; simp
              have h2 := all_rel (p := fun x => decide (x.born ≥ last)) hrel (fun e f hb => by simp only [hb])
              rw [h1, h2, Array.all_toList] at hbad
              exact hbad
            have run : ∀ c : Option MapEntry, ((if (es'.filter (fun e => !seen.contains e.born)).filter (fun e => decide (e.born < since)) |>.isEmpty then #[none] else #[]) ++ ((es'.filter (fun e => !seen.contains e.born)).filter (fun e => decide (e.born < since)) ++ (es'.filter (fun e => !seen.contains e.born)).filter (fun e => decide (e.born ≥ since))).map some) = #[c] →
                (Instr.next (.pointer (some ⟨L.blk, 0, none⟩)) false ty).run P w = (match c with
                  | some e => .ok (.tuple #[.bool true, e.key, e.val]) { w with heap := w.heap.setIfInBounds L.blk (.mapIter (some M.blk) since (seen.push e.born) ck) }
                  | none => .ok (.tuple #[.bool false]) w) := by
              intro c hc
              simp only [Instr.next, Sem.run_bind, getObj_iter hh (by simp), Result.andThen_ok, run_getMap hh2, if_neg hbad', Sem.run_ite]
              rw [hc]
              cases c with
              | none => simp [Question.forced]
              | some e => simp [Question.forced, setObj_iter _ hh]
            have harr : ((if (es'.filter (fun (e : MapEntry) => !seen.contains e.born)).filter (fun (e : MapEntry) => decide (e.born < since)) |>.isEmpty then #[none] else #[]) ++ ((es'.filter (fun (e : MapEntry) => !seen.contains e.born)).filter (fun (e : MapEntry) => decide (e.born < since)) ++ (es'.filter (fun (e : MapEntry) => !seen.contains e.born)).filter (fun (e : MapEntry) => decide (e.born ≥ since))).map some).toList =
                (if ((es'.toList.filter (fun (e : MapEntry) => !seen.contains e.born)).filter (fun (e : MapEntry) => decide (e.born < since))).isEmpty then [none] else []) ++ ((es'.toList.filter (fun (e : MapEntry) => !seen.contains e.born)).filter (fun (e : MapEntry) => decide (e.born < since)) ++ (es'.toList.filter (fun (e : MapEntry) => !seen.contains e.born)).filter (fun (e : MapEntry) => decide (e.born ≥ since))).map some := by
              simp only [Array.toList_append, Array.toList_map, Array.toList_filter]
              have hc : ((es'.filter (fun (e : MapEntry) => !seen.contains e.born)).filter (fun (e : MapEntry) => decide (e.born < since))).isEmpty = ((es'.toList.filter (fun (e : MapEntry) => !seen.contains e.born)).filter (fun (e : MapEntry) => decide (e.born < since))).isEmpty := by
                rw [← Array.toList_filter, ← Array.toList_filter, Array.isEmpty_toList]
              rw [hc]
              congr 1
              split <;> rfl
            have happ := MRel.append hold hnew
            have hemp := hold.isEmpty
            dsimp only at h
            split at h
            · rename_i e he
              cases h
              by_cases hoe : ((es.filter fun e => !seen.contains e.born).filter fun e => decide (e.born < since)).isEmpty = true
              · rw [if_pos hoe] at he
                simp at he
              · rw [if_neg hoe, List.nil_append] at he
                have he2 : ((es.filter fun e => !seen.contains e.born).filter fun e => decide (e.born < since)) ++ ((es.filter fun e => !seen.contains e.born).filter fun e => decide (e.born ≥ since)) = [e] := by
                  have := congrArg (List.map (fun o : Option MapEntry => o.getD e)) he
                  simpa [List.map_map, Function.comp_def] using this
                obtain ⟨f, hf, hb, hk, hv⟩ := happ.one he2
                have hrun := run (some f) (by
                  apply Array.ext'
                  rw [harr, ← hemp, if_neg hoe, hf]
                  rfl)
                refine ⟨_, _, hrun, .inr ⟨_, _, rfl, pair3 (.bool true) hk hv, ?_⟩⟩
                rw [hb]
                exact hR.setIt hL hg (fun _ _ _ => by simp) ⟨hoff, rfl, rfl, rfl, .inr ⟨m, M, rfl, hM, rfl⟩⟩
            · rename_i he
              cases h
              by_cases hoe : ((es.filter fun e => !seen.contains e.born).filter fun e => decide (e.born < since)).isEmpty = true
              · rw [if_pos hoe] at he
                have he2 : ((es.filter fun e => !seen.contains e.born).filter fun e => decide (e.born < since)) ++ ((es.filter fun e => !seen.contains e.born).filter fun e => decide (e.born ≥ since)) = [] := by
                  have h1 := congrArg List.length he
                  apply List.eq_nil_of_length_eq_zero
                  simpa using h1
                have he3 := List.eq_nil_of_length_eq_zero (happ.1.symm.trans (congrArg List.length he2))
                have hrun := run none (by
                  apply Array.ext'
                  rw [harr, ← hemp, if_pos hoe, he3]
                  rfl)
                exact ⟨_, w, hrun, .inl ⟨_, rfl, over, hR⟩⟩
              · rw [if_neg hoe, List.nil_append] at he
                have h1 := congrArg (fun l => l.all Option.isSome) he
                simp at h1
            · exact absurd h (by simp)
        · exact absurd h (by simp)
    · exact absurd h (by simp)
  · exact absurd h (by simp)

end
end Am
end Go

/- The abstract machine's operations and the model's: every operation. -/
set_option linter.unusedVariables false
set_option linter.unusedSimpArgs false
namespace Go
namespace Am
section
variable {P : Program} {w0 : World} {S : Own} {σ : AW} {ρ : Rho} {w : World}

/-- what is said of named values is so -/
def Says (S : Own) (ρ : Rho) : Prop := S.base.le ρ ∧ ∀ i L v, ρ i = some L → L.val = some v → S.spec i L

structure FactsOk (P : Program) (X : Facts) (S : Own) : Prop where
  bin : ∀ op x y r, (op, x, y, r) ∈ X.bin → ∀ ρ, Says S ρ → ∀ t xo yo x' y' w, VRel ρ x x' → VRel ρ y y' → ∃ r', (do eqGuard op t xo yo x' y'; binOp op t x' y' : Sem Value).run P w = .ok r' w ∧ VRel ρ r r'
  un : ∀ op x r, (op, x, r) ∈ X.un → ∀ ρ, Says S ρ → ∀ x' w, VRel ρ x x' → ∃ r', (Op.unary op x').run P w = .ok r' w ∧ VRel ρ r r'
  conv : ∀ s d x r, (s, d, x, r) ∈ X.conv → ∀ ρ, Says S ρ → ∀ x' w, VRel ρ x x' → ∃ r', (convert s d x').run P w = .ok r' w ∧ VRel ρ r r'
  len : ∀ t x r, (t, x, r) ∈ X.len → ∀ ρ, Says S ρ → ∀ (ts : Array TypeId) ty (args : Array Value) x' w, ts[0]? = some t → args[0]? = some x' → VRel ρ x x' → ∃ r', (Builtin.len_ ts ty args).run P w = .ok r' w ∧ VRel ρ r r'
  made : ∀ t l i, (t, l, i) ∈ X.made → ∀ ρ, Says S ρ → ∀ l' w, VRel ρ l l' → ∃ (n : Nat) (o : Obj), l' = .int .i64 n ∧ S.spec i ⟨w.heap.size, 0, 0, 0, some (.slice (some ⟨w.heap.size, 0, none⟩) n n), some o⟩ ∧ (Instr.makeSlice t l' l').run P w = .ok (.slice (some ⟨w.heap.size, 0, none⟩) n n) (w.alloc o)
  keys : ∀ kt k ns, (kt, k, ns) ∈ X.keys → ∀ ρ, Says S ρ → ∀ k' j, VRel ρ k k' → P.underlying kt = some (.int j) → ∃ a, k' = .int j a ∧ ∀ n ∈ ns, a ≠ n

theorem FactsOk.none (P : Program) (S : Own) : FactsOk P .none S :=
  ⟨fun _ _ _ _ h => by simp [Facts.none] at h, fun _ _ _ h => by simp [Facts.none] at h, fun _ _ _ _ h => by simp [Facts.none] at h, fun _ _ _ h => by simp [Facts.none] at h, fun _ _ _ h => by simp [Facts.none] at h, fun _ _ _ h => by simp [Facts.none] at h⟩

theorem R.says {σ : AW} {ρ : Rho} {w : World} (h : R w0 S σ ρ w) : Says S ρ := ⟨h.base, h.spec⟩

theorem lookBin_mem {op : BinOp} {x y r : Value} : ∀ {l : List (BinOp × Value × Value × Value)}, lookBin op x y l = some r → (op, x, y, r) ∈ l
  | [], h => by simp [lookBin] at h
  | (op', x', y', r') :: l, h => by
    unfold lookBin at h
    split at h
    · rename_i hb
      simp only [Bool.and_eq_true, decide_eq_true_eq] at hb
      obtain ⟨⟨h1, h2⟩, h3⟩ := hb
      cases h
      rw [h1, ← sameN_eq _ _ _ h2, ← sameN_eq _ _ _ h3]
      simp
    · exact List.mem_cons_of_mem _ (lookBin_mem h)
theorem lookUn_mem {op : UnOp} {x r : Value} : ∀ {l : List (UnOp × Value × Value)}, lookUn op x l = some r → (op, x, r) ∈ l
  | [], h => by simp [lookUn] at h
  | (op', x', r') :: l, h => by
    unfold lookUn at h
    split at h
    · rename_i hb
      simp only [Bool.and_eq_true, decide_eq_true_eq] at hb
      cases h
      rw [hb.1, ← sameN_eq _ _ _ hb.2]
      simp
    · exact List.mem_cons_of_mem _ (lookUn_mem h)
theorem lookConv_mem {s d : TypeId} {x r : Value} : ∀ {l : List (TypeId × TypeId × Value × Value)}, lookConv s d x l = some r → (s, d, x, r) ∈ l
  | [], h => by simp [lookConv] at h
  | (s', d', x', r') :: l, h => by
    unfold lookConv at h
    split at h
    · rename_i hb
      simp only [Bool.and_eq_true] at hb
      cases h
      rw [beq_t hb.1.1, beq_t hb.1.2, ← sameN_eq _ _ _ hb.2]
      simp
    · exact List.mem_cons_of_mem _ (lookConv_mem h)
theorem lookLen_mem {t : TypeId} {x r : Value} : ∀ {l : List (TypeId × Value × Value)}, lookLen t x l = some r → (t, x, r) ∈ l
  | [], h => by simp [lookLen] at h
  | (t', x', r') :: l, h => by
    unfold lookLen at h
    split at h
    · rename_i hb
      simp only [Bool.and_eq_true] at hb
      cases h
      rw [beq_t hb.1, ← sameN_eq _ _ _ hb.2]
      simp
    · exact List.mem_cons_of_mem _ (lookLen_mem h)

theorem lookMk_mem {t : TypeId} {x : Value} {i : Nat} : ∀ {l : List (TypeId × Value × Nat)}, lookMk t x i l = true → (t, x, i) ∈ l
  | [], h => by simp [lookMk] at h
  | (t', x', i') :: l, h => by
    unfold lookMk at h
    split at h
    · rename_i hb
      simp only [Bool.and_eq_true] at hb
      rw [beq_t hb.1.1, ← sameN_eq _ _ _ hb.1.2, beq_t hb.2]
      simp
    · exact List.mem_cons_of_mem _ (lookMk_mem h)

theorem lookKey_mem {kt : TypeId} {k : Value} {ns : List Int} : ∀ {l : List (TypeId × Value × List Int)}, lookKey kt k l = some ns → (kt, k, ns) ∈ l
  | [], h => by simp [lookKey] at h
  | (t', x', ns') :: l, h => by
    unfold lookKey at h
    split at h
    · rename_i hb
      simp only [Bool.and_eq_true] at hb
      cases h
      rw [beq_t hb.1, ← sameN_eq _ _ _ hb.2]
      simp
    · exact List.mem_cons_of_mem _ (lookKey_mem h)

theorem otherKeys_now {j : IntKind} {a : Int} {ns : List Int} (hns : ∀ n ∈ ns, a ≠ n) : ∀ {l m : List MapEntry} {i : Nat}, MRel ρ l m → otherKeys j ns l = true → Instr.findNow (.int j) (.int j a) m i = some none
  | [], m, i, h, _ => by
    have : m = [] := List.eq_nil_of_length_eq_zero h.1.symm
    subst this
    rfl
  | e :: l, m, i, h, ho => by
    obtain ⟨f, m', rfl, hb, hk, hv, hm⟩ := h.of_cons
    unfold otherKeys at ho
    split at ho
    · rename_i j' b he
      simp only [Bool.and_eq_true, decide_eq_true_eq, List.any_eq_true] at ho
      obtain ⟨⟨h1, n, hn, h2⟩, h3⟩ := ho
      subst h1
      rw [he] at hk
      have hfk := hk.int_inv
      have hne : (a == b) = false := by
        have := hns n hn
        rw [h2] at this
        simpa using this
      simp only [Instr.findNow, hfk, Instr.sameNow, if_true, hne]
      exact otherKeys_now hns hm h3
    · exact absurd ho (by simp)

theorem ok_lookupK (hR : R w0 S σ ρ w) {X : Facts} (hX : FactsOk P X S) {t : TypeId} {m m' k k' v : Value} {ok : Bool} (h : lookupK P X σ t m k ok = some v) (hm : VRel ρ m m') (hk : VRel ρ k k') :
    ∃ v', (Instr.lookup t m' k' ok).run P w = .ok v' w ∧ VRel ρ v v' := by
  unfold lookupK at h
  split at h
  · rename_i kt et hu
    split at h
    · rename_i es ck ns j hmo hkf hku
      obtain ⟨a, rfl, hns⟩ := hX.keys _ _ _ (lookKey_mem hkf) ρ hR.says k' j hk hku
      split at h
      · rename_i z ho hz
        simp only [Option.some.injEq] at h
        subst h
        have two : VRel ρ (if ok then .tuple #[z, .bool false] else z) (if ok then .tuple #[z, .bool false] else z) := by
          have hzz := plain_rel ρ (zeroT_plain hz)
          split
          · have : ARel ρ #[z, .bool false] #[z, .bool false] := (LRel.cons hzz (LRel.cons (.bool false) .nil)).toA
            exact .tuple this.1 this.2
          · exact hzz
        refine ⟨if ok then .tuple #[z, .bool false] else z, ?_, two⟩
        rcases ok_mapOf hR hmo hm with ⟨rfl, rfl⟩ | ⟨r, es', rfl, hh, hrel⟩
        · have hf : (Instr.findKey kt (.int j a) []).run P w = .ok none w := run_findKey hku rfl w
          simp [Instr.lookup, run_underlying hu, run_checkKey hku, hf, run_zeroT hz]
        · have hf := run_findKey (P := P) hku (otherKeys_now (i := 0) hns hrel ho) w
          simp [Instr.lookup, run_underlying hu, run_checkKey hku, hf, run_zeroT hz, run_getMap hh]
      · exact absurd h (by simp)
    · exact absurd h (by simp)
  · exact absurd h (by simp)

theorem ok_intBin {op : BinOp} {x y x' y' v : Value} (h : intBin op x y = some v) (hx : VRel ρ x x') (hy : VRel ρ y y') (t : TypeId) (xo yo : Operand) :
    (do eqGuard op t xo yo x' y'; binOp op t x' y' : Sem Value).run P w = .ok v w ∧ VRel ρ v v := by
  unfold intBin at h
  split at h
  · rename_i k a k' b
    rw [hx.int_inv, hy.int_inv]
    split at h
    · rename_i hk
      have hk : k = k' := by simpa using hk
      subst hk
      split at h
      case h_10 => exact absurd h (by simp)
      all_goals
        simp only [Option.some.injEq] at h
        subst h
        refine ⟨?_, ?_⟩
        · simp [eqGuard, binOp, Op.intArith, Op.intCmp]
          try rfl
        · first | exact .int _ _ | exact .bool _
    · exact absurd h (by simp)
  · exact absurd h (by simp)

theorem ok_len (hR : R w0 S σ ρ w) {ts : Array TypeId} {t ty : TypeId} {x x' v : Value} (hts : ts[0]? = some t) (h : lenA P σ t x = some v) (hx : VRel ρ x x') (args : Array Value) (ha : args[0]? = some x') :
    (Builtin.len_ ts ty args).run P w = .ok v w ∧ VRel ρ v v := by
  unfold lenA at h
  split at h
  · rename_i s hu
    cases h; cases hx
    exact ⟨by simp [Builtin.len_, hts, ha, run_underlying hu], plain_rel ρ rfl⟩
  · rename_i n e hu
    cases h
    exact ⟨by simp [Builtin.len_, hts, ha, run_underlying hu], plain_rel ρ rfl⟩
  · rename_i e a n c hu
    cases h
    cases hx <;> exact ⟨by simp [Builtin.len_, hts, ha, run_underlying hu], plain_rel ρ rfl⟩
  · rename_i m _ _ k e hu
    cases hmo : mapOf σ m with
    | none => rw [hmo] at h; simp at h
    | some p =>
      obtain ⟨es, ck⟩ := p
      rw [hmo] at h
      simp only [Option.map_some, Option.some.injEq] at h
      subst h
      refine ⟨?_, plain_rel ρ rfl⟩
      rcases ok_mapOf hR hmo hx with ⟨rfl, rfl⟩ | ⟨r, es', rfl, hh, hrel⟩
      · simp [Builtin.len_, hts, ha, run_underlying hu]
      · have : es'.size = es.length := by rw [hrel.1]; simp
        simp [Builtin.len_, hts, ha, run_underlying hu, run_getMap hh, this]
  · rename_i hu
    split at h
    · rename_i n e hu2
      cases h
      exact ⟨by simp [Builtin.len_, hts, ha, run_underlying hu, run_underlying hu2], plain_rel ρ rfl⟩
    · exact absurd h (by simp)
  · exact absurd h (by simp)

theorem ok_cap {ts : Array TypeId} {t ty : TypeId} {x x' v : Value} (hts : ts[0]? = some t) (h : capA P t x = some v) (hx : VRel ρ x x') (args : Array Value) (ha : args[0]? = some x') :
    (Builtin.cap_ ts ty args).run P w = .ok v w ∧ VRel ρ v v := by
  unfold capA at h
  split at h
  · rename_i e a n c hu
    split at h
    · rename_i hc
      have hc := ble_t hc
      cases h
      cases hx with
      | slice0 => exact ⟨by simp [Builtin.cap_, hts, ha, run_underlying hu], plain_rel ρ rfl⟩
      | sliceX hL _ _ => exact ⟨by simp [Builtin.cap_, hts, ha, run_underlying hu], plain_rel ρ rfl⟩
      | sliceO hL _ _ => exact absurd hc open_big
      | sliceE hL _ => exact absurd hc empty_big
    · exact absurd h (by simp)
  · rename_i hu
    cases h
    exact ⟨by simp [Builtin.cap_, hts, ha, run_underlying hu], plain_rel ρ rfl⟩
  · exact absurd h (by simp)

/-- what an operation comes to -/
inductive Out (w0 : World) (S : Own) (σ : AW) (ρ : Rho) : ARes → Result Next → Prop
  | val {v v' : Value} {w' : World} {ρ' : Rho} (hle : ρ.le ρ') (hv : VRel ρ' v v') (hR : R w0 S σ ρ' w') : Out w0 S σ ρ (.val v) (.ok (.value v') w')
  | eff {v v' : Value} {σ' : AW} {w' : World} {ρ' : Rho} (hle : ρ.le ρ') (hv : VRel ρ' v v') (hR : R w0 S σ' ρ' w') : Out w0 S σ ρ (.eff v σ') (.ok (.value v') w')
  | skip {σ' : AW} {w' : World} {ρ' : Rho} (hle : ρ.le ρ') (hR : R w0 S σ' ρ' w') : Out w0 S σ ρ (.eff undef σ') (.ok .skip w')
  | call {f : FuncId} {args args' : Array Value} {w' : World} (ha : ARel ρ args args') (hR : R w0 S σ ρ w') : Out w0 S σ ρ (.call f args) (.ok (.enter f args') w')
  | pan {v v' : Value} {w' : World} (hv : VRel ρ v v') (hR : R w0 S σ ρ w') : Out w0 S σ ρ (.pan v) (.halt (.panic v') w')
  | defer {f : FuncId} {c c' x x' : Array Value} {w' : World} (hc : ARel ρ c c') (hx : ARel ρ x x') (hR : R w0 S σ ρ w') :
      Out w0 S σ ρ (.defer { target := .fn (.func f) c, args := x }) (.ok (.defer { target := .fn (.func f) c', args := x' }) w')
  | recover {w' : World} (hR : R w0 S σ ρ w') : Out w0 S σ ρ .recover (.ok .recover w')

theorem ARel.map {ev e' : Operand → Value} {xs : Array Operand} (h : ∀ x ∈ xs, VRel ρ (ev x) (e' x)) : ARel ρ (xs.map ev) (xs.map e') := by
  refine ⟨by simp, fun i v v' x y => ?_⟩
  rw [Array.getElem?_map] at x y
  cases hx : xs[i]? with
  | none => rw [hx] at x; simp at x
  | some o =>
    rw [hx] at x y
    simp at x y
    subst x; subst y
    exact h o (Array.mem_of_getElem? hx)

theorem ARel.append {a b c d : Array Value} (h : ARel ρ a b) (k : ARel ρ c d) : ARel ρ (a ++ c) (b ++ d) := by
  have := (LRel.append h.toL k.toL).toA
  have e : ∀ x y : Array Value, (x.toList ++ y.toList).toArray = x ++ y := fun x y => by apply Array.ext'; simp
  rw [e, e] at this
  exact this

theorem all_same {ev e' : Operand → Value} {xs : Array Operand} (h : ∀ x ∈ xs, VRel ρ (ev x) (e' x)) (hp : xs.toList.all (fun x => plain (ev x)) = true) : ∀ x ∈ xs, ev x = e' x := by
  intro x hx
  rw [List.all_eq_true] at hp
  exact plain_eq (h x hx) (hp x (by rw [Array.mem_toList_iff]; exact hx))

/-- an operation that asks nothing of memory, on operands without an address -/
theorem ok_pure (hR : R w0 S σ ρ w) {ev e' : Operand → Value} {o : Oper} {r : ARes} (hs : ∀ cs b, o.op ≠ .select cs b) (h : pureVal P (execOp ev o) = some r) (hev : ∀ x ∈ o.op.operands, ev x = e' x) :
    Out w0 S σ ρ r ((execOp e' o).run P w) := by
  unfold pureVal at h
  split at h
  · rename_i v hp
    split at h
    · rename_i hpl
      cases h
      rw [← execOp_congr o hs hev, run_pureOf _ _ hp w]
      exact .val ρ.le_refl (plain_rel ρ hpl) hR
    · exact absurd h (by simp)
  · exact absurd h (by simp)


theorem run_noEscape {P : Program} {f : FuncId} {fn : Func} (hf : P.funcs[f]? = some fn) (h1 : (fn.name == "internal/abi.NoEscape") = true) (h2 : (fn.origin == "") = true) (h3 : fn.body.isNone = true) (v : Value) (w : World) :
    (callFunc f #[v]).run P w = .ok (.value v) w := by
  have e1 : fn.name = "internal/abi.NoEscape" := by simpa using h1
  have e2 : fn.origin = "" := by simpa using h2
  rw [run_callFunc_extern (e := Extern.AbiNoEscape.same) hf (by rw [e1]; decide +kernel) h3 (by unfold Extern.findNext; rw [e1, e2]; rfl) (by unfold Extern.find; rw [e1, e2]; rfl)]
  rfl

theorem aop_sound [NoEx P S] (hR : R w0 S σ ρ w) {ev e' : Operand → Value} {o : Oper} {r : ARes} {X : Facts} (hX : FactsOk P X S) (h : aop P X ev o σ = some r) (hev : ∀ x ∈ o.op.operands, VRel ρ (ev x) (e' x)) :
    Out w0 S σ ρ r ((execOp e' o).run P w) := by
  obtain ⟨dst, op, type, pos, after, guard⟩ := o
  cases op <;> simp only [aop] at h <;> simp only [Op.operands] at hev
  case move x => cases h; exact .val ρ.le_refl (hev x (by simp)) hR
  case assign x => cases h; exact .val ρ.le_refl (hev x (by simp)) hR
  case pick c a b =>
    unfold pickA at h
    have h1 := hev c (by simp)
    split at h
    · rename_i hc
      cases h
      rw [hc] at h1
      have h2 : e' c = .bool true := (plain_eq h1 rfl).symm
      simp only [execOp, Sem.run_bind, h2, asBool, Sem.run_pure, Result.andThen_ok]
      exact .val ρ.le_refl (hev a (by simp)) hR
    · rename_i hc
      cases h
      rw [hc] at h1
      have h2 : e' c = .bool false := (plain_eq h1 rfl).symm
      simp only [execOp, Sem.run_bind, h2, asBool, Sem.run_pure, Result.andThen_ok]
      exact .val ρ.le_refl (hev b (by simp)) hR
    · exact absurd h (by simp)
  case extract t i =>
    unfold extractA at h
    split at h
    · rename_i vs ht
      split at h
      · rename_i v hv
        cases h
        have h1 := hev t (by simp)
        rw [ht] at h1
        generalize hq : e' t = q at h1
        cases h1 with
        | tuple a b =>
          obtain ⟨v', hv', hrel⟩ := ARel.get ⟨a, b⟩ hv
          simp only [execOp, Sem.run_bind, hq, Instr.extract, hv', Sem.run_pure, Result.andThen_ok]
          exact .val ρ.le_refl hrel hR
      · exact absurd h (by simp)
    · exact absurd h (by simp)
  case alloc e =>
    unfold allocA at h
    split at h
    · rename_i z hz
      unfold boxA at h
      split at h
      · rename_i id σ' hn
        cases h
        obtain ⟨ρ', a, b, c⟩ := ok_var hR hn (plain_cells (zeroT_plain hz))
        have : (execOp e' { dst := dst, op := .alloc e, type := type, pos := pos, after := after, guard := guard }).run P w = .ok (.value (.pointer (some ⟨w.heap.size, 0, none⟩))) (w.alloc (.cells z.cells e)) := by
          simp [execOp, Instr.alloc, run_zeroT hz, newVar, newRow]
        rw [this]
        exact .eff a b c
      · exact absurd h (by simp)
    · exact absurd h (by simp)
  case box e x =>
    unfold boxA at h
    split at h
    · rename_i id σ' hn
      cases h
      obtain ⟨ρ', a, b, c⟩ := ok_var hR hn (hev x (by simp)).cellsA
      have : (execOp e' { dst := dst, op := .box e x, type := type, pos := pos, after := after, guard := guard }).run P w = .ok (.value (.pointer (some ⟨w.heap.size, 0, none⟩))) (w.alloc (.cells (e' x).cells e)) := by
        simp [execOp, Instr.box, newVar, newRow]
      rw [this]
      exact .eff a b c
    · exact absurd h (by simp)
  case build t parts =>
    cases hb : buildA P t (parts.map fun (i, x) => (i, ev x)) with
    | none => rw [hb] at h; simp [valOf] at h
    | some v =>
      rw [hb] at h
      simp only [valOf, Option.some.injEq] at h
      subst h
      have hp : PRel ρ (parts.map fun (i, x) => (i, ev x)).toList (parts.map fun (i, x) => (i, e' x)).toList := by
        refine ⟨by simp, fun i x y hx hy => ?_⟩
        simp only [Array.toList_map, List.getElem?_map] at hx hy
        cases hq : parts.toList[i]? with
        | none => rw [hq] at hx; simp at hx
        | some q =>
          rw [hq] at hx hy
          simp at hx hy
          subst hx; subst hy
          exact ⟨rfl, hev q.2 (by simp; exact ⟨q.1, by rw [← Array.mem_toList_iff]; exact List.mem_of_getElem? hq⟩)⟩
      obtain ⟨v', hrun, hrel⟩ := ok_build (w := w) hb hp
      simp only [execOp, Sem.run_bind, hrun, Result.andThen_ok, Sem.run_pure]
      exact .val ρ.le_refl hrel hR
  case buildSlice t len parts =>
    unfold buildSliceA at h
    split at h
    · rename_i elem hu
      split at h
      · rename_i k z hk hz
        split at h
        · rename_i hb
          simp only [Bool.and_eq_true] at hb
          obtain ⟨⟨b1, b2⟩, b3⟩ := hb
          have b1 := ble_t b1; have b2 := ble_t b2; have b3 := beq_t b3
          split at h
          · rename_i cs hf
            split at h
            · rename_i id σ' hn
              cases h
              have hp : PRel ρ (parts.map fun (i, x) => (i, ev x)).toList (parts.map fun (i, x) => (i, e' x)).toList := by
                refine ⟨by simp, fun i x y hx hy => ?_⟩
                simp only [Array.toList_map, List.getElem?_map] at hx hy
                cases hq : parts.toList[i]? with
                | none => rw [hq] at hx; simp at hx
                | some q =>
                  rw [hq] at hx hy
                  simp at hx hy
                  subst hx; subst hy
                  exact ⟨rfl, hev q.2 (by simp; exact ⟨q.1, by rw [← Array.mem_toList_iff]; exact List.mem_of_getElem? hq⟩)⟩
              obtain ⟨cs', hf', hrel⟩ := fill_rel _ _ _ _ _ _ hp (madeRow_rel (plain_cells (zeroT_plain hz)) (len * k) (by omega)) hf
              obtain ⟨ρ', a, b, c⟩ := ok_row hR hn hrel (Nat.le_refl len) (by
                have : len * 1 ≤ len * k := Nat.mul_le_mul_left _ b2
                omega)
              have : (execOp e' { dst := dst, op := .buildSlice t len parts, type := type, pos := pos, after := after, guard := guard }).run P w = .ok (.value (.slice (some ⟨w.heap.size, 0, none⟩) len len)) (w.alloc (.cells cs' elem)) := by
                have hnot : ¬ (len * k > 2 ^ 24) := by omega
                by_cases h0 : len * k = 0
                · have hrow : madeRow z.cells (len * k) = (Array.range (len * k)).map ((#[] : Array Value)[· % (#[] : Array Value).size]!) := by
                    rw [h0]; simp [madeRow, Array.range_zero']
                  rw [hrow] at hf'
                  simp only [execOp, Instr.buildSlice, Sem.run_bind, run_underlying hu, Result.andThen_ok, run_sizeT hk, Sem.run_ite, if_neg hnot, if_pos h0, Sem.run_pure, hf', newRow, run_newObj]
                  rfl
                · have hf2 : Instr.fill (fun i => some (i * k, k)) ((Array.range (len * k)).map (z.cells[· % z.cells.size]!)) (parts.map fun (i, x) => (i, e' x)).toList = some cs' := hf'
                  simp only [execOp, Instr.buildSlice, Sem.run_bind, run_underlying hu, Result.andThen_ok, run_sizeT hk, Sem.run_ite, if_neg hnot, if_neg h0, run_zeroT hz, Sem.run_pure, hf2, newRow, run_newObj]
                  rfl
              rw [this]
              exact .eff a b c
            · exact absurd h (by simp)
          · exact absurd h (by simp)
        · exact absurd h (by simp)
      · exact absurd h (by simp)
    · exact absurd h (by simp)
  case load t a =>
    cases hl : loadA P σ t (ev a) with
    | none => rw [hl] at h; simp [valOf, skipOf] at h
    | some v =>
      rw [hl] at h
      simp only [valOf, Option.some.injEq] at h
      subst h
      obtain ⟨v', hrun, hrel⟩ := ok_load (P := P) hR hl (hev a (by simp))
      simp only [execOp, Sem.run_bind, hrun, Result.andThen_ok, Sem.run_pure]
      exact .val ρ.le_refl hrel hR
  case store t a x =>
    cases hl : storeA P σ t (ev a) (ev x) with
    | none => rw [hl] at h; simp [valOf, skipOf] at h
    | some σ' =>
      rw [hl] at h
      simp only [skipOf, Option.some.injEq] at h
      subst h
      obtain ⟨w', hrun, hR'⟩ := ok_store (P := P) hR hl (hev a (by simp)) (hev x (by simp))
      simp only [execOp, Sem.run_bind, hrun, Result.andThen_ok, Sem.run_pure]
      exact .skip ρ.le_refl hR'
  case nilCheck x =>
    have h1 := hev x (by simp)
    generalize hq : e' x = q at h1
    unfold nilCheckA at h
    split at h
    · rename_i a he
      cases h
      rw [he] at h1
      cases h1 with
      | ptr hL =>
        simp only [execOp, hq]
        exact .val ρ.le_refl (.ptr hL) hR
    · rename_i f a c he
      cases h
      rw [he] at h1
      cases h1 with
      | func p1 p2 p3 p4 =>
        simp only [execOp, hq]
        exact .val ρ.le_refl (.func p1 p2 p3 p4) hR
    · rename_i t v he
      cases h
      rw [he] at h1
      cases h1 with
      | iface p =>
        simp only [execOp, hq]
        exact .val ρ.le_refl (.iface p) hR
    · exact absurd h (by simp)
  case binOp op t x y yt =>
    unfold binA at h
    split at h
    · rename_i v hv
      cases h
      obtain ⟨hrun, hvv⟩ := ok_intBin (P := P) (w := w) hv (hev x (by simp)) (hev y (by simp)) t x y
      simp only [execOp, Sem.run_bind] at hrun ⊢
      rw [hrun]
      exact .val ρ.le_refl hvv hR
    · split at h
      · rename_i v hv
        cases h
        unfold eqBin at hv
        split at hv
        · split at hv
          · rename_i b hb
            cases hv
            have := ok_eqNil (w := w) hb (hev x (by simp)) (hev y (by simp)) .eql x y (.inl rfl)
            simp only [execOp, Sem.run_bind] at this ⊢
            rw [this]
            exact .val ρ.le_refl (.bool _) hR
          · exact absurd hv (by simp)
        · split at hv
          · rename_i b hb
            cases hv
            have := ok_eqNil (w := w) hb (hev x (by simp)) (hev y (by simp)) .neq x y (.inr rfl)
            simp only [execOp, Sem.run_bind] at this ⊢
            rw [this]
            exact .val ρ.le_refl (.bool _) hR
          · exact absurd hv (by simp)
        · exact absurd hv (by simp)
      · split at h
        · rename_i hp
          simp only [Bool.and_eq_true] at hp
          refine ok_pure hR (by simp) h ?_
          intro u hu
          simp only [Op.operands] at hu
          simp at hu
          rcases hu with rfl | rfl
          · exact plain_eq (hev _ (by simp)) hp.1
          · exact plain_eq (hev _ (by simp)) hp.2
        · cases hl : lookBin op (ev x) (ev y) X.bin with
          | none => rw [hl] at h; simp at h
          | some v =>
            rw [hl] at h
            simp only [Option.map_some, Option.some.injEq] at h
            subst h
            obtain ⟨r', hrun, hrel⟩ := hX.bin _ _ _ _ (lookBin_mem hl) ρ hR.says t x y _ _ w (hev x (by simp)) (hev y (by simp))
            simp only [execOp, Sem.run_bind] at hrun ⊢
            rw [hrun]
            exact .val ρ.le_refl hrel hR
  case unOp op t x =>
    unfold unA at h
    split at h
    · rename_i v hv
      cases h
      unfold notA at hv
      split at hv
      · rename_i b hb
        cases hv
        have h1 := hev x (by simp)
        rw [hb] at h1
        have h2 : e' x = .bool b := (plain_eq h1 rfl).symm
        simp only [execOp, Sem.run_bind, h2, Op.unary, Sem.run_pure, Result.andThen_ok]
        exact .val ρ.le_refl (.bool _) hR
      · exact absurd hv (by simp)
    · split at h
      · rename_i hp
        refine ok_pure hR (by simp) h ?_
        intro u hu
        simp only [Op.operands] at hu
        simp at hu
        subst hu
        exact plain_eq (hev _ (by simp)) hp
      · cases hl : lookUn op (ev x) X.un with
        | none => rw [hl] at h; simp at h
        | some v =>
          rw [hl] at h
          simp only [Option.map_some, Option.some.injEq] at h
          subst h
          obtain ⟨r', hrun, hrel⟩ := hX.un _ _ _ (lookUn_mem hl) ρ hR.says _ w (hev x (by simp))
          simp only [execOp, Sem.run_bind] at hrun ⊢
          rw [hrun]
          exact .val ρ.le_refl hrel hR
  case index t x i =>
    unfold indexA at h
    split at h
    · rename_i hp
      simp only [Bool.and_eq_true] at hp
      refine ok_pure hR (by simp) h ?_
      intro u hu
      simp only [Op.operands] at hu
      simp at hu
      rcases hu with rfl | rfl
      · exact plain_eq (hev _ (by simp)) hp.1
      · exact plain_eq (hev _ (by simp)) hp.2
    · exact absurd h (by simp)
  case convert s d x =>
    unfold convA at h
    split at h
    · rename_i v hv
      cases h
      unfold intConv at hv
      split at hv
      · rename_i k n hx
        have h1 := hev x (by simp)
        rw [hx] at h1
        have h2 := h1.int_inv
        split at hv
        · rename_i ds k' hs hd
          cases hv
          simp only [execOp, Sem.run_bind, h2, convert, run_underlying hs, run_underlying hd, Result.andThen_ok, Conv.intToInt, Sem.run_pure]
          exact .val ρ.le_refl (.int _ _) hR
        · exact absurd hv (by simp)
      · exact absurd hv (by simp)
    · split at h
      · rename_i r' hc
        cases h
        obtain ⟨v', w', ρ', hrun, hle, hr⟩ := ok_convert (P := P) hR hc (hev x (by simp))
        simp only [execOp, Sem.run_bind, hrun, Result.andThen_ok, Sem.run_pure]
        rcases hr with ⟨v, rfl, hv, hR'⟩ | ⟨v, σ', rfl, hv, hR'⟩
        · exact .val hle hv hR'
        · exact .eff hle hv hR'
      · split at h
        · rename_i hp
          refine ok_pure hR (by simp) h ?_
          intro u hu
          simp only [Op.operands] at hu
          simp at hu
          subst hu
          exact plain_eq (hev _ (by simp)) hp
        · cases hl : lookConv s d (ev x) X.conv with
          | none => rw [hl] at h; simp at h
          | some v =>
            rw [hl] at h
            simp only [Option.map_some, Option.some.injEq] at h
            subst h
            obtain ⟨r', hrun, hrel⟩ := hX.conv _ _ _ _ (lookConv_mem hl) ρ hR.says _ w (hev x (by simp))
            simp only [execOp, Sem.run_bind, hrun, Result.andThen_ok, Sem.run_pure]
            exact .val ρ.le_refl hrel hR
  case makeInterface t x =>
    unfold makeIfaceA at h
    split at h
    · exact absurd h (by simp)
    · exact absurd h (by simp)
    · rename_i d hne hu
      cases h
      have hcon : P.concrete t = true := by
        unfold Program.concrete
        rw [hu]
        cases d <;> first | rfl | exact (hne _ rfl).elim
      simp only [execOp, Sem.run_bind, run_makeInterface w t (e' x) hcon, Result.andThen_ok, Sem.run_pure]
      exact .val ρ.le_refl (.iface (hev x (by simp))) hR
  case makeFunc fn first captured =>
    cases h
    have h1 := ARel.map (ρ := ρ) (xs := first) (ev := ev) (e' := e') fun x hx => hev x (by simp [hx])
    have h2 := ARel.map (ρ := ρ) (xs := captured) (ev := ev) (e' := e') fun x hx => hev x (by simp [hx])
    simp only [execOp, Instr.makeFunc, Sem.run_bind, Sem.run_pure, Result.andThen_ok]
    exact .val ρ.le_refl (.func h1.1 h1.2 h2.1 h2.2) hR
  case makeMap t r0 =>
    unfold makeMapA at h
    split at h
    · rename_i id σ' hn
      cases h
      obtain ⟨hid, _, _⟩ := AW.new_eq hn
      have hle : ρ.le (ρ.put id ⟨w.heap.size, 0, 0, 0, none, none⟩) := Rho.le_put (by rw [hid]; exact hR.dom _ (Nat.le_refl _))
      obtain ⟨h1, h2⟩ := hR.alloc hn (L := ⟨w.heap.size, 0, 0, 0, none, none⟩) (p := .map #[] 0) rfl rfl rfl (fun _ _ _ e => by cases e) ⟨rfl, rfl, fun i e e' x => by simp at x⟩
      have : (execOp e' { dst := dst, op := .makeMap t none, type := type, pos := pos, after := after, guard := guard }).run P w = .ok (.value (.map (some w.heap.size))) (w.alloc (.map #[] 0)) := by
        simp [execOp, Instr.makeMap]
      rw [this]
      exact .eff h1 (.map (Rho.put_same _ _ _)) h2
    · exact absurd h (by simp)
  case makeSlice t l c =>
    unfold mkA at h
    split at h
    · rename_i hmk
      simp only [Bool.and_eq_true] at hmk
      obtain ⟨⟨hm1, hm2⟩, hm3⟩ := hmk
      cases h
      have hlc : ev l = ev c := sameN_eq _ _ _ hm2
      have h1 := hev l (by simp)
      have h2 := hev c (by simp)
      rw [← hlc] at h2
      obtain ⟨n, o, hl', hspec, hrun⟩ := hX.made _ _ _ (lookMk_mem hm1) ρ hR.says (e' l) w h1
      have hcl : e' c = e' l := by
        rw [hl'] at h1
        generalize hq : ev l = q at h1 h2
        cases h1 with
        | int => rw [hl']; exact h2.int_inv
        | @sym id L v ha hb hc =>
          generalize hq2 : e' c = q2 at h2
          cases h2 with
          | @sym id2 L2 v2 ha2 hb2 hc2 =>
            rw [ha] at ha2
            cases ha2
            rw [hb] at hb2
            cases hb2
            rw [hl']
      obtain ⟨hle, hR'⟩ := hR.name (L := ⟨w.heap.size, 0, 0, 0, some (.slice (some ⟨w.heap.size, 0, none⟩) n n), some o⟩) (fun _ _ => hspec) (blt_t hm3) (w' := w.alloc o) rfl rfl rfl (by show w.heap.size ≤ (w.heap.push o).size; rw [Array.size_push]; omega)
        (fun b hb => heap_alloc_old w o b hb) (fun o' e => by cases e; exact ⟨heap_alloc_new w o, Nat.le_refl _⟩)
      simp only [execOp, Sem.run_bind, hcl, hrun, Result.andThen_ok, Sem.run_pure]
      exact .eff hle (.sym (Rho.put_same _ _ _) rfl rfl) hR'
    unfold makeSliceA at h
    split at h
    · rename_i elem kl l kc c hu hl hc
      split at h
      · rename_i i z hi hz
        split at h
        · rename_i hb
          simp only [Bool.and_eq_true] at hb
          obtain ⟨⟨⟨⟨b1, b2⟩, b3⟩, b4⟩, b5⟩ := hb
          have b1 := ble_t b1; have b2 := ble_t b2; have b3 := ble_t b3; have b4 := beq_t b4; have b5 := ble_t b5
          split at h
          · rename_i id σ' hn
            cases h
            have e1 : e' _ = _ := (hl ▸ hev _ (by simp)).int_inv
            have e2 : e' _ = _ := (hc ▸ hev _ (by simp)).int_inv
            have hzr : i.zero = some z := by
              unfold zeroT at hz
              rw [hi] at hz
              simp only [Option.bind_some] at hz
              split at hz
              · rename_i z' hz'
                split at hz
                · cases hz; exact hz'
                · exact absurd hz (by simp)
              · exact absurd hz (by simp)
            obtain ⟨ρ', a, b, cR⟩ := ok_row hR hn (madeRow_rel (plain_cells (zeroT_plain hz)) (c * i.size) (by omega)) b1 (by omega)
            have hm := run_make (P := P) w t elem i z hu hi hzr kl kc (Int.ofNat l) (Int.ofNat c) (Int.natCast_nonneg _) (by show (l : Int) ≤ (c : Int); omega)
              (by show (i.bytes : Int) * (c : Int) ≤ _; have : ((i.bytes * c : Nat) : Int) ≤ 281474976710656 := by omega
                  rwa [Int.natCast_mul] at this) (by show (c : Int) ≤ _; omega)
            simp only [execOp, Sem.run_bind, e1, e2, hm, Result.andThen_ok, Sem.run_pure]
            exact .eff a b cR
          · exact absurd h (by simp)
        · exact absurd h (by simp)
      · exact absurd h (by simp)
    · exact absurd h (by simp)
  case slice t x lo hi mx =>
    have opr : ∀ y : Option Operand, (∀ u, y = some u → VRel ρ (ev u) (e' u)) → OpRel ρ (y.map ev) (y.map e') := by
      intro y hy
      cases y with
      | none => exact trivial
      | some u => exact hy u rfl
    unfold slcA at h
    split at h
    · rename_i s hs
      split at h
      · rename_i hp
        refine ok_pure hR (by simp) h ?_
        exact all_same hev hp
      · exact absurd h (by simp)
    · obtain ⟨v, v', rfl, hrun, hrel⟩ := ok_slice (P := P) hR h (hev x (by simp)) (opr lo fun u hu => hev u (by simp [hu])) (opr hi fun u hu => hev u (by simp [hu])) (opr mx fun u hu => hev u (by simp [hu]))
      simp only [execOp, Sem.run_bind, hrun, Result.andThen_ok, Sem.run_pure]
      exact .val ρ.le_refl hrel hR
  case fieldAddr s x f =>
    cases hl : fieldAddrA P s (ev x) f with
    | none => rw [hl] at h; simp [valOf, skipOf] at h
    | some v =>
      rw [hl] at h
      simp only [valOf, Option.some.injEq] at h
      subst h
      obtain ⟨v', hrun, hrel⟩ := ok_field (P := P) (w := w) hl (hev x (by simp))
      simp only [execOp, Sem.run_bind, hrun, Result.andThen_ok, Sem.run_pure]
      exact .val ρ.le_refl hrel hR
  case field t x f =>
    cases hl : fieldA P t (ev x) f with
    | none => rw [hl] at h; simp [valOf, skipOf] at h
    | some v =>
      rw [hl] at h
      simp only [valOf, Option.some.injEq] at h
      subst h
      obtain ⟨v', hrun, hrel⟩ := ok_fieldv (P := P) (w := w) hl (hev x (by simp))
      simp only [execOp, Sem.run_bind, hrun, Result.andThen_ok, Sem.run_pure]
      exact .val ρ.le_refl hrel hR
  case indexAddr t x i =>
    cases hl : indexAddrA P t (ev x) (ev i) with
    | none => rw [hl] at h; simp [valOf, skipOf] at h
    | some v =>
      rw [hl] at h
      simp only [valOf, Option.some.injEq] at h
      subst h
      obtain ⟨v', hrun, hrel⟩ := ok_indexAddr (P := P) (w := w) hl (hev x (by simp)) (hev i (by simp))
      simp only [execOp, Sem.run_bind, hrun, Result.andThen_ok, Sem.run_pure]
      exact .val ρ.le_refl hrel hR
  case lookup t x i ok =>
    unfold lookupR at h
    split at h
    · rename_i v hl
      cases h
      obtain ⟨v', hrun, hrel⟩ := ok_lookup (P := P) hR hl (hev x (by simp)) (hev i (by simp))
      simp only [execOp, Sem.run_bind, hrun, Result.andThen_ok, Sem.run_pure]
      exact .val ρ.le_refl hrel hR
    · cases hl : lookupK P X σ t (ev x) (ev i) ok with
      | none => rw [hl] at h; simp [lookupR.valOfK] at h
      | some v =>
        rw [hl] at h
        simp only [lookupR.valOfK, Option.some.injEq] at h
        subst h
        obtain ⟨v', hrun, hrel⟩ := ok_lookupK (P := P) hR hX hl (hev x (by simp)) (hev i (by simp))
        simp only [execOp, Sem.run_bind, hrun, Result.andThen_ok, Sem.run_pure]
        exact .val ρ.le_refl hrel hR
  case mapUpdate t m k v =>
    cases hl : mapUpdateA P σ t (ev m) (ev k) (ev v) with
    | none => rw [hl] at h; simp [valOf, skipOf] at h
    | some σ' =>
      rw [hl] at h
      simp only [skipOf, Option.some.injEq] at h
      subst h
      obtain ⟨w', hrun, hR'⟩ := ok_update (P := P) hR hl (hev m (by simp)) (hev k (by simp)) (hev v (by simp))
      simp only [execOp, Sem.run_bind, hrun, Result.andThen_ok, Sem.run_pure]
      exact .skip ρ.le_refl hR'
  case insert t m k v =>
    cases hl : mapUpdateA P σ t (ev m) (ev k) (ev v) with
    | none => rw [hl] at h; simp [valOf, skipOf] at h
    | some σ' =>
      rw [hl] at h
      simp only [skipOf, Option.some.injEq] at h
      subst h
      obtain ⟨w', hrun, hR'⟩ := ok_update (P := P) hR hl (hev m (by simp)) (hev k (by simp)) (hev v (by simp))
      simp only [execOp, Sem.run_bind, hrun, Result.andThen_ok, Sem.run_pure]
      exact .skip ρ.le_refl hR'
  case range t x =>
    unfold rangeR at h
    split at h
    · rename_i v σ' hl
      cases h
      obtain ⟨v', w', ρ', hrun, hle, hrel, hR'⟩ := ok_range (P := P) hR hl (hev x (by simp))
      simp only [execOp, Sem.run_bind, hrun, Result.andThen_ok, Sem.run_pure]
      exact .eff hle hrel hR'
    · exact absurd h (by simp)
  case next it s =>
    obtain ⟨v', w', hrun, hr⟩ := ok_next (P := P) (ty := type) hR h (hev it (by simp))
    simp only [execOp, Sem.run_bind, hrun, Result.andThen_ok, Sem.run_pure]
    rcases hr with ⟨v, rfl, hv, hR'⟩ | ⟨v, σ', rfl, hv, hR'⟩
    · exact .val ρ.le_refl hv hR'
    · exact .eff ρ.le_refl hv hR'
  case entry it =>
    cases hl : entryA σ (ev it) with
    | none => rw [hl] at h; simp [valOf, skipOf] at h
    | some v =>
      rw [hl] at h
      simp only [valOf, Option.some.injEq] at h
      subst h
      obtain ⟨v', hrun, hrel⟩ := ok_entry (P := P) hR hl (hev it (by simp))
      simp only [execOp, Sem.run_bind, hrun, Result.andThen_ok, Sem.run_pure]
      exact .val ρ.le_refl hrel hR
  case typeAssert x xt t ok =>
    unfold assertA at h
    have h1 := hev x (by simp)
    split at h
    · exact absurd h (by simp)
    · exact absurd h (by simp)
    · rename_i d t' v hne hu hx
      rw [hx] at h1
      generalize hq : e' x = q at h1
      cases h1 with
      | iface p =>
        rename_i v'
        have hd : ∀ is, d ≠ .interface is := fun is e => hne is e
        split at h
        · rename_i ht
          have ht : t' = t := Nat.eq_of_beq_eq_true ht
          cases h
          have : (Instr.typeAssert (.iface t' v') xt t ok).run P w = .ok (if ok then .tuple #[v', .bool true] else v') w := by
            cases d <;> first | exact absurd rfl (hd _) | simp [Instr.typeAssert, run_underlying hu, ht]
          simp only [execOp, Sem.run_bind, hq, this, Result.andThen_ok, Sem.run_pure]
          refine .val ρ.le_refl ?_ hR
          cases ok
          · exact p
          · exact .tuple rfl (fun i a b x y => match i, x, y with
              | 0, x, y => by simp at x y; subst x; subst y; exact p
              | 1, x, y => by simp at x y; subst x; subst y; exact .bool _
              | i + 2, x, _ => by simp at x)
        · rename_i ht
          have ht : ¬ t' = t := fun e => by subst e; simp at ht
          split at h
          · rename_i z hz
            cases h
            have : (Instr.typeAssert (.iface t' v') xt t true).run P w = .ok (.tuple #[z, .bool false]) w := by
              cases d <;> first | exact absurd rfl (hd _) | simp [Instr.typeAssert, run_underlying hu, ht, run_zeroT hz]
            simp only [execOp, Sem.run_bind, hq, this, Result.andThen_ok, Sem.run_pure]
            refine .val ρ.le_refl (.tuple rfl fun i a b x y => match i, x, y with
              | 0, x, y => by simp at x y; subst x; subst y; exact plain_rel ρ (zeroT_plain hz)
              | 1, x, y => by simp at x y; subst x; subst y; exact .bool _
              | i + 2, x, _ => by simp at x) hR
          · exact absurd h (by simp)
    · rename_i d hne hu hx
      rw [hx] at h1
      have hq : e' x = .nilIface := (plain_eq h1 rfl).symm
      have hd : ∀ is, d ≠ .interface is := fun is e => hne is e
      split at h
      · rename_i z hz
        cases h
        have : (Instr.typeAssert .nilIface xt t true).run P w = .ok (.tuple #[z, .bool false]) w := by
          cases d <;> first | exact absurd rfl (hd _) | simp [Instr.typeAssert, run_underlying hu, run_zeroT hz]
        simp only [execOp, Sem.run_bind, hq, this, Result.andThen_ok, Sem.run_pure]
        refine .val ρ.le_refl (.tuple rfl fun i a b x y => match i, x, y with
          | 0, x, y => by simp at x y; subst x; subst y; exact plain_rel ρ (zeroT_plain hz)
          | 1, x, y => by simp at x y; subst x; subst y; exact .bool _
          | i + 2, x, _ => by simp at x) hR
      · exact absurd h (by simp)
    · exact absurd h (by simp)
  case panic x =>
    unfold panicA at h
    split at h
    · rename_i t v hx
      cases h
      have h1 := hev x (by simp)
      rw [hx] at h1
      generalize hq : e' x = q at h1
      cases h1 with
      | iface p =>
        simp only [execOp, Sem.run_bind, hq, Instr.panic, run_goPanic, Result.andThen_halt]
        exact .pan (.iface p) hR
    · exact absurd h (by simp)
  case defer c =>
    unfold deferA at h
    obtain ⟨callee, args, ats⟩ := c
    cases callee with
    | invoke a b => exact absurd h (by simp)
    | builtin b => exact absurd h (by simp)
    | value f =>
      simp only at h
      have h1 := hev f (by simp [Call.operands])
      have h2 := ARel.map (ρ := ρ) (xs := args) (ev := ev) (e' := e') fun x hx => hev x (by simp [Call.operands, hx])
      generalize hq : e' f = q at h1
      split at h
      · rename_i fid first captured hf
        rw [hf] at h1
        cases h1 with
        | @func _ _ b _ d p1 p2 p3 p4 =>
        cases h
        have : (execOp e' { dst := dst, op := .defer ⟨.value f, args, ats⟩, type := type, pos := pos, after := after, guard := guard }).run P w = .ok (.defer { target := .fn (.func fid) d, args := b ++ args.map e' }) w := by
          simp [execOp, resolve, hq, Deferred.ofValue]
        rw [this]
        exact .defer ⟨p3, p4⟩ (ARel.append ⟨p1, p2⟩ h2) hR
      · exact absurd h (by simp)
  case call c =>
    unfold callA at h
    obtain ⟨callee, args, ats⟩ := c
    cases callee with
    | invoke a b => exact absurd h (by simp)
    | value f =>
      simp only at h
      have h1 := hev f (by simp [Call.operands])
      have h2 := ARel.map (ρ := ρ) (xs := args) (ev := ev) (e' := e') fun x hx => hev x (by simp [Call.operands, hx])
      cases hfo : funcOf P (ev f) (args.map ev) with
      | some r0 =>
        rw [hfo] at h
        cases h
        unfold funcOf at hfo
        generalize hq : e' f = q at h1
        split at hfo
        · rename_i fid first captured hf
          rw [hf] at h1
          cases h1 with
          | @func _ _ b _ d p1 p2 p3 p4 =>
          split at hfo
          · rename_i fn hfn
            split at hfo
            · exact absurd hfo (by simp)
            · rename_i hc
              cases hfo
              simp only [Bool.or_eq_true, not_or, Bool.not_eq_true] at hc
              obtain ⟨hc1, hc2⟩ := hc
              have hc3 : ¬ fn.name = "runtime.NumGoroutine" := by simpa using hc1
              have hc4 : ¬ fn.body = none := by intro e; rw [e] at hc2; simp at hc2
              have : (execOp e' { dst := dst, op := .call ⟨.value f, args, ats⟩, type := type, pos := pos, after := after, guard := guard }).run P w = .ok (.enter fid ((b ++ args.map e') ++ d)) w := by
                simp [execOp, resolve, hq, Deferred.ofValue, invoke, callFunc, hfn, hc3, hc4]
              rw [this]
              exact .call (ARel.append (ARel.append ⟨p1, p2⟩ h2) ⟨p3, p4⟩) hR
          · exact absurd hfo (by simp)
        · exact absurd hfo (by simp)
      | none =>
        rw [hfo] at h
        simp only at h
        split at h
        · rename_i hp
          exact ok_pure hR (by simp) h (all_same hev hp)
        · unfold noEscA at h
          generalize hq : e' f = q at h1
          split at h
          · rename_i fid first captured v hf hargs
            rw [hf] at h1
            cases h1 with
            | @func _ _ b _ d p1 p2 p3 p4 =>
            split at h
            · rename_i fn hfn hfi hca
              split at h
              · rename_i hc
                cases h
                simp only [Bool.and_eq_true] at hc
                obtain ⟨⟨hc1, hc2⟩, hc3⟩ := hc
                have hb0 : b = #[] := by
                  have : first = #[] := by apply Array.ext'; simpa using hfi
                  rw [this] at p1
                  exact Array.eq_empty_of_size_eq_zero p1.symm
                have hd0 : d = #[] := by
                  have : captured = #[] := by apply Array.ext'; simpa using hca
                  rw [this] at p3
                  exact Array.eq_empty_of_size_eq_zero p3.symm
                subst hb0; subst hd0
                obtain ⟨v', hv', hvr⟩ : ∃ v', args.map e' = #[v'] ∧ VRel ρ v v' := by
                  have e1 : args.map ev = #[v] := by apply Array.ext'; simpa using hargs
                  rw [e1] at h2
                  generalize hm : args.map e' = m at h2
                  obtain ⟨l⟩ := m
                  have hsz := h2.1
                  match l, hsz, h2 with
                  | [v'], _, h2 => exact ⟨v', rfl, h2.2 0 v v' rfl rfl⟩
                have hext := run_noEscape (P := P) hfn hc1 hc2 hc3 v' w
                have : (execOp e' { dst := dst, op := .call ⟨.value f, args, ats⟩, type := type, pos := pos, after := after, guard := guard }).run P w = .ok (.value v') w := by
                  rw [← hext]
                  simp [execOp, resolve, hq, Deferred.ofValue, invoke, hv']
                rw [this]
                exact .val ρ.le_refl hvr hR
              · exact absurd h (by simp)
            · exact absurd h (by simp)
          · exact absurd h (by simp)
    | builtin b =>
      have h2 := ARel.map (ρ := ρ) (xs := args) (ev := ev) (e' := e') fun x hx => hev x (by simp [Call.operands, hx])
      have run : (execOp e' { dst := dst, op := .call ⟨.builtin b, args, ats⟩, type := type, pos := pos, after := after, guard := guard }).run P w =
          (builtin b ats type (args.map fun | .const _ => true | _ => false) (args.map e')).run P w := rfl
      simp only at h
      unfold builtinR at h
      split at h
      · cases h
        rw [run]
        exact .recover hR
      · split at h
        · rename_i hp
          exact ok_pure hR (by simp) h (all_same hev hp)
        · exact absurd h (by simp)
      · split at h
        · rename_i hp
          exact ok_pure hR (by simp) h (all_same hev hp)
        · exact absurd h (by simp)
      · rw [run]
        split at h
        · rename_i t x hs ha
          obtain ⟨x', hx', hxr⟩ := h2.get ha
          split at h
          · rename_i v hl
            cases h
            obtain ⟨hrun, hv⟩ := ok_len (P := P) (ty := type) hR hs hl hxr _ hx'
            simp only [builtin, Sem.run_bind, hrun, Result.andThen_ok, Sem.run_pure]
            exact .val ρ.le_refl hv hR
          · cases hl : lookLen t x X.len with
            | none => rw [hl] at h; simp at h
            | some v =>
              rw [hl] at h
              simp only [Option.map_some, Option.some.injEq] at h
              subst h
              obtain ⟨r', hrun, hrel⟩ := hX.len _ _ _ (lookLen_mem hl) ρ hR.says ats type _ _ w hs hx' hxr
              simp only [builtin, Sem.run_bind, hrun, Result.andThen_ok, Sem.run_pure]
              exact .val ρ.le_refl hrel hR
        · exact absurd h (by simp)
      · rw [run]
        unfold builtinA at h
        split at h
        · split at h
          · rename_i sT s x hs ha hb
            obtain ⟨s', hs', hsr⟩ := h2.get ha
            obtain ⟨x', hx', hxr⟩ := h2.get hb
            obtain ⟨v', w', ρ', hrun, hle, hr⟩ := ok_append (P := P) (ty := type) hR hs h hsr hxr _ hs' hx'
            simp only [builtin, Sem.run_bind, hrun, Result.andThen_ok, Sem.run_pure]
            rcases hr with ⟨v, rfl, hv, hR'⟩ | ⟨v, σ', rfl, hv, hR'⟩
            · exact .val hle hv hR'
            · exact .eff hle hv hR'
          · exact absurd h (by simp)
        · split at h
          · rename_i t x hs ha
            obtain ⟨x', hx', hxr⟩ := h2.get ha
            cases hl : capA P t x with
            | none => rw [hl] at h; simp [valOf, skipOf] at h
            | some v =>
              rw [hl] at h
              simp only [Option.map_some, Option.some.injEq] at h
              subst h
              obtain ⟨hrun, hv⟩ := ok_cap (P := P) (w := w) (ty := type) hs hl hxr _ hx'
              simp only [builtin, Sem.run_bind, hrun, Result.andThen_ok, Sem.run_pure]
              exact .val ρ.le_refl hv hR
          · exact absurd h (by simp)
        · split at h
          · rename_i t m k hs ha hb
            obtain ⟨m', hm', hmr⟩ := h2.get ha
            obtain ⟨k', hk', hkr⟩ := h2.get hb
            cases hl : deleteA P σ t m k with
            | none => rw [hl] at h; simp [valOf, skipOf] at h
            | some q =>
              rw [hl] at h
              simp only [Option.map_some, Option.some.injEq] at h
              obtain ⟨w', hrun, hR'⟩ := ok_delete (P := P) (ty := type) hR hs hl hmr hkr _ hm' hk'
              simp only [builtin, Sem.run_bind, hrun, Result.andThen_ok, Sem.run_pure]
              cases q with
              | none => simp only at h; subst h; exact .val ρ.le_refl (plain_rel ρ rfl) hR'
              | some σ' => simp only at h; subst h; exact .eff ρ.le_refl (plain_rel ρ rfl) hR'
          · exact absurd h (by simp)
        · exact absurd h (by simp)
  all_goals exact absurd h (by simp)


end
end Am
end Go

/- The abstract machine's runs and the model's: slots, control. -/
set_option linter.unusedVariables false
set_option linter.unusedSimpArgs false
namespace Go
namespace Am

theorem Tm.put_same (d : Nat) (v : Value) (t : Tm) : (Tm.put d v t).get d = v := by simp [Tm.get]
theorem Tm.put_other {d i : Nat} (v : Value) (t : Tm) (h : d ≠ i) : (Tm.put d v t).get i = t.get i := by
  simp only [Tm.get]
  split
  · rename_i e; exact absurd (beq_t e).symm h
  · rfl

structure TRel (ρ : Rho) (nt : Nat) (t : Tm) (tmps : Array Value) : Prop where
  size : tmps.size = nt
  at_ : ∀ i, i < nt → VRel ρ (t.get i) (tmps.getD i undef)

theorem TRel.mono {ρ ρ' : Rho} (hle : ρ.le ρ') {nt : Nat} {t : Tm} {m : Array Value} (h : TRel ρ nt t m) : TRel ρ' nt t m :=
  ⟨h.size, fun i hi => (h.at_ i hi).mono hle⟩

theorem undef_rel (ρ : Rho) : VRel ρ undef undef := plain_rel ρ rfl

theorem ev_rel {ρ : Rho} {nt : Nat} {t : Tm} {a : Act} (h : TRel ρ nt t a.tmps) {x : Operand} (hx : okOperand nt x = true) : VRel ρ (ev t x) (a.eval x) := by
  cases x with
  | tmp i => exact h.at_ i (blt_t hx)
  | const v => exact plain_rel ρ hx
  | global g => simp [okOperand] at hx
  | func f => exact .func rfl (fun i v v' x => by simp at x) rfl (fun i v v' x => by simp at x)

theorem ev_rels {ρ : Rho} {nt : Nat} {t : Tm} {a : Act} (h : TRel ρ nt t a.tmps) {o : Oper} (ho : okOp nt o = true) : ∀ x ∈ o.op.operands, VRel ρ (ev t x) (a.eval x) := by
  intro x hx
  simp only [okOp, Bool.and_eq_true, List.all_eq_true] at ho
  exact ev_rel h (ho.1 x (by rw [Array.mem_toList_iff]; exact hx))

theorem put_size (a : Act) (d : Option Tmp) (v : Value) : (a.put d v).tmps.size = a.tmps.size := by cases d <;> simp [Act.put]
theorem put_defers (a : Act) (d : Option Tmp) (v : Value) : (a.put d v).defers = a.defers := by cases d <;> rfl

theorem put_rel {ρ : Rho} {nt : Nat} {t : Tm} {a : Act} (h : TRel ρ nt t a.tmps) {d : Option Tmp} (hd : (match d with | some d => Nat.blt d nt | none => true) = true) {v v' : Value} (hv : VRel ρ v v') :
    TRel ρ nt (putT t d v) (a.put d v').tmps := by
  cases d with
  | none => exact h
  | some d =>
    have hd : d < nt := blt_t hd
    refine ⟨by rw [put_size]; exact h.size, fun i hi => ?_⟩
    by_cases e : d = i
    · subst e
      have : d < a.tmps.size := by rw [h.size]; exact hd
      simp only [putT, Tm.put_same, Act.put]
      rw [Array.getD_eq_getD_getElem?, Array.getElem?_setIfInBounds_self_of_lt this]
      exact hv
    · simp only [putT, Act.put]
      rw [Tm.put_other _ _ e, Array.getD_eq_getD_getElem?, Array.getElem?_setIfInBounds_ne e, ← Array.getD_eq_getD_getElem?]
      exact h.at_ i hi

theorem okOp_dst {nt : Nat} {o : Oper} (h : okOp nt o = true) : (match o.dst with | some d => Nat.blt d nt | none => true) = true := by
  simp only [okOp, Bool.and_eq_true] at h
  exact h.2

theorem wanted_eq {ρ : Rho} {nt : Nat} {t : Tm} {a : Act} (h : TRel ρ nt t a.tmps) {ops : Array Oper} (hops : ops.toList.all (okOp nt) = true) {o : Oper} {b : Bool} (hw : wantedA ops t o = some b) :
    Region.wanted o (yielded ops a.tmps) = b := by
  unfold wantedA at hw
  unfold Region.wanted
  split at hw
  · rename_i hg
    rw [hg]
    simpa using hw
  · rename_i j want hg
    rw [hg]
    simp only
    unfold yielded
    split at hw
    · rename_i hd
      rw [hd]
      simp only [Option.bind_none]
      simpa using hw
    · rename_i d hd
      rw [hd]
      simp only [Option.bind_some]
      have hdn : d < nt := by
        cases hj : ops[j]? with
        | none => rw [hj] at hd; simp at hd
        | some p =>
          rw [hj] at hd
          simp only [Option.bind_some] at hd
          have ho : okOp nt p = true := by
            rw [List.all_eq_true] at hops
            exact hops p (by rw [Array.mem_toList_iff]; exact Array.mem_of_getElem? hj)
          have := okOp_dst ho
          rw [hd] at this
          exact blt_t this
      have hlt : d < a.tmps.size := by rw [h.size]; exact hdn
      have hrel := h.at_ d hdn
      rw [Array.getElem?_eq_getElem hlt]
      rw [Array.getD_eq_getD_getElem?, Array.getElem?_eq_getElem hlt, Option.getD_some] at hrel
      generalize t.get d = v at hrel hw
      generalize a.tmps[d] = v' at hrel
      cases hrel <;> simp only [Option.some.injEq, reduceCtorEq] at hw <;> first
        | exact hw
        | (rw [← hw]; rfl)

/- panics, modes, frames -/
def ChRel (ρ : Rho) (a b : List PanicEntry) : Prop := a.length = b.length ∧ ∀ (i : Nat) (x y : PanicEntry), a[i]? = some x → b[i]? = some y → VRel ρ x.v y.v ∧ x.recovered = y.recovered ∧ x.goexit = y.goexit

theorem ChRel.mono {ρ ρ' : Rho} (hle : ρ.le ρ') {a b : List PanicEntry} (h : ChRel ρ a b) : ChRel ρ' a b :=
  ⟨h.1, fun i x y p q => let ⟨u, v⟩ := h.2 i x y p q; ⟨u.mono hle, v⟩⟩

def MoRel (ρ : Rho) : FrameMode → FrameMode → Prop
  | .run, .run => True
  | .returning, .returning => True
  | .panicking a, .panicking b => ChRel ρ a b
  | _, _ => False

theorem MoRel.mono {ρ ρ' : Rho} (hle : ρ.le ρ') {a b : FrameMode} (h : MoRel ρ a b) : MoRel ρ' a b := by
  cases a <;> cases b <;> first | exact h | exact ChRel.mono hle h

def XRel (ρ : Rho) : AExit → Exit → Prop
  | .normal, .normal => True
  | .exit i, .exit j => i = j
  | .ret, .ret => True
  | .panic a, .panic b => ChRel ρ a b
  | _, _ => False

def ERel (ρ : Rho) : AEnd → Ending → Prop
  | .returned v, .returned v' => VRel ρ v v'
  | .panicked a, .panicked b => ChRel ρ a b
  | _, _ => False

def DRel (ρ : Rho) (d d' : Deferred) : Prop := ∃ f c c' x x', d = { target := .fn (.func f) c, args := x } ∧ d' = { target := .fn (.func f) c', args := x' } ∧ ARel ρ c c' ∧ ARel ρ x x'

def DsRel (ρ : Rho) : List Deferred → List Deferred → Prop
  | [], [] => True
  | d :: l, d' :: l' => DRel ρ d d' ∧ DsRel ρ l l'
  | _, _ => False

theorem DsRel.mono {ρ ρ' : Rho} (hle : ρ.le ρ') : ∀ {a b : List Deferred}, DsRel ρ a b → DsRel ρ' a b
  | [], [], _ => trivial
  | _ :: _, _ :: _, h => ⟨let ⟨f, c, c', x, x', e1, e2, h1, h2⟩ := h.1; ⟨f, c, c', x, x', e1, e2, h1.mono hle, h2.mono hle⟩, DsRel.mono hle h.2⟩
  | [], _ :: _, h => h.elim
  | _ :: _, [], h => h.elim

def CsRel (ρ : Rho) : Bool → FrameMode → List Frame → List Frame → Prop
  | false, _, cs0, cs => cs = cs0
  | true, m, cs0, cs => ∃ c0 rest u, cs0 = c0 :: rest ∧ cs = { c0 with mode := u } :: rest ∧ MoRel ρ m u

theorem CsRel.mono {ρ ρ' : Rho} (hle : ρ.le ρ') {d : Bool} {m : FrameMode} {a b : List Frame} (h : CsRel ρ d m a b) : CsRel ρ' d m a b := by
  cases d with
  | false => exact h
  | true => obtain ⟨c0, r, u, e1, e2, e3⟩ := h; exact ⟨c0, r, u, e1, e2, e3.mono hle⟩

def kindOf : Bool → CallKind
  | false => .normal
  | true => .deferred

def W (P : Program) (d : Bool) (c : Code) (Q : Exit → Act → List Frame → World → Prop) (a : Act) (cs : List Frame) (w : World) : Prop :=
  ∀ (b : Frame) (k : List Item), b.kind = kindOf d → b.roundOf = none →
    ∃ e a' cs' w', Q e a' cs' w' ∧ Arrives P (lone (b.at a (.code c :: k)) cs w) b k cs' e a' w'

section
variable {P : Program} {d : Bool} {Q : Exit → Act → List Frame → World → Prop} {a : Act} {cs : List Frame} {w : World}

theorem W.of_wp {c : Code} (h : c.wp P (fun e a' w' => Q e a' cs w') a w) : W P d c Q a cs w :=
  fun b k _ _ => let ⟨e, a', w', q, r⟩ := h b k cs; ⟨e, a', cs, w', q, r⟩

theorem W.of_wpS {c : Code} (h : c.wpS P Q a cs w) : W P true c Q a cs w := fun b k hb hr => h b k hb hr

theorem W.mono {c : Code} {Q' : Exit → Act → List Frame → World → Prop} (h : W P d c Q a cs w) (hq : ∀ e a cs w, Q e a cs w → Q' e a cs w) : W P d c Q' a cs w :=
  fun b k hb hr => let ⟨e, a', cs', w', q, r⟩ := h b k hb hr; ⟨e, a', cs', w', hq _ _ _ _ q, r⟩

theorem W.seq {x y : Code} (h : W P d x (Exit.thenS (fun a cs w => W P d y Q a cs w) Q) a cs w) : W P d (.seq x y) Q a cs w := by
  intro b k hb hr
  obtain ⟨e, a₁, cs₁, w₁, hq, harr⟩ := h b (.code y :: k) hb hr
  cases e with
  | normal =>
    obtain ⟨e₂, a₂, cs₂, w₂, hq₂, harr₂⟩ := hq b k hb hr
    exact ⟨e₂, a₂, cs₂, w₂, hq₂, .of_steps (.head step_seq harr) harr₂⟩
  | exit id => exact ⟨_, a₁, cs₁, w₁, hq, .of_steps (.one step_seq) (.pass (x := .code y) rfl (fun _ _ => .inl (by simp)) harr)⟩
  | goto l => exact ⟨_, a₁, cs₁, w₁, hq, .of_steps (.one step_seq) (.pass (x := .code y) rfl (fun _ _ => .inl (by simp)) harr)⟩
  | ret => exact ⟨_, a₁, cs₁, w₁, hq, .of_steps (.one step_seq) (.pass (x := .code y) rfl (fun _ _ => .inl (by simp)) harr)⟩
  | panic ch => exact ⟨_, a₁, cs₁, w₁, hq, .of_steps (.one step_seq) (.pass (x := .code y) rfl (fun _ _ => .inl (by simp)) harr)⟩
  | outgrown => exact ⟨_, a₁, cs₁, w₁, hq, .of_steps (.one step_seq) (.pass (x := .code y) rfl (fun _ _ => .inl (by simp)) harr)⟩

theorem W.cond {c : Operand} {x y : Code} {t : Bool} (hc : a.eval c = .bool t) (h : W P d (if t then x else y) Q a cs w) : W P d (.cond c x y) Q a cs w :=
  fun b k hb hr => let ⟨e, a', cs', w', q, r⟩ := h b k hb hr; ⟨e, a', cs', w', q, .of_steps (.one (step_cond hc)) r⟩

def inBlockS (id : Nat) (Q : Exit → Act → List Frame → World → Prop) : Exit → Act → List Frame → World → Prop
  | .exit id', a, cs, w => if id' = id then Q .normal a cs w else Q (.exit id') a cs w
  | e, a, cs, w => Q e a cs w

theorem W.block {id : Nat} {c : Code} (h : W P d c (inBlockS id Q) a cs w) : W P d (.block id c) Q a cs w := by
  intro b k hb hr
  obtain ⟨e, a₁, cs₁, w₁, hq, harr⟩ := h b (.inBlock id :: k) hb hr
  cases e with
  | normal => exact ⟨.normal, a₁, cs₁, w₁, hq, .head step_block (Steps.trans harr (.one step_inBlock))⟩
  | exit id' =>
    by_cases hid : id' = id
    · simp only [inBlockS, hid, if_true] at hq
      exact ⟨.normal, a₁, cs₁, w₁, hq, .head step_block (harr k (by simp [exitTo, hid]))⟩
    · simp only [inBlockS, hid, if_false] at hq
      refine ⟨.exit id', a₁, cs₁, w₁, hq, fun k' hk => .head step_block (harr k' ?_)⟩
      have : (id == id') = false := by simp; exact fun h => hid h.symm
      simp [exitTo, this, hk]
  | goto l => exact ⟨_, a₁, cs₁, w₁, hq, fun k' hk => .head step_block (harr k' (by simp [gotoIn, hk]))⟩
  | ret => exact ⟨_, a₁, cs₁, w₁, hq, .of_steps (.one step_block) harr⟩
  | panic ch => exact ⟨_, a₁, cs₁, w₁, hq, .of_steps (.one step_block) harr⟩
  | outgrown => exact ⟨_, a₁, cs₁, w₁, hq, .of_steps (b := b) (k := k) (cs := cs₁) (e := .outgrown) (.one step_block) harr⟩

/-- the loop's body, then the loop again -/
def WLoop (P : Program) (d : Bool) (c : Code) (Q : Exit → Act → List Frame → World → Prop) (a : Act) (cs : List Frame) (w : World) : Prop :=
  ∀ (b : Frame) (k : List Item), b.kind = kindOf d → b.roundOf = none →
    ∃ e a' cs' w', Q e a' cs' w' ∧ Arrives P (lone (b.at a (.code c :: .inLoop c :: k)) cs w) b k cs' e a' w'

theorem WLoop.round {c : Code} (h : W P d c (Exit.thenS (fun a cs w => WLoop P d c Q a cs w) Q) a cs w) : WLoop P d c Q a cs w := by
  intro b k hb hr
  obtain ⟨e, a₁, cs₁, w₁, hq, harr⟩ := h b (.inLoop c :: k) hb hr
  cases e with
  | normal =>
    obtain ⟨e₂, a₂, cs₂, w₂, hq₂, harr₂⟩ := hq b k hb hr
    exact ⟨e₂, a₂, cs₂, w₂, hq₂, .of_steps (Steps.trans harr (.one step_inLoop)) harr₂⟩
  | exit id => exact ⟨_, a₁, cs₁, w₁, hq, .pass (x := .inLoop c) rfl (fun _ _ => .inl (by simp)) harr⟩
  | goto l => exact ⟨_, a₁, cs₁, w₁, hq, .pass (x := .inLoop c) rfl (fun _ _ => .inl (by simp)) harr⟩
  | ret => exact ⟨_, a₁, cs₁, w₁, hq, .pass (x := .inLoop c) rfl (fun _ _ => .inl (by simp)) harr⟩
  | panic ch => exact ⟨_, a₁, cs₁, w₁, hq, .pass (x := .inLoop c) rfl (fun _ _ => .inl (by simp)) harr⟩
  | outgrown => exact ⟨_, a₁, cs₁, w₁, hq, .pass (x := .inLoop c) rfl (fun _ _ => .inl (by simp)) harr⟩

theorem W.loop {c : Code} (h : WLoop P d c Q a cs w) : W P d (.loop c) Q a cs w :=
  fun b k hb hr => let ⟨e, a', cs', w', q, r⟩ := h b k hb hr; ⟨e, a', cs', w', q, .of_steps (.one step_loop) r⟩

end
end Am
end Go

/- The abstract machine's runs and the model's: a region in the order of the text. -/
set_option linter.unusedVariables false
set_option linter.unusedSimpArgs false
namespace Go
namespace Am
section
variable {P : Program} {w0 : World} {S : Own} [NoEx P S]

/-- the calls that the machine makes are the model's -/
def CallsOk (P : Program) (w0 : World) (S : Own) (call : FuncId → Array Value → AW → Res (AEnd × AW)) : Prop :=
  ∀ f args σ e σ', call f args σ = .ok (e, σ') → ∀ ρ w args', ARel ρ args args' → R w0 S σ ρ w →
    Calls P f args' w fun e' w' => ∃ ρ', ρ.le ρ' ∧ ERel ρ' e e' ∧ R w0 S σ' ρ' w'

/-- what holds behind a piece of code -/
def Post (w0 : World) (S : Own) (d : Bool) (nt : Nat) (cs0 : List Frame) (ρ : Rho) (x : AExit) (s : St) : Exit → Act → List Frame → World → Prop :=
  fun e a cs w => ∃ ρ', ρ.le ρ' ∧ XRel ρ' x e ∧ TRel ρ' nt s.tmps a.tmps ∧ DsRel ρ' s.defers a.defers ∧ CsRel ρ' d s.mode cs0 cs ∧ R w0 S s.σ ρ' w

structure SRel (w0 : World) (S : Own) (d : Bool) (nt : Nat) (cs0 : List Frame) (ρ : Rho) (s : St) (a : Act) (cs : List Frame) (w : World) : Prop where
  t : TRel ρ nt s.tmps a.tmps
  ds : DsRel ρ s.defers a.defers
  cs : CsRel ρ d s.mode cs0 cs
  r : R w0 S s.σ ρ w

theorem Post.le {d : Bool} {nt : Nat} {cs0 : List Frame} {ρ ρ' : Rho} (h : ρ.le ρ') {x : AExit} {s : St} {e : Exit} {a : Act} {cs : List Frame} {w : World} (p : Post w0 S d nt cs0 ρ' x s e a cs w) :
    Post w0 S d nt cs0 ρ x s e a cs w := let ⟨q, a1, a2⟩ := p; ⟨q, Rho.le_trans h a1, a2⟩

theorem SRel.post {d : Bool} {nt : Nat} {cs0 : List Frame} {ρ : Rho} {s : St} {a : Act} {cs : List Frame} {w : World} (h : SRel w0 S d nt cs0 ρ s a cs w) {x : AExit} {e : Exit} (hx : XRel ρ x e) :
    Post w0 S d nt cs0 ρ x s e a cs w := ⟨ρ, ρ.le_refl, hx, h.t, h.ds, h.cs, h.r⟩

theorem drop_cons {α : Type} {l : List α} {i : Nat} {x : α} {rest : List α} (h : l.drop i = x :: rest) : l[i]? = some x ∧ l.drop (i + 1) = rest := by
  constructor
  · rw [← List.head?_drop, h]; rfl
  · rw [← List.tail_drop, h]; rfl

theorem chain_one {ρ : Rho} {v v' : Value} (h : VRel ρ v v') : ChRel ρ [{ v, recovered := false }] [{ v := v', recovered := false }] :=
  ⟨rfl, fun i x y p q => by
    cases i with
    | zero => simp at p q; subst p; subst q; exact ⟨h, rfl, rfl⟩
    | succ i => simp at p⟩

theorem upon_mono {o : Oper} {a : Act} {K K' : Act → World → Prop} {Q Q' : Exit → Act → World → Prop} (hk : ∀ a w, K a w → K' a w) (hq : ∀ e a w, Q e a w → Q' e a w) {r : Result Next}
    (h : o.upon P a K Q r) : o.upon P a K' Q' r := by
  have hl : LetsOut Q → LetsOut Q' := fun ⟨a, w, x⟩ => ⟨a, w, hq _ _ _ x⟩
  cases r with
  | ok n w' =>
    cases n <;> simp only [Oper.upon] at h ⊢ <;>
      first
        | exact hk _ _ h
        | exact Calls.mono h (fun e w'' he => by cases e <;> first | exact hk _ _ he | exact hq _ _ _ he | exact hl he)
        | exact Rows.mono h (fun _ _ he => hk _ _ he)
  | halt x w' => cases x <;> simp only [Oper.upon] at h ⊢ <;> exact hq _ _ _ h

theorem wpOps_mono_q {ops : Array Oper} {Q Q' : Exit → Act → World → Prop} (hq : ∀ e a w, Q e a w → Q' e a w) : ∀ {l : List Nat} {a : Act} {w : World}, wpOps P ops Q l a w → wpOps P ops Q' l a w := by
  intro l
  induction l with
  | nil => intro a w h; exact hq _ _ _ h
  | cons i rest ih =>
    intro a w h
    simp only [wpOps] at h ⊢
    split
    · rename_i ho
      rw [ho] at h
      exact ih h
    · rename_i o ho
      rw [ho] at h
      simp only at h
      split
      · rename_i hw
        rw [if_pos hw] at h
        rcases h with h | ⟨h1, a1, w1, h2⟩
        · exact .inl (upon_mono (fun a w x => ih x) hq h)
        · exact .inr ⟨h1, a1, w1, hq _ _ _ h2⟩
      · rename_i hw
        rw [if_neg hw] at h
        exact ih h

theorem wpOpsS_mono_q {ops : Array Oper} {Q Q' : Exit → Act → List Frame → World → Prop} (hq : ∀ e a cs w, Q e a cs w → Q' e a cs w) : ∀ {l : List Nat} {a : Act} {cs : List Frame} {w : World}, wpOpsS P ops Q l a cs w → wpOpsS P ops Q' l a cs w := by
  intro l
  induction l with
  | nil => intro a cs w h; exact hq _ _ _ _ h
  | cons i rest ih =>
    intro a cs w h
    simp only [wpOpsS] at h ⊢
    split
    · rename_i ho
      rw [ho] at h
      exact ih h
    · rename_i o ho
      rw [ho] at h
      simp only at h
      split
      · rename_i hw
        rw [if_pos hw] at h
        generalize (execOp a.eval o).run P w = r at h ⊢
        split
        · simp only at h
          split
          · rename_i hr; rw [hr] at h; exact ih h
          · rename_i hr; rw [hr] at h; exact ih h
        · rename_i r hne
          split at h
          · exact absurd rfl (hne _)
          · exact upon_mono (fun a w x => ih x) (fun e a w x => hq _ _ _ _ x) h
      · rename_i hw
        rw [if_neg hw] at h
        exact ih h

theorem ops_sound {call : FuncId → Array Value → AW → Res (AEnd × AW)} (hc : CallsOk P w0 S call) {X : Facts} (hX : FactsOk P X S) {nt : Nat} {cs0 : List Frame} {ops : Array Oper} (hops : ops.toList.all (okOp nt) = true) :
    ∀ (l : List Oper) (i k : Nat), ops.toList.drop i = l → k = l.length → ∀ (s s' : St) (x : AExit), runOps P X false call ops l s.tmps s.defers s.mode s.σ = .ok (x, s') → ∀ (ρ : Rho) (a : Act) (cs : List Frame) (w : World), SRel w0 S false nt cs0 ρ s a cs w →
      wpOps P ops (fun e a' w' => Post w0 S false nt cs0 ρ x s' e a' cs w') (List.range' i k) a w := by
  intro l
  induction l with
  | nil =>
    intro i k _ hk s s' x h ρ a cs w hs
    subst hk
    simp only [runOps, Res.ok.injEq, Prod.mk.injEq] at h
    obtain ⟨rfl, rfl⟩ := h
    exact hs.post trivial
  | cons o rest ih =>
    intro i k hl hk s s' x h ρ a cs w hs
    obtain ⟨ho, hrest⟩ := drop_cons hl
    rw [Array.getElem?_toList] at ho
    subst hk
    have hok : okOp nt o = true := by
      rw [List.all_eq_true] at hops
      exact hops o (by rw [Array.mem_toList_iff]; exact Array.mem_of_getElem? ho)
    have hdst := okOp_dst hok
    show wpOps P ops _ (List.range' i (rest.length + 1)) a w
    rw [List.range'_succ]
    simp only [wpOps, ho]
    unfold runOps at h
    split at h
    · exact absurd h (by simp)
    · rename_i hw0
      have hw := wanted_eq hs.t hops hw0
      rw [if_pos hw]
      refine .inl ?_
      unfold Oper.wp
      cases hop : aop P X (ev s.tmps) o s.σ with
      | none => rw [hop] at h; simp at h
      | some r =>
        rw [hop] at h
        have hout := aop_sound hs.r hX hop (e' := a.eval) (ev_rels hs.t hok)
        generalize (execOp a.eval o).run P w = res at hout
        cases hout with
        | val hle hv hR =>
          simp only at h
          have := ih (i + 1) _ hrest rfl ⟨_, _, _, _⟩ _ _ h _ (a.put o.dst _) cs _ ⟨put_rel (hs.t.mono hle) hdst hv, by rw [put_defers]; exact hs.ds.mono hle, hs.cs.mono hle, hR⟩
          exact wpOps_mono_q (fun e a' w' p => Post.le hle p) this
        | eff hle hv hR =>
          simp only at h
          have := ih (i + 1) _ hrest rfl ⟨_, _, _, _⟩ _ _ h _ (a.put o.dst _) cs _ ⟨put_rel (hs.t.mono hle) hdst hv, by rw [put_defers]; exact hs.ds.mono hle, hs.cs.mono hle, hR⟩
          exact wpOps_mono_q (fun e a' w' p => Post.le hle p) this
        | skip hle hR =>
          simp only at h
          have := ih (i + 1) _ hrest rfl ⟨_, _, _, _⟩ _ _ h _ (a.put o.dst _) cs _ ⟨put_rel (hs.t.mono hle) hdst (undef_rel _), by rw [put_defers]; exact hs.ds.mono hle, hs.cs.mono hle, hR⟩
          exact wpOps_mono_q (fun e a' w' p => Post.le hle p) this
        | pan hv hR =>
          simp only [Res.ok.injEq, Prod.mk.injEq] at h
          obtain ⟨rfl, rfl⟩ := h
          exact SRel.post ⟨hs.t, hs.ds, hs.cs, hR⟩ (chain_one hv)
        | defer hc1 hx hR =>
          simp only at h
          have := ih (i + 1) _ hrest rfl ⟨_, _, _, _⟩ _ _ h _ (({ a with defers := _ :: a.defers } : Act).put o.dst undef) cs _ ⟨put_rel (a := { a with defers := _ :: a.defers }) hs.t hdst (undef_rel _), by rw [put_defers]; exact ⟨⟨_, _, _, _, _, rfl, rfl, hc1, hx⟩, hs.ds⟩, hs.cs, hR⟩
          exact this
        | recover hR => simp at h
        | call ha hR =>
          simp only at h
          split at h
          · rename_i v σ' hcall
            refine Calls.mono (hc _ _ _ _ _ hcall _ _ _ ha hR) ?_
            rintro e w' ⟨ρ', hle, he, hR'⟩
            cases e with
            | returned v' =>
              have := ih (i + 1) _ hrest rfl ⟨_, _, _, _⟩ _ _ h _ (a.put o.dst v') cs _ ⟨put_rel (hs.t.mono hle) hdst he, by rw [put_defers]; exact hs.ds.mono hle, hs.cs.mono hle, hR'⟩
              exact wpOps_mono_q (fun e a' w' p => Post.le hle p) this
            | panicked ch => exact he.elim
            | outgrown => exact he.elim
          · rename_i ch σ' hcall
            simp only [Res.ok.injEq, Prod.mk.injEq] at h
            obtain ⟨rfl, rfl⟩ := h
            refine Calls.mono (hc _ _ _ _ _ hcall _ _ _ ha hR) ?_
            rintro e w' ⟨ρ', hle, he, hR'⟩
            cases e with
            | returned v' => exact he.elim
            | panicked ch => exact Post.le hle (SRel.post (s := { s with σ := σ' }) (x := .panic _) (e := .panic _) ⟨hs.t.mono hle, hs.ds.mono hle, hs.cs.mono hle, hR'⟩ he)
            | outgrown => exact he.elim
          · exact absurd h (by simp)
    · rename_i hw0
      have hw := wanted_eq hs.t hops hw0
      rw [if_neg (by rw [hw]; simp)]
      exact ih (i + 1) _ hrest rfl ⟨_, _, _, _⟩ _ _ h _ (a.put o.dst _) cs _ ⟨put_rel hs.t hdst (undef_rel _), by rw [put_defers]; exact hs.ds, hs.cs, hs.r⟩

theorem opsS_sound {call : FuncId → Array Value → AW → Res (AEnd × AW)} (hc : CallsOk P w0 S call) {X : Facts} (hX : FactsOk P X S) {nt : Nat} {cs0 : List Frame} {ops : Array Oper} (hops : ops.toList.all (okOp nt) = true) :
    ∀ (l : List Oper) (i k : Nat), ops.toList.drop i = l → k = l.length → ∀ (s s' : St) (x : AExit), runOps P X true call ops l s.tmps s.defers s.mode s.σ = .ok (x, s') → ∀ (ρ : Rho) (a : Act) (cs : List Frame) (w : World), SRel w0 S true nt cs0 ρ s a cs w →
      wpOpsS P ops (Post w0 S true nt cs0 ρ x s') (List.range' i k) a cs w := by
  intro l
  induction l with
  | nil =>
    intro i k _ hk s s' x h ρ a cs w hs
    subst hk
    simp only [runOps, Res.ok.injEq, Prod.mk.injEq] at h
    obtain ⟨rfl, rfl⟩ := h
    exact hs.post trivial
  | cons o rest ih =>
    intro i k hl hk s s' x h ρ a cs w hs
    obtain ⟨ho, hrest⟩ := drop_cons hl
    rw [Array.getElem?_toList] at ho
    subst hk
    have hok : okOp nt o = true := by
      rw [List.all_eq_true] at hops
      exact hops o (by rw [Array.mem_toList_iff]; exact Array.mem_of_getElem? ho)
    have hdst := okOp_dst hok
    show wpOpsS P ops _ (List.range' i (rest.length + 1)) a cs w
    rw [List.range'_succ]
    simp only [wpOpsS, ho]
    unfold runOps at h
    split at h
    · exact absurd h (by simp)
    · rename_i hw0
      have hw := wanted_eq hs.t hops hw0
      rw [if_pos hw]
      cases hop : aop P X (ev s.tmps) o s.σ with
      | none => rw [hop] at h; simp at h
      | some r =>
        rw [hop] at h
        have hout := aop_sound hs.r hX hop (e' := a.eval) (ev_rels hs.t hok)
        generalize (execOp a.eval o).run P w = res at hout
        cases hout with
        | val hle hv hR =>
          simp only at h
          have := ih (i + 1) _ hrest rfl ⟨_, _, _, _⟩ _ _ h _ (a.put o.dst _) cs _ ⟨put_rel (hs.t.mono hle) hdst hv, by rw [put_defers]; exact hs.ds.mono hle, hs.cs.mono hle, hR⟩
          exact wpOpsS_mono_q (fun e a' cs' w' p => Post.le hle p) this
        | eff hle hv hR =>
          simp only at h
          have := ih (i + 1) _ hrest rfl ⟨_, _, _, _⟩ _ _ h _ (a.put o.dst _) cs _ ⟨put_rel (hs.t.mono hle) hdst hv, by rw [put_defers]; exact hs.ds.mono hle, hs.cs.mono hle, hR⟩
          exact wpOpsS_mono_q (fun e a' cs' w' p => Post.le hle p) this
        | skip hle hR =>
          simp only at h
          have := ih (i + 1) _ hrest rfl ⟨_, _, _, _⟩ _ _ h _ (a.put o.dst _) cs _ ⟨put_rel (hs.t.mono hle) hdst (undef_rel _), by rw [put_defers]; exact hs.ds.mono hle, hs.cs.mono hle, hR⟩
          exact wpOpsS_mono_q (fun e a' cs' w' p => Post.le hle p) this
        | pan hv hR =>
          simp only [Res.ok.injEq, Prod.mk.injEq] at h
          obtain ⟨rfl, rfl⟩ := h
          exact SRel.post ⟨hs.t, hs.ds, hs.cs, hR⟩ (chain_one hv)
        | defer hc1 hx hR =>
          simp only at h
          have := ih (i + 1) _ hrest rfl ⟨_, _, _, _⟩ _ _ h _ (({ a with defers := _ :: a.defers } : Act).put o.dst undef) cs _ ⟨put_rel (a := { a with defers := _ :: a.defers }) hs.t hdst (undef_rel _), by rw [put_defers]; exact ⟨⟨_, _, _, _, _, rfl, rfl, hc1, hx⟩, hs.ds⟩, hs.cs, hR⟩
          exact this
        | recover hR =>
          simp only at h
          obtain ⟨c0, rcs, u, e1, e2, e3⟩ := hs.cs
          subst e1; subst e2
          simp only
          split at h
          · rename_i v m hm
            have hu : ∃ v' u', recoverD ({ c0 with mode := u } :: rcs) = some (v', { c0 with mode := u' } :: rcs) ∧ VRel ρ v v' ∧ MoRel ρ m u' := by
              unfold recoverA at hm
              split at hm
              · rename_i v1 older hmode
                simp only [Option.some.injEq, Prod.mk.injEq] at hm
                obtain ⟨rfl, rfl⟩ := hm
                rw [hmode] at e3
                cases u with
                | run => exact e3.elim
                | returning => exact e3.elim
                | panicking ch =>
                  obtain ⟨hl, hc2⟩ := e3
                  cases ch with
                  | nil => simp at hl
                  | cons y ys =>
                    obtain ⟨h1, h2, h3⟩ := hc2 0 _ y rfl rfl
                    obtain ⟨yv, yr, yg⟩ := y
                    simp only at h1 h2 h3
                    subst h2; subst h3
                    refine ⟨yv, .panicking ({ v := yv, recovered := true } :: ys), rfl, h1, ?_⟩
                    refine ⟨by simpa using hl, fun i x y p q => ?_⟩
                    cases i with
                    | zero => simp at p q; subst p; subst q; exact ⟨h1, rfl, rfl⟩
                    | succ i => exact hc2 (i + 1) x y (by simpa using p) (by simpa using q)
              · exact absurd hm (by simp)
            obtain ⟨v', u', hr1, hr2, hr3⟩ := hu
            rw [hr1]
            exact ih (i + 1) _ hrest rfl ⟨_, _, _, _⟩ _ _ h _ (a.put o.dst v') _ _ ⟨put_rel hs.t hdst hr2, by rw [put_defers]; exact hs.ds, ⟨c0, rcs, u', rfl, rfl, hr3⟩, hR⟩
          · rename_i hm
            have hu : recoverD ({ c0 with mode := u } :: rcs) = none := by
              cases u with
              | run => rfl
              | returning => rfl
              | panicking ch =>
                cases ch with
                | nil => rfl
                | cons y ys =>
                  obtain ⟨yv, yr, yg⟩ := y
                  cases yr
                  · cases yg
                    · exfalso
                      cases hsm : s.mode with
                      | run => rw [hsm] at e3; exact e3.elim
                      | returning => rw [hsm] at e3; exact e3.elim
                      | panicking ch0 =>
                        rw [hsm] at e3 hm
                        obtain ⟨hl, hc2⟩ := e3
                        cases ch0 with
                        | nil => simp at hl
                        | cons z zs =>
                          obtain ⟨h1, h2, h3⟩ := hc2 0 z _ rfl rfl
                          obtain ⟨zv, zr, zg⟩ := z
                          simp only at h1 h2 h3
                          subst h2; subst h3
                          simp [recoverA] at hm
                    · rfl
                  · cases yg <;> rfl
            rw [hu]
            exact ih (i + 1) _ hrest rfl ⟨_, _, _, _⟩ _ _ h _ (a.put o.dst _) _ _ ⟨put_rel hs.t hdst .nilIface, by rw [put_defers]; exact hs.ds, ⟨c0, rcs, u, rfl, rfl, e3⟩, hR⟩
        | call ha hR =>
          simp only at h
          split at h
          · rename_i v σ' hcall
            refine Calls.mono (hc _ _ _ _ _ hcall _ _ _ ha hR) ?_
            rintro e w' ⟨ρ', hle, he, hR'⟩
            cases e with
            | returned v' =>
              have := ih (i + 1) _ hrest rfl ⟨_, _, _, _⟩ _ _ h _ (a.put o.dst v') cs _ ⟨put_rel (hs.t.mono hle) hdst he, by rw [put_defers]; exact hs.ds.mono hle, hs.cs.mono hle, hR'⟩
              exact wpOpsS_mono_q (fun e a' cs' w' p => Post.le hle p) this
            | panicked ch => exact he.elim
            | outgrown => exact he.elim
          · rename_i ch σ' hcall
            simp only [Res.ok.injEq, Prod.mk.injEq] at h
            obtain ⟨rfl, rfl⟩ := h
            refine Calls.mono (hc _ _ _ _ _ hcall _ _ _ ha hR) ?_
            rintro e w' ⟨ρ', hle, he, hR'⟩
            cases e with
            | returned v' => exact he.elim
            | panicked ch => exact Post.le hle (SRel.post (s := { s with σ := σ' }) (x := .panic _) (e := .panic _) ⟨hs.t.mono hle, hs.ds.mono hle, hs.cs.mono hle, hR'⟩ he)
            | outgrown => exact he.elim
          · exact absurd h (by simp)
    · rename_i hw0
      have hw := wanted_eq hs.t hops hw0
      rw [if_neg (by rw [hw]; simp)]
      exact ih (i + 1) _ hrest rfl ⟨_, _, _, _⟩ _ _ h _ (a.put o.dst _) cs _ ⟨put_rel hs.t hdst (undef_rel _), by rw [put_defers]; exact hs.ds, hs.cs, hs.r⟩

end
end Am
end Go

/- The abstract machine's runs and the model's: a region that draws its order. -/
set_option linter.unusedVariables false
set_option linter.unusedSimpArgs false
namespace Go
namespace Am

/- the order -/
theorem bsets_spec : ∀ (l : List Oper) (acc : List Nat), (bsets l acc).length = acc.length + l.length ∧ (bsets l acc).take acc.length = acc ∧
    ∀ i o, l[i]? = some o → (bsets l acc).getD (acc.length + i) 0 = bset ((bsets l acc).take (acc.length + i)) o
  | [], acc => ⟨by simp [bsets], by simp [bsets], fun i o h => by simp at h⟩
  | o :: l, acc => by
    obtain ⟨h1, h2, h3⟩ := bsets_spec l (acc ++ [bset acc o])
    simp only [bsets]
    have e1 : (acc ++ [bset acc o]).length = acc.length + 1 := by simp
    refine ⟨by rw [h1]; simp; omega, ?_, fun i p hp => ?_⟩
    · have := congrArg (List.take acc.length) h2
      rw [List.take_take, e1] at this
      simpa using this
    · cases i with
      | zero =>
        simp at hp
        subst hp
        simp only [Nat.add_zero]
        have h4 : (bsets l (acc ++ [bset acc o]))[acc.length]? = some (bset acc o) := by
          have := congrArg (fun x => x[acc.length]?) h2
          simp only [List.getElem?_take, e1] at this
          rw [if_pos (by omega)] at this
          rw [this]
          simp
        have h5 : (bsets l (acc ++ [bset acc o])).take acc.length = acc := by
          have := congrArg (List.take acc.length) h2
          rw [List.take_take, e1] at this
          simpa using this
        rw [h5, List.getD_eq_getElem?_getD, h4]
        rfl
      | succ i =>
        have := h3 i p (by simpa using hp)
        rw [e1] at this
        rw [show acc.length + (i + 1) = acc.length + 1 + i by omega]
        exact this

theorem bset_bit {bs : List Nat} {i : Nat} : ∀ {l : List Edge}, Nat.testBit (l.foldr (fun e s => match binds e with | true => (2 ^ e.on ||| bs.getD e.on 0) ||| s | false => s) 0) i = true →
    ∃ e ∈ l, binds e = true ∧ (e.on = i ∨ Nat.testBit (bs.getD e.on 0) i = true)
  | [], h => by simp at h
  | e :: l, h => by
    simp only [List.foldr_cons] at h
    split at h
    · rename_i hb
      rw [Nat.testBit_or, Nat.testBit_or, Bool.or_eq_true, Bool.or_eq_true, Nat.testBit_two_pow] at h
      rcases h with (h | h) | h
      · exact ⟨e, by simp, hb, .inl (by simpa using h)⟩
      · exact ⟨e, by simp, hb, .inr h⟩
      · obtain ⟨f, hf, h1, h2⟩ := bset_bit h
        exact ⟨f, by simp [hf], h1, h2⟩
    · obtain ⟨f, hf, h1, h2⟩ := bset_bit h
      exact ⟨f, by simp [hf], h1, h2⟩

theorem ahead_inv {L : List Oper} {i j : Nat} (h : ahead (bsets L []) i j = true) : ∃ o, L[j]? = some o ∧ ∃ e ∈ o.after.toList, binds e = true ∧ (e.on = i ∨ (e.on < j ∧ ahead (bsets L []) i e.on = true)) := by
  obtain ⟨h1, _, h3⟩ := bsets_spec L []
  unfold ahead at h
  cases ho : L[j]? with
  | none =>
    have hj : L.length ≤ j := by simpa using ho
    have : (bsets L []).getD j 0 = 0 := by
      rw [List.getD_eq_getElem?_getD, List.getElem?_eq_none (by rw [h1]; simpa using hj)]; rfl
    rw [this] at h
    simp at h
  | some o =>
    refine ⟨o, rfl, ?_⟩
    have := h3 j o ho
    simp only [List.length_nil, Nat.zero_add] at this
    rw [this] at h
    obtain ⟨e, he, hb, hx⟩ := bset_bit h
    refine ⟨e, he, hb, ?_⟩
    rcases hx with hx | hx
    · exact .inl hx
    · right
      rw [List.getD_eq_getElem?_getD, List.getElem?_take] at hx
      split at hx
      · rename_i hlt
        exact ⟨hlt, by rw [← List.getD_eq_getElem?_getD] at hx; exact hx⟩
      · simp at hx

/-- closed under the edges -/
def Closed (L : List Oper) (D : Nat → Bool) : Prop := ∀ j o, D j = true → L[j]? = some o → ∀ e ∈ o.after.toList, binds e = true → D e.on = true

theorem Closed.ahead {L : List Oper} {D : Nat → Bool} (h : Closed L D) {i : Nat} : ∀ j, D j = true → Am.ahead (bsets L []) i j = true → D i = true := by
  intro j
  induction j using Nat.strongRecOn with
  | _ j ih =>
    intro hj ha
    obtain ⟨o, ho, e, he, hb, hx⟩ := ahead_inv ha
    have hd := h j o hj ho e he hb
    rcases hx with hx | ⟨h1, h2⟩
    · rw [← hx]; exact hd
    · exact ih e.on h1 hd h2

theorem okRegion_at {ops : Array Oper} {bs : List Nat} : ∀ {l : List Oper} {i0 : Nat}, okRegion ops bs l i0 = true → ∀ i o, l[i]? = some o → okEdges (i0 + i) o = true ∧
    ∀ j p, i < j → l[j]? = some p → Am.ahead bs (i0 + i) (i0 + j) = true ∨ Oper.apart ops o p = true
  | [], i0, _, i, o, h => by simp at h
  | q :: l, i0, h, i, o, ho => by
    simp only [okRegion, Bool.and_eq_true] at h
    obtain ⟨⟨h1, h2⟩, h3⟩ := h
    cases i with
    | zero =>
      simp at ho
      subst ho
      refine ⟨h1, fun j p hj hp => ?_⟩
      have pairs : ∀ (l : List Oper) (k : Nat), okPairs ops bs q i0 l k = true → ∀ m p, l[m]? = some p → Am.ahead bs i0 (k + m) = true ∨ Oper.apart ops q p = true := by
        intro l
        induction l with
        | nil => intro k _ m p hm; simp at hm
        | cons x l ih =>
          intro k hk m p hm
          simp only [okPairs, Bool.and_eq_true, Bool.or_eq_true] at hk
          cases m with
          | zero => simp at hm; subst hm; exact hk.1
          | succ m =>
            have := ih (k + 1) hk.2 m p (by simpa using hm)
            rw [show k + (m + 1) = k + 1 + m by omega]
            exact this
      cases j with
      | zero => omega
      | succ j =>
        have := pairs l (i0 + 1) h2 j p (by simpa using hp)
        rw [show i0 + (j + 1) = i0 + 1 + j by omega]
        exact this
    | succ i =>
      obtain ⟨a, b⟩ := okRegion_at h3 i o (by simpa using ho)
      refine ⟨by rw [show i0 + (i + 1) = i0 + 1 + i by omega]; exact a, fun j p hj hp => ?_⟩
      cases j with
      | zero => omega
      | succ j =>
        have := b j p (by omega) (by simpa using hp)
        rw [show i0 + (i + 1) = i0 + 1 + i by omega, show i0 + (j + 1) = i0 + 1 + j by omega]
        exact this

theorem ahead_lt {ops : Array Oper} {i j : Nat} (hok : okRegion ops (bsets ops.toList []) ops.toList 0 = true) : Am.ahead (bsets ops.toList []) i j = true → i < j := by
  induction j using Nat.strongRecOn with
  | _ j ih =>
    intro h
    obtain ⟨o, ho, e, he, hb, hx⟩ := ahead_inv h
    have hed := (okRegion_at hok j o ho).1
    simp only [okEdges, List.all_eq_true, Nat.zero_add] at hed
    have hlt : e.on < j := by
      have := hed e he
      rw [hb] at this
      exact blt_t (by simpa using this)
    rcases hx with hx | ⟨_, h2⟩
    · omega
    · have := ih e.on hlt h2; omega

/- the run in the order of the text, place by place -/
def tseq : List Oper → List Ent → Tm → Nat → Tm
  | o :: ops, n :: ns, t, i + 1 => tseq ops ns (putT t o.dst n.value) i
  | _, _, t, _ => t

def Ent.behind : Ent → AW → AW
  | .eff _ _ σ', _ => σ'
  | _, σ => σ

def sseq : List Ent → AW → Nat → AW
  | n :: ns, σ, i + 1 => sseq ns (n.behind σ) i
  | _, σ, _ => σ

def StepOk (P : Program) (X : Facts) (call : FuncId → Array Value → AW → Res (AEnd × AW)) (ops : Array Oper) (t : Tm) (σ : AW) (o : Oper) : Ent → Prop
  | .skip => wantedA ops t o = some false
  | .val v => wantedA ops t o = some true ∧ aop P X (ev t) o σ = some (.val v)
  | .eff σ1 v σ' => σ1 = σ ∧ wantedA ops t o = some true ∧ (aop P X (ev t) o σ = some (.eff v σ') ∨ ∃ f args, aop P X (ev t) o σ = some (.call f args) ∧ call f args σ = .ok (.returned v, σ'))

theorem tseq_zero (l : List Oper) (ns : List Ent) (t : Tm) : tseq l ns t 0 = t := by cases l <;> cases ns <;> rfl
theorem sseq_zero (ns : List Ent) (σ : AW) : sseq ns σ 0 = σ := by cases ns <;> rfl

theorem tseq_succ : ∀ {l : List Oper} {ns : List Ent} {t : Tm} {i : Nat} {o : Oper} {n : Ent}, l[i]? = some o → ns[i]? = some n → tseq l ns t (i + 1) = putT (tseq l ns t i) o.dst n.value
  | [], ns, t, i, o, n, h, _ => by simp at h
  | _ :: _, [], t, i, o, n, _, h => by simp at h
  | p :: l, m :: ns, t, 0, o, n, h, k => by
    simp at h k; subst h; subst k
    simp only [tseq, tseq_zero]
  | p :: l, m :: ns, t, i + 1, o, n, h, k => by
    simp only [tseq]
    exact tseq_succ (by simpa using h) (by simpa using k)

theorem sseq_succ : ∀ {ns : List Ent} {σ : AW} {i : Nat} {n : Ent}, ns[i]? = some n → sseq ns σ (i + 1) = n.behind (sseq ns σ i)
  | [], σ, i, n, h => by simp at h
  | m :: ns, σ, 0, n, h => by simp at h; subst h; simp only [sseq, sseq_zero]
  | m :: ns, σ, i + 1, n, h => by
    simp only [sseq]
    exact sseq_succ (by simpa using h)

theorem runDraw_spec {P : Program} {X : Facts} {call : FuncId → Array Value → AW → Res (AEnd × AW)} {ops : Array Oper} : ∀ {l : List Oper} {t : Tm} {σ : AW} {ns : List Ent} {t' : Tm} {σ' : AW},
    runDraw P X call ops l t σ = .ok (ns, t', σ') → ns.length = l.length ∧ tseq l ns t l.length = t' ∧ sseq ns σ l.length = σ' ∧
      ∀ i o, l[i]? = some o → ∃ n, ns[i]? = some n ∧ StepOk P X call ops (tseq l ns t i) (sseq ns σ i) o n
  | [], t, σ, ns, t', σ', h => by
    simp only [runDraw, Res.ok.injEq, Prod.mk.injEq] at h
    obtain ⟨rfl, rfl, rfl⟩ := h
    exact ⟨rfl, rfl, rfl, fun i o h => by simp at h⟩
  | p :: l, t, σ, ns, t', σ', h => by
    have fin : ∀ (n : Ent) (rest : List Ent), runDraw P X call ops l (putT t p.dst n.value) (n.behind σ) = .ok (rest, t', σ') → StepOk P X call ops t σ p n →
        (n :: rest).length = (p :: l).length ∧ tseq (p :: l) (n :: rest) t (p :: l).length = t' ∧ sseq (n :: rest) σ (p :: l).length = σ' ∧
        ∀ i o, (p :: l)[i]? = some o → ∃ m, (n :: rest)[i]? = some m ∧ StepOk P X call ops (tseq (p :: l) (n :: rest) t i) (sseq (n :: rest) σ i) o m := by
      intro n rest hr hs
      obtain ⟨a, b, c, d⟩ := runDraw_spec hr
      refine ⟨by simp [a], b, c, fun i o ho => ?_⟩
      cases i with
      | zero =>
        simp at ho
        subst ho
        exact ⟨n, rfl, by rw [tseq_zero, sseq_zero]; exact hs⟩
      | succ i =>
        obtain ⟨m, hm, hs'⟩ := d i o (by simpa using ho)
        exact ⟨m, by simpa using hm, hs'⟩
    unfold runDraw at h
    split at h
    · exact absurd h (by simp)
    · rename_i hw
      split at h
      · rename_i v hv
        split at h
        · rename_i r1 r2 hr
          cases h
          exact fin (.val v) _ hr ⟨hw, hv⟩
        · exact absurd h (by simp)
      · rename_i v σ1 hv
        split at h
        · rename_i r1 r2 hr
          cases h
          exact fin (.eff σ v σ1) _ hr ⟨rfl, hw, .inl hv⟩
        · exact absurd h (by simp)
      · rename_i f args hv
        split at h
        · rename_i v σ1 hc
          split at h
          · rename_i r1 r2 hr
            cases h
            exact fin (.eff σ v σ1) _ hr ⟨rfl, hw, .inr ⟨f, args, hv, hc⟩⟩
          · exact absurd h (by simp)
        · exact absurd h (by simp)
        · exact absurd h (by simp)
      · exact absurd h (by simp)
    · rename_i hw
      split at h
      · rename_i r1 r2 hr
        cases h
        exact fin .skip _ hr hw
      · exact absurd h (by simp)

theorem okEff_at {P : Program} {X : Facts} {bs : List Nat} {e : Nat} {σ σ' : AW} : ∀ {l : List Oper} {ns : List Ent} {t : Tm} {j0 : Nat}, okEff P X bs e σ σ' l ns t j0 = true → ∀ i o n, l[i]? = some o → ns[i]? = some n →
    e = j0 + i ∨ Am.ahead bs e (j0 + i) = true ∨ Am.ahead bs (j0 + i) e = true ∨
      (match n with | .val v => again P X (tseq l ns t i) o v (match Nat.blt e (j0 + i) with | true => σ | false => σ') | .skip => true | .eff _ _ _ => false) = true
  | [], ns, t, j0, _, i, o, n, h, _ => by simp at h
  | _ :: _, [], t, j0, _, i, o, n, _, h => by simp at h
  | p :: l, m :: ns, t, j0, h, i, o, n, ho, hn => by
    simp only [okEff, Bool.and_eq_true, Bool.or_eq_true] at h
    cases i with
    | zero =>
      simp at ho hn
      subst ho; subst hn
      rw [tseq_zero, Nat.add_zero]
      rcases h.1 with ((a | a) | a) | a
      · exact .inl (beq_t a)
      · exact .inr (.inl a)
      · exact .inr (.inr (.inl a))
      · exact .inr (.inr (.inr a))
    | succ i =>
      have := okEff_at h.2 i o n (by simpa using ho) (by simpa using hn)
      rw [show j0 + (i + 1) = j0 + 1 + i by omega]
      exact this

theorem okEffs_at {P : Program} {X : Facts} {bs : List Nat} {L : List Oper} {ns : List Ent} {t : Tm} : ∀ {l : List Ent} {e0 : Nat}, okEffs P X bs L ns t l e0 = true → ∀ i σ v σ', l[i]? = some (.eff σ v σ') → okEff P X bs (e0 + i) σ σ' L ns t 0 = true
  | [], e0, _, i, σ, v, σ', h => by simp at h
  | m :: l, e0, h, i, σ, v, σ', hi => by
    cases i with
    | zero =>
      simp at hi
      subst hi
      simp only [okEffs, Bool.and_eq_true] at h
      exact h.1
    | succ i =>
      have h2 : okEffs P X bs L ns t l (e0 + 1) = true := by
        cases m with
        | val v => exact h
        | skip => exact h
        | eff a b c => simp only [okEffs, Bool.and_eq_true] at h; exact h.2
      rw [show e0 + (i + 1) = e0 + 1 + i by omega]
      exact okEffs_at h2 i σ v σ' (by simpa using hi)

theorem looks_congr {P : Program} {X : Facts} {evx : Operand → Value} {o : Oper} (h : looks o.op = false) (σ σ' : AW) : aop P X evx o σ = aop P X evx o σ' := by
  obtain ⟨dst, op, type, pos, after, guard⟩ := o
  cases op <;> first | rfl | (simp [looks] at h; done)

theorem again_eq {P : Program} {X : Facts} {t : Tm} {o : Oper} {v : Value} {σ σ0 : AW} (h : again P X t o v σ = true) (h0 : aop P X (ev t) o σ0 = some (.val v)) : aop P X (ev t) o σ = some (.val v) := by
  unfold again at h
  split at h
  · rename_i hl
    rw [looks_congr hl σ σ0]; exact h0
  · split at h
    · rename_i u hu
      rw [hu, sameN_eq _ _ _ h]
    · exact absurd h (by simp)

/- what has been done -/
/-- the slots behind the operations of D among the first k -/
def TD (L : List Oper) (ns : List Ent) (t : Tm) (D : Nat → Bool) : Nat → Tm
  | 0 => t
  | k + 1 => match D k, L[k]?, ns[k]? with
    | true, some o, some n => putT (TD L ns t D k) o.dst n.value
    | _, _, _ => TD L ns t D k

def SD (ns : List Ent) (σ : AW) (D : Nat → Bool) : Nat → AW
  | 0 => σ
  | k + 1 => match D k, ns[k]? with
    | true, some n => n.behind (SD ns σ D k)
    | _, _ => SD ns σ D k

def isEff (ns : List Ent) (k : Nat) : Prop := ∃ σ v σ', ns[k]? = some (.eff σ v σ')

theorem SD_congr {ns : List Ent} {σ : AW} {D D' : Nat → Bool} : ∀ {k : Nat}, (∀ j, j < k → isEff ns j → D j = D' j) → SD ns σ D k = SD ns σ D' k
  | 0, _ => rfl
  | k + 1, h => by
    have ih := SD_congr (σ := σ) (k := k) fun j hj he => h j (by omega) he
    simp only [SD]
    cases hn : ns[k]? with
    | none => cases D k <;> cases D' k <;> exact ih
    | some n =>
      cases n with
      | val v => cases D k <;> cases D' k <;> simp [Ent.behind, ih]
      | skip => cases D k <;> cases D' k <;> simp [Ent.behind, ih]
      | eff a b c =>
        have := h k (by omega) ⟨a, b, c, hn⟩
        rw [this]
        cases D' k <;> simp [Ent.behind, ih]

theorem SD_seq {ns : List Ent} {σ : AW} {D : Nat → Bool} : ∀ {k : Nat}, k ≤ ns.length → (∀ j, j < k → isEff ns j → D j = true) → SD ns σ D k = sseq ns σ k
  | 0, _, _ => (sseq_zero ns σ).symm
  | k + 1, hk, h => by
    have ih := SD_seq (ns := ns) (σ := σ) (D := D) (k := k) (by omega) fun j hj he => h j (by omega) he
    have hlt : k < ns.length := by omega
    have hn : ns[k]? = some ns[k] := List.getElem?_eq_getElem hlt
    rw [sseq_succ hn]
    simp only [SD, hn, ← ih]
    cases he : ns[k] with
    | val v => cases D k <;> rfl
    | skip => cases D k <;> rfl
    | eff a b c =>
      rw [h k (by omega) ⟨a, b, c, by rw [hn, he]⟩]

/-- nothing is turned from k on -/
theorem SD_upto {ns : List Ent} {σ : AW} {D : Nat → Bool} : ∀ {k n : Nat}, k ≤ n → (∀ j, k ≤ j → j < n → isEff ns j → D j = false) → SD ns σ D n = SD ns σ D k := by
  intro k n hkn h
  obtain ⟨m, rfl⟩ : ∃ m, n = k + m := ⟨n - k, by omega⟩
  clear hkn
  induction m with
  | zero => rfl
  | succ m ih =>
    rw [← ih fun j a b => h j a (by omega)]
    show SD ns σ D (k + m + 1) = _
    simp only [SD]
    cases hn : ns[k + m]? with
    | none => cases D (k + m) <;> rfl
    | some n =>
      cases n with
      | val v => cases D (k + m) <;> rfl
      | skip => cases D (k + m) <;> rfl
      | eff a b c => rw [h (k + m) (by omega) (by omega) ⟨a, b, c, hn⟩]

theorem sseq_upto {ns : List Ent} {σ : AW} {k n : Nat} (hkn : k ≤ n) (hn : n ≤ ns.length) (h : ∀ j, k ≤ j → j < n → ¬ isEff ns j) : sseq ns σ n = sseq ns σ k := by
  have h1 := SD_seq (ns := ns) (σ := σ) (D := fun _ => true) hn (fun _ _ _ => rfl)
  have h2 := SD_seq (ns := ns) (σ := σ) (D := fun _ => true) (k := k) (by omega) (fun _ _ _ => rfl)
  rw [← h1, ← h2]
  exact SD_upto hkn fun j a b c => absurd c (h j a b)

/-- a slot behind D: its writers alone count -/
theorem TD_congr {L : List Oper} {ns : List Ent} {t : Tm} {D D' : Nat → Bool} {x : Nat} {nt : Nat} (hL : L.all (okOp nt) = true) :
    ∀ {k : Nat}, (∀ j o, j < k → L[j]? = some o → o.dst = some x → D j = D' j) → (TD L ns t D k).get x = (TD L ns t D' k).get x
  | 0, _ => rfl
  | k + 1, h => by
    have ih := TD_congr (L := L) (ns := ns) (t := t) (D := D) (D' := D') hL (k := k) fun j o hj => h j o (by omega)
    have key : ∀ o n, L[k]? = some o → ns[k]? = some n → o.dst ≠ some x → ∀ t0 : Tm, (putT t0 o.dst n.value).get x = t0.get x := by
      intro o n ho hn hne t0
      cases hd : o.dst with
      | none => rfl
      | some d =>
        have hok : okOp nt o = true := by
          rw [List.all_eq_true] at hL
          exact hL o (List.mem_of_getElem? ho)
        have hdn := okOp_dst hok
        rw [hd] at hdn hne
        have hdn : d < nt := blt_t hdn
        simp only [putT]
        exact Tm.put_other _ _ (fun e => hne (by rw [e]))
    simp only [TD]
    cases hL1 : L[k]? with
    | none => cases D k <;> cases D' k <;> exact ih
    | some o =>
      cases hn : ns[k]? with
      | none => cases D k <;> cases D' k <;> exact ih
      | some n =>
        by_cases hd : o.dst = some x
        · rw [h k o (by omega) hL1 hd]
          cases D' k
          · exact ih
          · simp only [hd, putT, Tm.put_same]
        · cases D k <;> cases D' k <;> simp only [key o n hL1 hn hd, ih]

theorem TD_seq {L : List Oper} {ns : List Ent} {t : Tm} (hlen : ns.length = L.length) {i : Nat} : ∀ {k : Nat}, k ≤ L.length → TD L ns t (fun j => decide (j < i)) k = tseq L ns t (min i k)
  | 0, _ => by rw [Nat.min_zero, tseq_zero]; rfl
  | k + 1, hk => by
    have ih := TD_seq hlen (t := t) (i := i) (k := k) (by omega)
    have hL : L[k]? = some L[k] := List.getElem?_eq_getElem (by omega)
    have hn : ns[k]? = some ns[k] := List.getElem?_eq_getElem (by omega)
    simp only [TD, hL, hn]
    by_cases h : k < i
    · simp only [h, decide_true]
      rw [ih, Nat.min_eq_right (by omega), Nat.min_eq_right (by omega), tseq_succ hL hn]
    · simp only [h, decide_false]
      rw [ih, Nat.min_eq_left (by omega), Nat.min_eq_left (by omega)]

def addD (D : Nat → Bool) (i : Nat) : Nat → Bool := fun j => if j = i then true else D j

/-- one more is done: as if it had come last -/
theorem TD_add {L : List Oper} {ns : List Ent} {t : Tm} {D : Nat → Bool} {i x nt : Nat} {o : Oper} {n : Ent} (hL : L.all (okOp nt) = true) (ho : L[i]? = some o) (hn : ns[i]? = some n)
    (hlast : ∀ j p d, i < j → L[j]? = some p → o.dst = some d → p.dst = some d → D j = false) {k : Nat} (hik : i < k) :
    (TD L ns t (addD D i) k).get x = (putT (TD L ns t D k) o.dst n.value).get x := by
  have hok : okOp nt o = true := by
    rw [List.all_eq_true] at hL
    exact hL o (List.mem_of_getElem? ho)
  by_cases hd : o.dst = some x
  · rw [hd]
    simp only [putT, Tm.put_same]
    obtain ⟨m, rfl⟩ : ∃ m, k = i + 1 + m := ⟨k - (i + 1), by omega⟩
    clear hik
    induction m with
    | zero =>
      show (TD L ns t (addD D i) (i + 1)).get x = _
      simp only [TD, ho, hn, addD, if_true, hd, putT, Tm.put_same]
    | succ m ih =>
      rw [← ih]
      show (TD L ns t (addD D i) (i + 1 + m + 1)).get x = _
      simp only [TD]
      cases hL1 : L[i + 1 + m]? with
      | none => cases addD D i (i + 1 + m) <;> rfl
      | some p =>
        cases hn1 : ns[i + 1 + m]? with
        | none => cases addD D i (i + 1 + m) <;> rfl
        | some q =>
          by_cases hp : p.dst = some x
          · have : addD D i (i + 1 + m) = false := by
              unfold addD
              rw [if_neg (by omega)]
              exact hlast _ p x (by omega) hL1 hd hp
            rw [this]
          · cases addD D i (i + 1 + m)
            · rfl
            · simp only
              cases hpd : p.dst with
              | none => rfl
              | some d =>
                have hokp : okOp nt p = true := by
                  rw [List.all_eq_true] at hL
                  exact hL p (List.mem_of_getElem? hL1)
                have hdn := okOp_dst hokp
                rw [hpd] at hdn hp
                have hdn : d < nt := blt_t hdn
                simp only [putT]
                exact Tm.put_other _ _ (fun e => hp (by rw [e]))
  · have h1 : (TD L ns t (addD D i) k).get x = (TD L ns t D k).get x := by
      refine TD_congr hL fun j p hj hp hpd => ?_
      unfold addD
      split
      · rename_i e
        subst e
        rw [ho] at hp
        cases hp
        exact absurd hpd hd
      · rfl
    rw [h1]
    cases hod : o.dst with
    | none => rfl
    | some d =>
      have hdn := okOp_dst hok
      rw [hod] at hdn hd
      have hdn : d < nt := blt_t hdn
      simp only [putT]
      exact (Tm.put_other _ _ (fun e => hd (by rw [e]))).symm

end Am
end Go

/- The abstract machine's runs and the model's: a region that draws its order, together. -/
set_option linter.unusedVariables false
set_option linter.unusedSimpArgs false
namespace Go
namespace Am
section
variable {P : Program} {w0 : World} {S : Own} [NoEx P S]

/-- what a region that draws its order has been found to be -/
structure Drawn (P : Program) (X : Facts) (call : FuncId → Array Value → AW → Res (AEnd × AW)) (nt : Nat) (ops : Array Oper) (ns : List Ent) (t0 : Tm) (σ0 : AW) : Prop where
  ok : okRegion ops (bsets ops.toList []) ops.toList 0 = true
  all : ops.toList.all (okOp nt) = true
  len : ns.length = ops.toList.length
  step : ∀ i o, ops.toList[i]? = some o → ∃ n, ns[i]? = some n ∧ StepOk P X call ops (tseq ops.toList ns t0 i) (sseq ns σ0 i) o n
  effs : okEffs P X (bsets ops.toList []) ops.toList ns t0 ns 0 = true

variable {X : Facts} {call : FuncId → Array Value → AW → Res (AEnd × AW)} {nt : Nat} {ops : Array Oper} {ns : List Ent} {t0 : Tm} {σ0 : AW}

theorem Drawn.apart_or (H : Drawn P X call nt ops ns t0 σ0) {i j : Nat} {o p : Oper} (hi : ops.toList[i]? = some o) (hj : ops.toList[j]? = some p) (h : i < j) :
    ahead (bsets ops.toList []) i j = true ∨ Oper.apart ops o p = true := by
  have := (okRegion_at H.ok i o hi).2 j p h hj
  simpa using this

/-- the readiness of i at D -/
structure Ready (L : List Oper) (D : Nat → Bool) (i : Nat) : Prop where
  closed : Closed L D
  notIn : D i = false
  edges : ∀ o, L[i]? = some o → ∀ e ∈ o.after.toList, binds e = true → D e.on = true

theorem Ready.closed' {L : List Oper} {D : Nat → Bool} {i : Nat} (h : Ready L D i) : Closed L (addD D i) := by
  intro j o hj ho e he hb
  unfold addD at hj ⊢
  split
  · rfl
  · split at hj
    · rename_i e1; subst e1; exact h.edges o ho e he hb
    · exact h.closed j o hj ho e he hb

theorem Ready.before {L : List Oper} {D : Nat → Bool} {i j : Nat} (h : Ready L D i) (hne : j ≠ i) (ha : ahead (bsets L []) j i = true) : D j = true := by
  have := h.closed'.ahead i (by simp [addD]) ha
  unfold addD at this
  rw [if_neg hne] at this
  exact this

theorem Ready.behind {L : List Oper} {D : Nat → Bool} {i j : Nat} (h : Ready L D i) (ha : ahead (bsets L []) i j = true) : D j = false := by
  cases hj : D j with
  | false => rfl
  | true =>
    have := h.closed.ahead j hj ha
    rw [h.notIn] at this
    exact absurd this (by simp)

/-- the slots that an operation looks at are those of the run in the order of the text -/
theorem Drawn.slot (H : Drawn P X call nt ops ns t0 σ0) {D : Nat → Bool} {i : Nat} {o : Oper} (hi : ops.toList[i]? = some o) (hr : Ready ops.toList D i) {x : Nat} (hx : x < nt) (hlook : x ∈ o.looksAt ops) :
    (TD ops.toList ns t0 D ops.toList.length).get x = (tseq ops.toList ns t0 i).get x := by
  have hil : i < ops.toList.length := by
    rcases Nat.lt_or_ge i ops.toList.length with g | g
    · exact g
    · rw [List.getElem?_eq_none g] at hi; exact absurd hi (by simp)
  have h1 := TD_seq H.len (t := t0) (i := i) (k := ops.toList.length) (Nat.le_refl _)
  rw [Nat.min_eq_left (by omega)] at h1
  rw [← h1]
  refine TD_congr H.all fun j p hj hp hpd => ?_
  rcases Nat.lt_trichotomy j i with h | h | h
  · have ha : ahead (bsets ops.toList []) j i = true := by
      rcases H.apart_or hp hi h with a | a
      · exact a
      · exact absurd hlook ((Oper.apart_spec a).1 x hpd)
    rw [hr.before (by omega) ha]
    simp [h]
  · subst h
    rw [hr.notIn]
    simp
  · have ha : ahead (bsets ops.toList []) i j = true := by
      rcases H.apart_or hi hp h with a | a
      · exact a
      · exact absurd hlook ((Oper.apart_spec a).2.2 x hpd)
    rw [hr.behind ha]
    have : ¬ j < i := by omega
    simp [this]

theorem operand_looks {o : Oper} {x : Nat} (h : Operand.tmp x ∈ o.op.operands) : x ∈ o.looksAt ops := by
  unfold Oper.looksAt
  refine List.mem_append.2 (.inl ?_)
  rw [List.mem_filterMap]
  exact ⟨.tmp x, by rw [Array.mem_toList_iff]; exact h, rfl⟩

theorem Drawn.evs (H : Drawn P X call nt ops ns t0 σ0) {D : Nat → Bool} {i : Nat} {o : Oper} (hi : ops.toList[i]? = some o) (hr : Ready ops.toList D i) {x : Operand} (hx : x ∈ o.op.operands) :
    ev (TD ops.toList ns t0 D ops.toList.length) x = ev (tseq ops.toList ns t0 i) x := by
  cases x with
  | tmp y =>
    have hok : okOp nt o = true := by
      have := H.all
      rw [List.all_eq_true] at this
      exact this o (List.mem_of_getElem? hi)
    simp only [okOp, Bool.and_eq_true, List.all_eq_true] at hok
    have hy : y < nt := blt_t (hok.1 (.tmp y) (by rw [Array.mem_toList_iff]; exact hx))
    simp only [ev]
    rw [H.slot hi hr hy (operand_looks hx)]
  | const v => rfl
  | global g => rfl
  | func f => rfl

theorem Drawn.wanted (H : Drawn P X call nt ops ns t0 σ0) {D : Nat → Bool} {i : Nat} {o : Oper} (hi : ops.toList[i]? = some o) (hr : Ready ops.toList D i) :
    wantedA ops (TD ops.toList ns t0 D ops.toList.length) o = wantedA ops (tseq ops.toList ns t0 i) o := by
  unfold wantedA
  cases hg : o.guard with
  | none => rfl
  | some q =>
    obtain ⟨j, want⟩ := q
    simp only
    cases hd : (ops[j]?).bind (·.dst) with
    | none => rfl
    | some d =>
      have hdn : d < nt := by
        cases hj : ops[j]? with
        | none => rw [hj] at hd; simp at hd
        | some p =>
          rw [hj] at hd
          simp only [Option.bind_some] at hd
          have hokp : okOp nt p = true := by
            have := H.all
            rw [List.all_eq_true] at this
            exact this p (by rw [Array.mem_toList_iff]; exact Array.mem_of_getElem? hj)
          have := okOp_dst hokp
          rw [hd] at this
          exact blt_t this
      have hlook : d ∈ o.looksAt ops := by
        unfold Oper.looksAt
        refine List.mem_append.2 (.inr ?_)
        rw [hg]
        simp only [hd]
        simp
      simp only
      rw [H.slot hi hr hdn hlook]

/-- two effects are in order -/
theorem Drawn.eff_order (H : Drawn P X call nt ops ns t0 σ0) {e f : Nat} (he : isEff ns e) (hf : isEff ns f) (h : e < f) : ahead (bsets ops.toList []) e f = true := by
  obtain ⟨a, b, c, hne⟩ := he
  obtain ⟨a2, b2, c2, hnf⟩ := hf
  have h1 := okEffs_at H.effs e a b c hne
  have hlf : f < ops.toList.length := by
    rw [← H.len]
    rcases Nat.lt_or_ge f ns.length with g | g
    · exact g
    · rw [List.getElem?_eq_none g] at hnf; exact absurd hnf (by simp)
  have h2 := okEff_at h1 f _ _ (List.getElem?_eq_getElem hlf) hnf
  simp only [Nat.zero_add] at h2
  rcases h2 with h2 | h2 | h2 | h2
  · omega
  · exact h2
  · have := ahead_lt H.ok h2; omega
  · simp at h2

theorem Drawn.state (H : Drawn P X call nt ops ns t0 σ0) {i : Nat} {a v c} (hn : ns[i]? = some (.eff a v c)) : a = sseq ns σ0 i ∧ sseq ns σ0 (i + 1) = c := by
  have hil : i < ops.toList.length := by
    rw [← H.len]
    rcases Nat.lt_or_ge i ns.length with g | g
    · exact g
    · rw [List.getElem?_eq_none g] at hn; exact absurd hn (by simp)
  obtain ⟨n, hn', hs⟩ := H.step i _ (List.getElem?_eq_getElem hil)
  rw [hn] at hn'
  cases hn'
  refine ⟨hs.1, ?_⟩
  rw [sseq_succ hn]
  rfl

/-- an effect meets the memory of the run in the order of the text -/
theorem Drawn.sd_eff (H : Drawn P X call nt ops ns t0 σ0) {D : Nat → Bool} {i : Nat} (he : isEff ns i) (hr : Ready ops.toList D i) (hil : i < ops.toList.length) :
    SD ns σ0 D ops.toList.length = sseq ns σ0 i ∧ ∀ c, (∃ a v, ns[i]? = some (.eff a v c)) → SD ns σ0 (addD D i) ops.toList.length = c := by
  have before : ∀ j, j < i → isEff ns j → D j = true := fun j hj hje => hr.before (by omega) (H.eff_order hje he hj)
  have after : ∀ j, i < j → isEff ns j → D j = false := fun j hj hje => hr.behind (H.eff_order he hje hj)
  constructor
  · rw [SD_upto (k := i) (by omega) fun j a _ c => by
      rcases Nat.eq_or_lt_of_le a with e | e
      · rw [← e]; exact hr.notIn
      · exact after j e c]
    exact SD_seq (by rw [H.len]; omega) before
  · rintro c ⟨a, v, hn⟩
    rw [SD_upto (k := i + 1) (by omega) fun j a _ c => by
      unfold addD
      rw [if_neg (by omega)]
      exact after j (by omega) c]
    rw [SD_seq (by rw [H.len]; omega) fun j a c => by
      unfold addD
      split
      · rfl
      · exact before j (by omega) c]
    exact (H.state hn).2

/-- a reading gives the same at whatever memory it meets -/
theorem Drawn.sd_val (H : Drawn P X call nt ops ns t0 σ0) {D : Nat → Bool} {i : Nat} {o : Oper} {v : Value} (hi : ops.toList[i]? = some o) (hn : ns[i]? = some (.val v)) (hr : Ready ops.toList D i) :
    aop P X (ev (tseq ops.toList ns t0 i)) o (SD ns σ0 D ops.toList.length) = some (.val v) := by
  have hil : i < ops.toList.length := by
    rcases Nat.lt_or_ge i ops.toList.length with g | g
    · exact g
    · rw [List.getElem?_eq_none g] at hi; exact absurd hi (by simp)
  obtain ⟨n', hn', hs⟩ := H.step i o hi
  rw [hn] at hn'
  cases hn'
  have h0 := hs.2
  have noti : ¬ isEff ns i := by rintro ⟨a, b, c, h⟩; rw [hn] at h; simp at h
  -- the check of the effect e against i
  have chk : ∀ e a b c, ns[e]? = some (.eff a b c) → ahead (bsets ops.toList []) e i = false → ahead (bsets ops.toList []) i e = false →
      again P X (tseq ops.toList ns t0 i) o v (if e < i then sseq ns σ0 e else sseq ns σ0 (e + 1)) = true := by
    intro e a b c he h1 h2
    have g := okEff_at (okEffs_at H.effs e a b c he) i o _ hi hn
    simp only [Nat.zero_add] at g
    obtain ⟨s1, s2⟩ := H.state he
    rcases g with g | g | g | g
    · subst g; rw [hn] at he; simp at he
    · rw [h1] at g; simp at g
    · rw [h2] at g; simp at g
    · split
      · rename_i hlt
        have : Nat.blt e i = true := Nat.ble_eq_true_of_le hlt
        rw [this] at g
        rw [← s1]; exact g
      · rename_i hlt
        have : Nat.blt e i = false := by
          cases hb : Nat.blt e i with
          | false => rfl
          | true => exact absurd (blt_t hb) hlt
        rw [this] at g
        rw [s2]; exact g
  -- is there an effect ahead of i that is not done?
  by_cases hA : ∃ e, e < i ∧ isEff ns e ∧ D e = false
  · -- the least one
    have least : ∃ e, e < i ∧ isEff ns e ∧ D e = false ∧ ∀ f, f < e → isEff ns f → D f = true := by
      obtain ⟨e, h1, h2, h3⟩ := hA
      induction e using Nat.strongRecOn with
      | _ e ih =>
        by_cases hf : ∃ f, f < e ∧ isEff ns f ∧ D f = false
        · obtain ⟨f, f1, f2, f3⟩ := hf
          exact ih f f1 (by omega) f2 f3
        · refine ⟨e, h1, h2, h3, fun f g1 g2 => ?_⟩
          cases hfd : D f with
          | true => rfl
          | false => exact absurd ⟨f, g1, g2, hfd⟩ hf
    obtain ⟨e, e1, e2, e3, e4⟩ := least
    have after : ∀ j, e < j → isEff ns j → D j = false := by
      intro j hj hje
      cases hd : D j with
      | false => rfl
      | true =>
        have := hr.closed.ahead j hd (H.eff_order e2 hje hj)
        rw [e3] at this
        exact absurd this (by simp)
    have hsd : SD ns σ0 D ops.toList.length = sseq ns σ0 e := by
      rw [SD_upto (k := e) (by omega) fun j a _ c => by
        rcases Nat.eq_or_lt_of_le a with q | q
        · rw [← q]; exact e3
        · exact after j q c]
      exact SD_seq (by rw [H.len]; omega) e4
    rw [hsd]
    obtain ⟨a, b, c, he⟩ := e2
    have h1 : ahead (bsets ops.toList []) e i = false := by
      cases hh : ahead (bsets ops.toList []) e i with
      | false => rfl
      | true => have := hr.before (by omega) hh; rw [e3] at this; exact absurd this (by simp)
    have h2 : ahead (bsets ops.toList []) i e = false := by
      cases hh : ahead (bsets ops.toList []) i e with
      | false => rfl
      | true => have := ahead_lt H.ok hh; omega
    have := chk e a b c he h1 h2
    rw [if_pos e1] at this
    exact again_eq this h0
  · have before : ∀ j, j < i → isEff ns j → D j = true := by
      intro j hj hje
      cases hd : D j with
      | true => rfl
      | false => exact absurd ⟨j, hj, hje, hd⟩ hA
    by_cases hB : ∃ e, i < e ∧ e < ops.toList.length ∧ isEff ns e ∧ D e = true
    · -- the last one
      have last : ∃ e, i < e ∧ e < ops.toList.length ∧ isEff ns e ∧ D e = true ∧ ∀ f, e < f → f < ops.toList.length → isEff ns f → D f = false := by
        obtain ⟨e, h1, h2, h3, h4⟩ := hB
        obtain ⟨m, hm⟩ : ∃ m, m = ops.toList.length - e := ⟨_, rfl⟩
        induction m using Nat.strongRecOn generalizing e with
        | _ m ih =>
          by_cases hf : ∃ f, e < f ∧ f < ops.toList.length ∧ isEff ns f ∧ D f = true
          · obtain ⟨f, f1, f2, f3, f4⟩ := hf
            exact ih (ops.toList.length - f) (by omega) f (by omega) f2 f3 f4 rfl
          · refine ⟨e, h1, h2, h3, h4, fun f g1 g2 g3 => ?_⟩
            cases hfd : D f with
            | false => rfl
            | true => exact absurd ⟨f, g1, g2, g3, hfd⟩ hf
      obtain ⟨e, e1, e2, e3, e4, e5⟩ := last
      have upto : ∀ j, j < e + 1 → isEff ns j → D j = true := by
        intro j hj hje
        rcases Nat.eq_or_lt_of_le (Nat.le_of_lt_succ hj) with q | q
        · rw [q]; exact e4
        · exact hr.closed.ahead e e4 (H.eff_order hje e3 q)
      have hsd : SD ns σ0 D ops.toList.length = sseq ns σ0 (e + 1) := by
        rw [SD_upto (k := e + 1) (by omega) fun j a b c => e5 j (by omega) b c]
        exact SD_seq (by rw [H.len]; omega) upto
      rw [hsd]
      obtain ⟨a, b, c, he⟩ := e3
      have h1 : ahead (bsets ops.toList []) e i = false := by
        cases hh : ahead (bsets ops.toList []) e i with
        | false => rfl
        | true => have := ahead_lt H.ok hh; omega
      have h2 : ahead (bsets ops.toList []) i e = false := by
        cases hh : ahead (bsets ops.toList []) i e with
        | false => rfl
        | true => have := hr.behind hh; rw [e4] at this; exact absurd this (by simp)
      have := chk e a b c he h1 h2
      rw [if_neg (by omega)] at this
      exact again_eq this h0
    · have hsd : SD ns σ0 D ops.toList.length = sseq ns σ0 i := by
        rw [SD_upto (k := i) (by omega) fun j a b c => by
          rcases Nat.eq_or_lt_of_le a with q | q
          · rw [← q]; exact hr.notIn
          · cases hd : D j with
            | false => rfl
            | true => exact absurd ⟨j, q, b, c, hd⟩ hB]
        exact SD_seq (by rw [H.len]; omega) before
      rw [hsd]
      exact h0

theorem Drawn.hlast (H : Drawn P X call nt ops ns t0 σ0) {D : Nat → Bool} {i : Nat} {o : Oper} (hi : ops.toList[i]? = some o) (hr : Ready ops.toList D i) :
    ∀ j p d, i < j → ops.toList[j]? = some p → o.dst = some d → p.dst = some d → D j = false := by
  intro j p d hj hp hd hpd
  rcases H.apart_or hi hp hj with a | a
  · exact hr.behind a
  · exact absurd hpd ((Oper.apart_spec a).2.1 d hd)

/-- what holds when the operations of D have been done -/
structure Inv (w0 : World) (S : Own) (nt : Nat) (ops : Array Oper) (ns : List Ent) (t0 : Tm) (σ0 : AW) (s : St) (ρ : Rho) (D : Nat → Bool) (a : Act) (w : World) : Prop where
  closed : Closed ops.toList D
  rel : ∃ ρ', ρ.le ρ' ∧ R w0 S (SD ns σ0 D ops.toList.length) ρ' w ∧ TRel ρ' nt (TD ops.toList ns t0 D ops.toList.length) a.tmps ∧ DsRel ρ' s.defers a.defers

theorem Drawn.one (H : Drawn P X call nt ops ns t0 σ0) (hc : CallsOk P w0 S call) (hX : FactsOk P X S) {s : St} {ρ : Rho} {D : Nat → Bool} {a : Act} {w : World} (hI : Inv w0 S nt ops ns t0 σ0 s ρ D a w) {i : Nat} (hil : i < ops.toList.length)
    (hr : Ready ops.toList D i) {K : Act → World → Prop} {Q : Exit → Act → World → Prop} (hK : ∀ a w, Inv w0 S nt ops ns t0 σ0 s ρ (addD D i) a w → K a w) : wpOp P ops Q i K a w := by
  have hi : ops.toList[i]? = some ops.toList[i] := List.getElem?_eq_getElem hil
  generalize ops.toList[i] = o at hi
  have hi' : ops[i]? = some o := by rw [← Array.getElem?_toList]; exact hi
  obtain ⟨n, hn, hs⟩ := H.step i o hi
  obtain ⟨_, ρ', hle, hR, hT, hD⟩ := hI
  have hok : okOp nt o = true := by
    have := H.all
    rw [List.all_eq_true] at this
    exact this o (List.mem_of_getElem? hi)
  have hdst := okOp_dst hok
  have hwant : ∀ b, wantedA ops (tseq ops.toList ns t0 i) o = some b → Region.wanted o (yielded ops a.tmps) = b := fun b hb => wanted_eq hT H.all ((H.wanted hi hr).trans hb)
  have hev : ∀ x ∈ o.op.operands, VRel ρ' (ev (tseq ops.toList ns t0 i) x) (a.eval x) := by
    intro x hx
    rw [← H.evs hi hr hx]
    exact ev_rels hT hok x hx
  -- the slots behind it
  have slots : ∀ {ρ2 : Rho} {v' : Value}, ρ'.le ρ2 → VRel ρ2 n.value v' → TRel ρ2 nt (TD ops.toList ns t0 (addD D i) ops.toList.length) (a.put o.dst v').tmps := by
    intro ρ2 v' hle2 hv
    have h1 := put_rel (hT.mono hle2) hdst hv
    refine ⟨h1.size, fun x hx => ?_⟩
    rw [TD_add H.all hi hn (H.hlast hi hr) hil]
    exact h1.at_ x hx
  have mk : ∀ {ρ2 : Rho} {v' : Value} {w' : World}, ρ'.le ρ2 → VRel ρ2 n.value v' → R w0 S (SD ns σ0 (addD D i) ops.toList.length) ρ2 w' → K (a.put o.dst v') w' := by
    intro ρ2 v' w' hle2 hv hR2
    exact hK _ _ ⟨hr.closed', ρ2, Rho.le_trans hle hle2, hR2, slots hle2 hv, by rw [put_defers]; exact hD.mono hle2⟩
  unfold wpOp
  rw [hi']
  simp only
  cases n with
  | skip =>
    rw [hwant false hs]
    simp only [Bool.false_eq_true, if_false]
    refine mk ρ'.le_refl (undef_rel _) ?_
    rw [SD_congr (D' := D) fun j hj he => by
      unfold addD
      split
      · rename_i e; subst e; obtain ⟨x, y, z, h⟩ := he; rw [hn] at h; simp at h
      · rfl]
    exact hR
  | val v =>
    obtain ⟨hw1, _⟩ := hs
    rw [hwant true hw1]
    simp only [if_true]
    refine .inl ?_
    unfold Oper.wp
    have hsd := H.sd_val hi hn hr
    have hout := aop_sound hR hX hsd (e' := a.eval) hev
    generalize (execOp a.eval o).run P w = res at hout
    cases hout with
    | val hle2 hv hR2 =>
      refine mk hle2 hv ?_
      rw [SD_congr (D' := D) fun j hj he => by
        unfold addD
        split
        · rename_i e; subst e; obtain ⟨x, y, z, h⟩ := he; rw [hn] at h; simp at h
        · rfl]
      exact hR2
  | eff σ1 v σ2 =>
    obtain ⟨rfl, hw1, hop⟩ := hs
    rw [hwant true hw1]
    simp only [if_true]
    refine .inl ?_
    unfold Oper.wp
    obtain ⟨hsd1, hsd2⟩ := H.sd_eff ⟨_, _, _, hn⟩ hr hil
    have hsd2 := hsd2 σ2 ⟨_, _, hn⟩
    rw [hsd1] at hR
    rcases hop with hop | ⟨f, args, hop, hcall⟩
    · have hout := aop_sound hR hX hop (e' := a.eval) hev
      generalize (execOp a.eval o).run P w = res at hout
      cases hout with
      | eff hle2 hv hR2 => exact mk hle2 hv (by rw [hsd2]; exact hR2)
      | skip hle2 hR2 => exact mk hle2 (undef_rel _) (by rw [hsd2]; exact hR2)
    · have hout := aop_sound hR hX hop (e' := a.eval) hev
      generalize (execOp a.eval o).run P w = res at hout
      cases hout with
      | call ha hR2 =>
        refine Calls.mono (hc _ _ _ _ _ hcall _ _ _ ha hR2) ?_
        rintro e w' ⟨ρ2, hle2, he, hR3⟩
        cases e with
        | returned v' => exact mk hle2 he (by rw [hsd2]; exact hR3)
        | panicked ch => exact he.elim
        | outgrown => exact he.elim

def ofArr (listed : Array Bool) : Nat → Bool := fun i => listed.getD i false

theorem mem_ready {listed : Array Bool} (hsz : listed.size = ops.size) {i : Nat} (h : i ∈ Region.ready .any ops listed) : i < ops.toList.length ∧ ofArr listed i = false ∧
    ∀ o, ops.toList[i]? = some o → ∀ e ∈ o.after.toList, binds e = true → ofArr listed e.on = true := by
  unfold Region.ready at h
  rw [List.mem_filter, List.mem_range] at h
  obtain ⟨hi, h⟩ := h
  simp only [Bool.and_eq_true, Bool.not_eq_true'] at h
  have hil : i < listed.size := by omega
  refine ⟨by simpa using hi, ?_, fun o ho e he hb => ?_⟩
  · have := h.1
    rw [Array.getD_eq_getD_getElem?, Array.getElem?_eq_getElem hil] at this
    unfold ofArr
    rw [Array.getD_eq_getD_getElem?, Array.getElem?_eq_getElem hil]
    exact this
  · rw [Array.getElem?_toList] at ho
    have h2 := h.2
    rw [ho] at h2
    simp only [Option.map_some, Option.getD_some, Array.all_eq_true] at h2
    obtain ⟨k, hk, rfl⟩ := List.getElem_of_mem he
    have := h2 k (by simpa using hk)
    simp only [Array.getElem_toList] at hb ⊢
    unfold binds at hb
    rw [hb] at this
    simpa [ofArr] using this

theorem none_ready (hok : okRegion ops (bsets ops.toList []) ops.toList 0 = true) {listed : Array Bool} (hsz : listed.size = ops.size) (h : Region.ready .any ops listed = []) : ∀ i, i < ops.toList.length → ofArr listed i = true := by
  intro i
  induction i using Nat.strongRecOn with
  | _ i ih =>
    intro hil
    cases hd : ofArr listed i with
    | true => rfl
    | false =>
      exfalso
      have his : i < ops.size := by simpa using hil
      have : i ∈ Region.ready .any ops listed := by
        unfold Region.ready
        rw [List.mem_filter, List.mem_range]
        refine ⟨his, ?_⟩
        simp only [Bool.and_eq_true, Bool.not_eq_true']
        constructor
        · unfold ofArr at hd
          rw [Array.getD_eq_getD_getElem?, Array.getElem?_eq_getElem (by omega)] at hd ⊢
          exact hd
        · rw [Array.getElem?_eq_getElem his]
          simp only [Option.map_some, Option.getD_some, Array.all_eq_true]
          intro k hk
          cases hb : Region.binds .any (ops[i].after[k]) with
          | false => rfl
          | true =>
            have hed := (okRegion_at hok i _ (List.getElem?_eq_getElem hil)).1
            simp only [okEdges, List.all_eq_true] at hed
            have hm : ops[i].after[k] ∈ (ops.toList[i]).after.toList := by
              rw [Array.mem_toList_iff]
              simp
            have h1 := hed _ hm
            have hb' : binds (ops[i].after[k]) = true := hb
            rw [hb'] at h1
            have hlt : (ops[i].after[k]).on < 0 + i := blt_t (by simpa using h1)
            have h2 := ih (ops[i].after[k]).on (by omega) (by omega)
            simpa [ofArr] using h2
      rw [h] at this
      simp at this

def undone (listed : Array Bool) : Nat := (listed.toList.filter (!·)).length

theorem undone_set {listed : Array Bool} {i : Nat} (hi : i < listed.size) (h : ofArr listed i = false) : undone (listed.setIfInBounds i true) + 1 = undone listed := by
  unfold undone ofArr at *
  rw [Array.toList_setIfInBounds]
  have hl : i < listed.toList.length := by simpa using hi
  have hv : listed.toList[i] = false := by
    rw [Array.getD_eq_getD_getElem?, Array.getElem?_eq_getElem hi] at h
    simpa using h
  generalize listed.toList = l at hl hv
  clear h hi
  induction l generalizing i with
  | nil => simp at hl
  | cons x l ih =>
    cases i with
    | zero =>
      simp at hv
      subst hv
      simp
    | succ i =>
      have := ih (i := i) (by simpa using hl) (by simpa using hv)
      simp only [List.set_cons_succ, List.filter_cons]
      split
      · simp only [List.length_cons]; omega
      · exact this

theorem ofArr_set {listed : Array Bool} {i : Nat} (hi : i < listed.size) : ofArr (listed.setIfInBounds i true) = addD (ofArr listed) i := by
  funext j
  unfold ofArr addD
  rw [Array.getD_eq_getD_getElem?, Array.getElem?_setIfInBounds]
  by_cases e : i = j
  · subst e
    simp [hi]
  · rw [if_neg e, if_neg (Ne.symm e)]
    exact (Array.getD_eq_getD_getElem? ..).symm

theorem Drawn.any (H : Drawn P X call nt ops ns t0 σ0) (hc : CallsOk P w0 S call) (hX : FactsOk P X S) {s : St} {ρ : Rho} {Q : Exit → Act → World → Prop}
    (hQ : ∀ D a w, Inv w0 S nt ops ns t0 σ0 s ρ D a w → (∀ i, i < ops.toList.length → D i = true) → Q .normal a w) :
    ∀ (fuel : Nat) (listed : Array Bool) (a : Act) (w : World), listed.size = ops.size → undone listed = fuel → Inv w0 S nt ops ns t0 σ0 s ρ (ofArr listed) a w → wpAny P .any ops Q fuel listed a w := by
  intro fuel
  induction fuel with
  | zero =>
    intro listed a w hsz hu hI
    have all : ∀ i, i < ops.toList.length → ofArr listed i = true := by
      intro i hi
      cases hd : ofArr listed i with
      | true => rfl
      | false =>
        have := undone_set (listed := listed) (i := i) (by rw [hsz]; simpa using hi) hd
        omega
    refine ⟨?_, hQ _ _ _ hI all⟩
    cases hr : Region.ready .any ops listed with
    | nil => rfl
    | cons i l =>
      obtain ⟨h1, h2, _⟩ := mem_ready hsz (i := i) (by rw [hr]; simp)
      rw [all i h1] at h2
      simp at h2
  | succ fuel ih =>
    intro listed a w hsz hu hI
    refine ⟨fun h => hQ _ _ _ hI (none_ready H.ok hsz h), fun i hi => ?_⟩
    obtain ⟨h1, h2, h3⟩ := mem_ready hsz hi
    have hil : i < listed.size := by rw [hsz]; simpa using h1
    refine H.one hc hX hI h1 ⟨hI.closed, h2, h3⟩ fun a' w' hI' => ?_
    refine ih (listed.setIfInBounds i true) a' w' (by simpa using hsz) (by have := undone_set hil h2; omega) ?_
    rw [ofArr_set hil]
    exact hI'

theorem drawn_sound (hc : CallsOk P w0 S call) (hX : FactsOk P X S) {d : Bool} {cs0 : List Frame} {id : Nat} (hops : ops.toList.all (okOp nt) = true) {s s' : St} {x : AExit} (h : drawn P X call ops s = .ok (x, s')) {ρ : Rho} {a : Act} {cs : List Frame} {w : World}
    (hs : SRel w0 S d nt cs0 ρ s a cs w) : W P d (.region id ops true) (Post w0 S d nt cs0 ρ x s') a cs w := by
  unfold drawn at h
  split at h
  · rename_i hb
    simp only [Bool.and_eq_true] at hb
    split at h
    · rename_i ns t σ hrun
      split at h
      · rename_i hch
        simp only [Res.ok.injEq, Prod.mk.injEq] at h
        obtain ⟨rfl, rfl⟩ := h
        obtain ⟨h1, h2, h3, h4⟩ := runDraw_spec hrun
        have H : Drawn P X call nt ops ns s.tmps s.σ := ⟨hb.1, hops, h1, h4, hch⟩
        refine W.of_wp (wp_region_any hb.2 ?_)
        refine H.any hc hX (s := s) (ρ := ρ) ?_ _ _ _ _ (by simp) (by
            unfold undone
            rw [Array.toList_replicate, List.filter_replicate]
            simp) ?_
        · intro D a' w' hI hall
          obtain ⟨_, ρ', hle, hR, hT, hD⟩ := hI
          have e1 : SD ns s.σ D ops.toList.length = σ := by
            rw [← h3]
            exact SD_seq (by omega) fun j hj _ => hall j hj
          have e2 : ∀ i, i < nt → (TD ops.toList ns s.tmps D ops.toList.length).get i = t.get i := by
            intro i hi
            have g := TD_seq h1 (t := s.tmps) (i := ops.toList.length) (k := ops.toList.length) (Nat.le_refl _)
            rw [Nat.min_self, h2] at g
            rw [← g]
            refine TD_congr hops fun j o hj _ _ => ?_
            rw [hall j hj]
            exact (decide_eq_true hj).symm
          rw [e1] at hR
          refine ⟨ρ', hle, trivial, ⟨hT.size, fun i hi => ?_⟩, hD, hs.cs.mono hle, hR⟩
          have := hT.at_ i hi
          rw [e2 i hi] at this
          exact this
        · have hempty : ofArr (Array.replicate ops.size false) = fun _ => false := by
            funext j
            unfold ofArr
            rw [Array.getD_eq_getD_getElem?, Array.getElem?_replicate]
            split <;> rfl
          rw [hempty]
          have e1 : SD ns s.σ (fun _ => false) ops.toList.length = s.σ := SD_upto (k := 0) (by omega) fun j _ _ _ => rfl
          have e2 : ∀ k, TD ops.toList ns s.tmps (fun _ => false) k = s.tmps := by
            intro k
            induction k with
            | zero => rfl
            | succ k ih => simp only [TD]; exact ih
          refine ⟨fun j o hj => by simp at hj, ρ, ρ.le_refl, ?_, ?_, hs.ds⟩
          · rw [e1]; exact hs.r.drew
          · rw [e2]; exact hs.t
      · exact absurd h (by simp)
    · exact absurd h (by simp)
  · exact absurd h (by simp)

end
end Am
end Go

/- The abstract machine's runs and the model's: calls. -/
set_option linter.unusedVariables false
set_option linter.unusedSimpArgs false
namespace Go
namespace Am
section
variable {P : Program} {w0 : World} {S : Own}

theorem fill_get : ∀ (l : List Value) (i j : Nat), (Tm.fill l i).get j = if i ≤ j ∧ j < i + l.length then l.getD (j - i) undef else undef
  | [], i, j => by
    rw [if_neg (by simp)]
    rfl
  | v :: l, i, j => by
    simp only [Tm.fill]
    by_cases h2 : j = i
    · subst h2
      rw [Tm.put_same, if_pos (by simp)]
      simp
    · rw [Tm.put_other _ _ (Ne.symm h2), fill_get l (i + 1) j]
      by_cases h1 : i + 1 ≤ j ∧ j < i + 1 + l.length
      · rw [if_pos h1, if_pos (by simp; omega), show j - i = (j - (i + 1)) + 1 by omega]
        simp
      · rw [if_neg h1, if_neg (by simp; omega)]

theorem start_rel {ρ : Rho} {nt : Nat} {args args' : Array Value} (ha : ARel ρ args args') (hsz : args.size ≤ nt) :
    TRel ρ nt (Tm.fill args.toList 0) (args' ++ Array.replicate (nt - args'.size) undef) := by
  have hs := ha.1
  refine ⟨by simp; omega, fun i hi => ?_⟩
  rw [fill_get, Array.getD_eq_getD_getElem?]
  by_cases h : i < args.size
  · rw [if_pos (by simp; exact h)]
    rw [Array.getElem?_append_left (by omega), Array.getElem?_eq_getElem (by omega)]
    rw [List.getD_eq_getElem?_getD]
    simp only [Nat.sub_zero, Array.getElem?_toList, Array.getElem?_eq_getElem h, Option.getD_some]
    exact ha.2 i _ _ (Array.getElem?_eq_getElem h) (Array.getElem?_eq_getElem (by omega))
  · rw [if_neg (by simp; omega)]
    rw [Array.getElem?_append_right (by omega), Array.getElem?_replicate]
    split <;> exact undef_rel ρ

/- results -/
def resFn (tmps : Array Value) : ResultVar → Sem Value
  | .tmp t => pure (tmps.getD t undef)
  | .cell a t => do loadVar t (← asAddr (tmps.getD a undef))

theorem results_eq (fn : Func) (tmps : Array Value) : results fn tmps = (do let vs ← fn.results.mapM (resFn tmps); pure (if h : vs.size = 1 then vs[0] else .tuple vs)) := by
  unfold results
  congr 1

theorem results_list {ρ : Rho} {nt : Nat} {t : Tm} {σ : AW} {w : World} {tmps : Array Value} (hT : TRel ρ nt t tmps) (hR : R w0 S σ ρ w) : ∀ {l : List ResultVar} {vs : List Value}, resultsA P nt t σ l = some vs →
    ∃ vs', (l.mapM (m := Sem) (resFn tmps)).run P w = .ok vs' w ∧ LRel ρ vs vs'
  | [], vs, h => by
    simp only [resultsA, Option.some.injEq] at h
    subst h
    exact ⟨[], by simp, .nil⟩
  | .tmp d :: l, vs, h => by
    unfold resultsA at h
    split at h
    · rename_i vs1 hd hl
      cases h
      obtain ⟨vs', h1, h2⟩ := results_list hT hR hl
      refine ⟨tmps.getD d undef :: vs', ?_, .cons (hT.at_ d (blt_t hd)) h2⟩
      simp only [List.mapM_cons, resFn, Sem.run_bind, Sem.run_pure, Result.andThen_ok, h1]
    · exact absurd h (by simp)
  | .cell a ty :: l, vs, h => by
    unfold resultsA at h
    split at h
    · rename_i v vs1 hd hv hl
      cases h
      obtain ⟨vs', h1, h2⟩ := results_list hT hR hl
      have hrel := hT.at_ a (blt_t hd)
      obtain ⟨v', hrun, hvr⟩ := ok_load (P := P) hR hv hrel
      refine ⟨v' :: vs', ?_, .cons hvr h2⟩
      have : (do loadVar ty (← asAddr (tmps.getD a undef)) : Sem Value).run P w = .ok v' w := by
        rw [← hrun]
        generalize tmps.getD a undef = q at hrel
        have hp : ∃ b, q = .pointer (some b) := by
          unfold loadA at hv
          split at hv
          · rename_i he
            simp only [ev] at he
            rw [he] at hrel
            cases hrel
            exact ⟨_, rfl⟩
          · exact absurd hv (by simp)
        obtain ⟨b, rfl⟩ := hp
        simp [asAddr, Instr.loadAt, Instr.sureAddr]
      simp only [List.mapM_cons, resFn, Sem.run_bind, Sem.run_pure] at this ⊢
      rw [this]
      simp only [Result.andThen_ok, h1]
    · exact absurd h (by simp)

theorem results_sound {ρ : Rho} {fn : Func} {t : Tm} {σ : AW} {w : World} {tmps : Array Value} (hT : TRel ρ fn.ntmps t tmps) (hR : R w0 S σ ρ w) {vs : List Value} (h : resultsA P fn.ntmps t σ fn.results.toList = some vs) :
    ∃ v', (results fn tmps).run P w = .ok v' w ∧ VRel ρ (oneOf vs) v' := by
  obtain ⟨vs', h1, h2⟩ := results_list (P := P) hT hR h
  refine ⟨if h : vs'.toArray.size = 1 then vs'.toArray[0] else .tuple vs'.toArray, ?_, ?_⟩
  · rw [results_eq, Array.mapM_eq_mapM_toList]
    simp only [Sem.run_bind, Sem.run_map, h1, Result.andThen_ok, Sem.run_pure]
  · have hlen := h2.1
    match vs, vs', h2 with
    | [], [], _ => exact plain_rel ρ rfl
    | [v], [v'], h2 =>
      have := h2.2 0 v v' rfl rfl
      simpa [oneOf] using this
    | v :: u :: l, v' :: u' :: l', h2 =>
      have := h2.toA
      simp only [oneOf]
      rw [dif_neg (by simp)]
      exact .tuple this.1 this.2

/- modes -/
theorem ChRel.of_cons {ρ : Rho} {x : PanicEntry} {l m : List PanicEntry} (h : ChRel ρ (x :: l) m) : ∃ y m', m = y :: m' ∧ VRel ρ x.v y.v ∧ x.recovered = y.recovered ∧ x.goexit = y.goexit ∧ ChRel ρ l m' := by
  cases m with
  | nil => have := h.1; simp at this
  | cons y m' =>
    obtain ⟨a, b, c⟩ := h.2 0 x y rfl rfl
    exact ⟨y, m', rfl, a, b, c, by have := h.1; simpa using this, fun i u v p q => h.2 (i + 1) u v (by simpa using p) (by simpa using q)⟩

theorem drop_rel {ρ : Rho} : ∀ {l m : List PanicEntry}, ChRel ρ l m → ChRel ρ (l.dropWhile (!·.goexit)) (m.dropWhile (!·.goexit))
  | [], m, h => by
    have : m = [] := List.eq_nil_of_length_eq_zero h.1.symm
    subst this
    exact h
  | x :: l, m, h => by
    obtain ⟨y, m', rfl, a, b, c, d⟩ := h.of_cons
    simp only [List.dropWhile_cons, c]
    split
    · exact drop_rel d
    · exact h

theorem settle_rel {ρ : Rho} {u u' : FrameMode} (h : MoRel ρ u u') : MoRel ρ (settle u) (settle u') := by
  cases u with
  | run => cases u' <;> first | exact h | exact h.elim
  | returning => cases u' <;> first | exact h | exact h.elim
  | panicking l =>
    cases u' with
    | run => exact h.elim
    | returning => exact h.elim
    | panicking m =>
      cases l with
      | nil =>
        have : m = [] := List.eq_nil_of_length_eq_zero h.1.symm
        subst this
        exact h
      | cons x l =>
        obtain ⟨y, m', rfl, a, b, c, d⟩ := ChRel.of_cons h
        obtain ⟨xv, xr, xg⟩ := x
        obtain ⟨yv, yr, yg⟩ := y
        simp only at b c
        subst b; subst c
        cases xr with
        | false => exact h
        | true =>
          have hd := drop_rel d
          simp only [settle]
          cases hl : l.dropWhile (!·.goexit) with
          | nil =>
            rw [hl] at hd
            have : m'.dropWhile (!·.goexit) = [] := List.eq_nil_of_length_eq_zero hd.1.symm
            rw [this]
            trivial
          | cons z zs =>
            rw [hl] at hd
            obtain ⟨y2, m2, e, _⟩ := ChRel.of_cons hd
            rw [e] at hd ⊢
            exact hd

def ExtOk (P : Program) (w0 : World) (S : Own) (Y : Ext) : Prop :=
  ∀ f args σ e σ', Y f args σ = some (e, σ') → ∀ ρ w args', ARel ρ args args' → R w0 S σ ρ w →
    Calls P f args' w fun e' w' => ∃ ρ', ρ.le ρ' ∧ ERel ρ' e e' ∧ R w0 S σ' ρ' w'

theorem ExtOk.none (P : Program) (w0 : World) (S : Own) : ExtOk P w0 S Ext.none := fun _ _ _ _ _ h => by simp [Ext.none] at h

def BodyOk (P : Program) (w0 : World) (S : Own) (d : Bool) (exec : Nat → Code → St → Res (AExit × St)) : Prop :=
  ∀ nt c s x s', exec nt c s = .ok (x, s') → ∀ ρ a cs0 cs w, SRel w0 S d nt cs0 ρ s a cs w → W P d c (Post w0 S d nt cs0 ρ x s') a cs w

theorem leaves_mono {fn : Func} {tmps : Array Value} {Q Q' : Ending → World → Prop} (hq : ∀ e w, Q e w → Q' e w) : ∀ {ds : List Deferred} {u : FrameMode} {w : World}, Leaves P fn tmps Q ds u w → Leaves P fn tmps Q' ds u w
  | [], .returning, w, ⟨v, a, b⟩ => ⟨v, a, hq _ _ b⟩
  | [], .panicking _, w, h => hq _ _ h
  | [], .run, _, h => h
  | d :: ds, u, w, ⟨h1, fv, cap, f, args, h2, h3, h4⟩ => ⟨h1, fv, cap, f, args, h2, h3, CallsD.mono h4 fun e u' w' h => by
      cases e with
      | returned v => exact leaves_mono hq h
      | panicked ch => exact leaves_mono hq h
      | outgrown => exact hq _ _ h⟩

theorem leaves_sound {execD : Nat → Code → St → Res (AExit × St)} (hD : BodyOk P w0 S true execD) {fn : Func} {t : Tm} {tmps : Array Value} : ∀ (ds : List Deferred) (u : FrameMode) (σ : AW) (e : AEnd) (σ' : AW),
    leaves P execD fn t ds u σ = .ok (e, σ') → ∀ (ρ : Rho) (ds' : List Deferred) (u' : FrameMode) (w : World), TRel ρ fn.ntmps t tmps → DsRel ρ ds ds' → MoRel ρ u u' → R w0 S σ ρ w →
      Leaves P fn tmps (fun e' w' => ∃ ρ', ρ.le ρ' ∧ ERel ρ' e e' ∧ R w0 S σ' ρ' w') ds' u' w := by
  intro ds
  induction ds with
  | nil =>
    intro u σ e σ' h ρ ds' u' w hT hds hu hR
    cases ds' with
    | cons => exact hds.elim
    | nil =>
    cases u with
    | run => simp [leaves] at h
    | returning =>
      cases u' with
      | run => exact hu.elim
      | panicking => exact hu.elim
      | returning =>
        simp only [leaves] at h
        split at h
        · rename_i vs hvs
          simp only [Res.ok.injEq, Prod.mk.injEq] at h
          obtain ⟨rfl, rfl⟩ := h
          obtain ⟨v', h1, h2⟩ := results_sound hT hR hvs
          exact ⟨v', h1, ρ, ρ.le_refl, h2, hR⟩
        · exact absurd h (by simp)
    | panicking ch =>
      cases u' with
      | run => exact hu.elim
      | returning => exact hu.elim
      | panicking ch' =>
        simp only [leaves, Res.ok.injEq, Prod.mk.injEq] at h
        obtain ⟨rfl, rfl⟩ := h
        exact ⟨ρ, ρ.le_refl, hu, hR⟩
  | cons d ds ih =>
    intro u σ e σ' h ρ ds' u' w hT hds hu hR
    cases ds' with
    | nil => exact hds.elim
    | cons d' ds' =>
    obtain ⟨⟨f, c, c', x, x', rfl, rfl, hcc, hxx⟩, hds⟩ := hds
    unfold leaves at h
    simp only at h
    split at h
    · rename_i f1 captured hu1 htg
      cases htg
      split at h
      · rename_i fd hfd
        have hargs : ARel ρ (x ++ c) (x' ++ c') := ARel.append hxx hcc
        have hrun : u' ≠ .run := by
          intro e
          subst e
          cases u with
          | run => simp [isRun] at hu1
          | returning => exact hu.elim
          | panicking => exact hu.elim
        -- the deferred call's end
        have fin : ∀ (xx : AExit) (s : St), (xx = .normal ∨ xx = .ret) → body P execD fd (x ++ c) u σ = .ok (xx, s) → s.defers = [] → (∃ vs, resultsA P fd.ntmps s.tmps s.σ fd.results.toList = some vs) → (fd.name == "runtime.NumGoroutine") = false →
            leaves P execD fn t ds (settle s.mode) s.σ = .ok (e, σ') →
            Leaves P fn tmps (fun e' w' => ∃ ρ', ρ.le ρ' ∧ ERel ρ' e e' ∧ R w0 S σ' ρ' w') ({ target := .fn (.func f) c', args := x' } :: ds') u' w := by
          intro xx s hxx2 hb hsd hvs hname hl
          unfold body at hb
          split at hb
          · rename_i code hcode hsz
            have hasz := ble_t hsz
            have hname' : ¬ fd.name = "runtime.NumGoroutine" := by simpa using hname
            refine leaves_cons (f := f) (args := x' ++ c') hrun (by simp [invoke, callFunc, hfd, hname', hcode]) ?_
            refine callsD_of_wpS hfd hcode ?_
            intro c₀ cs hc0
            have hin : SRel w0 S true fd.ntmps (c₀ :: cs) ρ { tmps := Tm.fill (x ++ c).toList 0, defers := [], mode := u, σ := σ } { tmps := (x' ++ c') ++ Array.replicate (fd.ntmps - (x' ++ c').size) undef, defers := [] } (c₀ :: cs) w :=
              ⟨start_rel hargs hasz, trivial, ⟨c₀, cs, u', rfl, by subst hc0; rfl, hu⟩, hR⟩
            have hW := hD _ _ _ _ _ hb _ _ _ _ _ hin
            intro b k hb1 hb2
            obtain ⟨e1, a1, cs1, w1, hq, harr⟩ := hW b k hb1 hb2
            refine ⟨e1, a1, cs1, w1, ?_, harr⟩
            obtain ⟨ρ1, hle1, hx1, hT1, hds1, ⟨c0', rest, u1', e0, e0', hmo⟩, hR1⟩ := hq
            simp only [List.cons.injEq] at e0
            obtain ⟨rfl, rfl⟩ := e0
            obtain ⟨vs, hvs⟩ := hvs
            obtain ⟨v', hv1, hv2⟩ := results_sound hT1 hR1 hvs
            have hnext := ih (settle s.mode) s.σ e σ' hl ρ1 ds' (settle u1') w1 (hT.mono hle1) (hds.mono hle1) (settle_rel hmo) hR1
            have hdnil : a1.defers = [] := by
              rw [hsd] at hds1
              cases hq : a1.defers with
              | nil => rfl
              | cons z zs => rw [hq] at hds1; exact hds1.elim
            have hpost : a1.defers = [] ∧ ∃ u2, cs1 = { c₀ with mode := u2 } :: cs ∧ ∃ v, (results fd a1.tmps).run P w1 = .ok v w1 ∧ Leaves P fn tmps (fun e' w' => ∃ ρ', ρ.le ρ' ∧ ERel ρ' e e' ∧ R w0 S σ' ρ' w') ds' (settle u2) w1 := by
              refine ⟨hdnil, u1', e0', v', hv1, ?_⟩
              exact leaves_mono (fun e2 w2 ⟨r, q1, q2, q3⟩ => ⟨r, Rho.le_trans hle1 q1, q2, q3⟩) hnext
            rcases hxx2 with rfl | rfl
            · cases e1 <;> first | exact hpost | exact hx1.elim
            · cases e1 <;> first | exact hpost | exact hx1.elim
          · exact absurd hb (by simp)
        split at h
        · rename_i s hname hb
          split at h
          · rename_i vs hsd hvs
            exact fin _ s (.inl rfl) hb hsd ⟨_, hvs⟩ hname h
          · exact absurd h (by simp)
        · rename_i s hname hb
          split at h
          · rename_i vs hsd hvs
            exact fin _ s (.inr rfl) hb hsd ⟨_, hvs⟩ hname h
          · exact absurd h (by simp)
        · exact absurd h (by simp)
        · exact absurd h (by simp)
      · exact absurd h (by simp)
    · exact absurd h (by simp)

theorem call_sound {Y : Ext} (hY : ExtOk P w0 S Y) {exec execD : Nat → Code → St → Res (AExit × St)} (hN : BodyOk P w0 S false exec) (hD : BodyOk P w0 S true execD) : CallsOk P w0 S (callWith P Y exec execD) := by
  intro f args σ e σ' h ρ w args' ha hR
  unfold callWith at h
  split at h
  · rename_i r hr
    simp only [Res.ok.injEq] at h
    subst h
    exact hY _ _ _ _ _ hr ρ w args' ha hR
  split at h
  · rename_i fn hf
    have key : ∀ (x : AExit) (s : St) (u : FrameMode), body P exec fn args .run σ = .ok (x, s) → ((x = .normal ∨ x = .ret) ∧ u = .returning ∨ ∃ ch, x = .panic ch ∧ u = .panicking ch) →
        leaves P execD fn s.tmps s.defers u s.σ = .ok (e, σ') → Calls P f args' w fun e' w' => ∃ ρ', ρ.le ρ' ∧ ERel ρ' e e' ∧ R w0 S σ' ρ' w' := by
      intro x s u hb hxu hl cs
      unfold body at hb
      split at hb
      · rename_i code hcode hsz
        have hin : SRel w0 S false fn.ntmps cs ρ { tmps := Tm.fill args.toList 0, defers := [], mode := .run, σ := σ } { tmps := args' ++ Array.replicate (fn.ntmps - args'.size) undef, defers := [] } cs w :=
          ⟨start_rel ha (ble_t hsz), trivial, rfl, hR⟩
        have hW := hN _ _ _ _ _ hb _ _ _ _ _ hin
        let b : Frame := { (default : Frame) with fn := f, kind := .normal }
        have henter : Frame.enter P f args' .normal = b.at { tmps := args' ++ Array.replicate (fn.ntmps - args'.size) undef, defers := [] } [.code code] := by
          simp [Frame.enter, Frame.at, hf, hcode, b]
        obtain ⟨e1, a1, cs1, w1, hq, harr⟩ := hW b [] rfl rfl
        rw [← henter] at harr
        obtain ⟨ρ1, hle1, hx1, hT1, hds1, hcs1, hR1⟩ := hq
        have hcs1 : cs1 = cs := hcs1
        subst hcs1
        have fin : ∀ (u' : FrameMode) (todo : List Item), MoRel ρ1 u u' → Steps P (lone (Frame.enter P f args' .normal) cs1 w) (lone { b.at a1 todo with mode := u' } cs1 w1) →
            ∃ e' w' fr, (∃ ρ', ρ.le ρ' ∧ ERel ρ' e e' ∧ R w0 S σ' ρ' w') ∧ Comes P (lone (Frame.enter P f args' .normal) cs1 w) (lone fr cs1 w') e' ∧ fr.fn = f ∧ fr.leaving P w' e' := by
          intro u' todo hmo hst
          have hL := leaves_sound hD s.defers u s.σ e σ' hl ρ1 a1.defers u' w1 hT1 hds1 hmo hR1
          obtain ⟨e2, w2, fr2, hR2, hs2, hfn2, hl2⟩ := leaves_steps a1.defers u' w1 { b.at a1 todo with mode := u' } cs1 rfl rfl rfl hf rfl hL
          obtain ⟨ρ2, q1, q2, q3⟩ := hR2
          exact ⟨e2, w2, fr2, ⟨ρ2, Rho.le_trans hle1 q1, q2, q3⟩, Comes.of_steps hst hs2, hfn2, hl2⟩
        rcases hxu with ⟨hx, rfl⟩ | ⟨ch, rfl, rfl⟩
        · have hx2 : e1 = .normal ∨ e1 = .ret := by
            rcases hx with rfl | rfl <;> cases e1 <;> first | exact .inl rfl | exact .inr rfl | exact hx1.elim
          rcases hx2 with rfl | rfl
          · exact fin .returning [] trivial (Steps.trans harr (.one step_end))
          · obtain ⟨todo, hs⟩ := harr
            exact fin .returning todo trivial hs
        · cases e1 with
          | panic ch' =>
            obtain ⟨todo, hs⟩ := harr
            exact fin (.panicking ch') todo hx1 hs
          | _ => exact hx1.elim
      · exact absurd hb (by simp)
    split at h
    · rename_i s hb; exact key _ s .returning hb (.inl ⟨.inl rfl, rfl⟩) h
    · rename_i s hb; exact key _ s .returning hb (.inl ⟨.inr rfl, rfl⟩) h
    · rename_i ch s hb; exact key _ s (.panicking ch) hb (.inr ⟨ch, rfl, rfl⟩) h
    · exact absurd h (by simp)
    · exact absurd h (by simp)
  · exact absurd h (by simp)

theorem exec_sound [NoEx P S] {X : Facts} {Y : Ext} (hX : FactsOk P X S) (hY : ExtOk P w0 S Y) : ∀ (n : Nat) (d : Bool) (nt : Nat) (c : Code) (s : St) (x : AExit) (s' : St), exec P X Y n d nt c s = .ok (x, s') → ∀ ρ a cs0 cs w, SRel w0 S d nt cs0 ρ s a cs w →
    W P d c (Post w0 S d nt cs0 ρ x s') a cs w ∧ ∀ b, c = .loop b → WLoop P d b (Post w0 S d nt cs0 ρ x s') a cs w := by
  intro n
  induction n with
  | zero => intro d nt c s x s' h; simp [exec] at h
  | succ n ih =>
    intro d nt c s x s' h ρ a cs0 cs w hs
    have wp1 : ∀ {c0 : Code} {e : Exit}, (∀ {Q : Exit → Act → World → Prop}, Q e a w → c0.wp P Q a w) → ∀ {x0 : AExit}, XRel ρ x0 e → W P d c0 (Post w0 S d nt cs0 ρ x0 s) a cs w := by
      intro c0 e hw x0 hx
      exact W.of_wp (hw (hs.post hx))
    cases c with
    | skip =>
      simp only [exec, Res.ok.injEq, Prod.mk.injEq] at h
      obtain ⟨rfl, rfl⟩ := h
      exact ⟨wp1 (e := .normal) (fun h => wp_skip h) trivial, fun b e => by simp at e⟩
    | ret =>
      simp only [exec, Res.ok.injEq, Prod.mk.injEq] at h
      obtain ⟨rfl, rfl⟩ := h
      exact ⟨wp1 (e := .ret) (fun h => wp_ret h) trivial, fun b e => by simp at e⟩
    | exit id =>
      simp only [exec, Res.ok.injEq, Prod.mk.injEq] at h
      obtain ⟨rfl, rfl⟩ := h
      exact ⟨wp1 (e := .exit id) (fun h => wp_exit h) rfl, fun b e => by simp at e⟩
    | seq p q =>
      refine ⟨?_, fun b e => by simp at e⟩
      simp only [exec] at h
      cases hp : exec P X Y n d nt p s with
      | bad w => rw [hp] at h; simp at h
      | ok r =>
        obtain ⟨x1, s1⟩ := r
        rw [hp] at h
        have h1 := (ih _ _ _ _ _ _ hp _ _ _ _ _ hs).1
        refine W.seq (W.mono h1 ?_)
        rintro e a1 cs1 w1 ⟨ρ1, hle1, hx1, hT1, hds1, hcs1, hR1⟩
        cases x1 with
        | normal =>
          cases e with
          | normal =>
            simp only at h
            exact W.mono (ih _ _ _ _ _ _ h _ _ cs0 _ _ ⟨hT1, hds1, hcs1, hR1⟩).1 fun e a cs w p => Post.le hle1 p
          | _ => exact hx1.elim
        | exit i =>
          simp only [Res.ok.injEq, Prod.mk.injEq] at h
          obtain ⟨rfl, rfl⟩ := h
          cases e with
          | exit j => exact ⟨ρ1, hle1, hx1, hT1, hds1, hcs1, hR1⟩
          | _ => exact hx1.elim
        | ret =>
          simp only [Res.ok.injEq, Prod.mk.injEq] at h
          obtain ⟨rfl, rfl⟩ := h
          cases e with
          | ret => exact ⟨ρ1, hle1, hx1, hT1, hds1, hcs1, hR1⟩
          | _ => exact hx1.elim
        | panic ch =>
          simp only [Res.ok.injEq, Prod.mk.injEq] at h
          obtain ⟨rfl, rfl⟩ := h
          cases e with
          | panic ch' => exact ⟨ρ1, hle1, hx1, hT1, hds1, hcs1, hR1⟩
          | _ => exact hx1.elim
    | cond c p q =>
      refine ⟨?_, fun b e => by simp at e⟩
      simp only [exec] at h
      split at h
      · rename_i hok hc
        have hrel := ev_rel hs.t hok
        rw [hc] at hrel
        have hc' : a.eval c = .bool true := (plain_eq hrel rfl).symm
        exact W.cond hc' (ih _ _ _ _ _ _ h _ _ _ _ _ hs).1
      · rename_i hok hc
        have hrel := ev_rel hs.t hok
        rw [hc] at hrel
        have hc' : a.eval c = .bool false := (plain_eq hrel rfl).symm
        exact W.cond hc' (ih _ _ _ _ _ _ h _ _ _ _ _ hs).1
      · exact absurd h (by simp)
    | block id p =>
      refine ⟨?_, fun b e => by simp at e⟩
      simp only [exec] at h
      cases hp : exec P X Y n d nt p s with
      | bad w => rw [hp] at h; simp at h
      | ok r =>
        obtain ⟨x1, s1⟩ := r
        rw [hp] at h
        have h1 := (ih _ _ _ _ _ _ hp _ _ _ _ _ hs).1
        refine W.block (W.mono h1 ?_)
        rintro e a1 cs1 w1 ⟨ρ1, hle1, hx1, hT1, hds1, hcs1, hR1⟩
        cases x1 with
        | normal =>
          simp only [Res.ok.injEq, Prod.mk.injEq] at h
          obtain ⟨rfl, rfl⟩ := h
          cases e with
          | normal => exact ⟨ρ1, hle1, hx1, hT1, hds1, hcs1, hR1⟩
          | _ => exact hx1.elim
        | exit i =>
          simp only at h
          cases e with
          | exit j =>
            have hij : i = j := hx1
            subst hij
            unfold inBlockS
            simp only
            split at h
            · rename_i he
              simp only [Res.ok.injEq, Prod.mk.injEq] at h
              obtain ⟨rfl, rfl⟩ := h
              rw [if_pos he]
              exact ⟨ρ1, hle1, trivial, hT1, hds1, hcs1, hR1⟩
            · rename_i he
              simp only [Res.ok.injEq, Prod.mk.injEq] at h
              obtain ⟨rfl, rfl⟩ := h
              rw [if_neg he]
              exact ⟨ρ1, hle1, rfl, hT1, hds1, hcs1, hR1⟩
          | _ => exact hx1.elim
        | ret =>
          simp only [Res.ok.injEq, Prod.mk.injEq] at h
          obtain ⟨rfl, rfl⟩ := h
          cases e with
          | ret => exact ⟨ρ1, hle1, hx1, hT1, hds1, hcs1, hR1⟩
          | _ => exact hx1.elim
        | panic ch =>
          simp only [Res.ok.injEq, Prod.mk.injEq] at h
          obtain ⟨rfl, rfl⟩ := h
          cases e with
          | panic ch' => exact ⟨ρ1, hle1, hx1, hT1, hds1, hcs1, hR1⟩
          | _ => exact hx1.elim
    | loop p =>
      have main : WLoop P d p (Post w0 S d nt cs0 ρ x s') a cs w := by
        simp only [exec] at h
        cases hp : exec P X Y n d nt p s with
        | bad w => rw [hp] at h; simp at h
        | ok r =>
          obtain ⟨x1, s1⟩ := r
          rw [hp] at h
          have h1 := (ih _ _ _ _ _ _ hp _ _ _ _ _ hs).1
          refine WLoop.round (W.mono h1 ?_)
          rintro e a1 cs1 w1 ⟨ρ1, hle1, hx1, hT1, hds1, hcs1, hR1⟩
          cases x1 with
          | normal =>
            cases e with
            | normal =>
              simp only at h
              have h2 := (ih _ _ _ _ _ _ h _ a1 cs0 cs1 w1 ⟨hT1, hds1, hcs1, hR1⟩).2 p rfl
              intro b k hb hr
              obtain ⟨e, a', cs', w', q, r⟩ := h2 b k hb hr
              exact ⟨e, a', cs', w', Post.le hle1 q, r⟩
            | _ => exact hx1.elim
          | exit i =>
            simp only [Res.ok.injEq, Prod.mk.injEq] at h
            obtain ⟨rfl, rfl⟩ := h
            cases e with
            | exit j => exact ⟨ρ1, hle1, hx1, hT1, hds1, hcs1, hR1⟩
            | _ => exact hx1.elim
          | ret =>
            simp only [Res.ok.injEq, Prod.mk.injEq] at h
            obtain ⟨rfl, rfl⟩ := h
            cases e with
            | ret => exact ⟨ρ1, hle1, hx1, hT1, hds1, hcs1, hR1⟩
            | _ => exact hx1.elim
          | panic ch =>
            simp only [Res.ok.injEq, Prod.mk.injEq] at h
            obtain ⟨rfl, rfl⟩ := h
            cases e with
            | panic ch' => exact ⟨ρ1, hle1, hx1, hT1, hds1, hcs1, hR1⟩
            | _ => exact hx1.elim
      exact ⟨W.loop main, fun b e => by cases e; exact main⟩
    | region id ops draw =>
      refine ⟨?_, fun b e => by simp at e⟩
      simp only [exec] at h
      have hcalls : CallsOk P w0 S (callWith P Y (exec P X Y n false) (exec P X Y n true)) :=
        call_sound hY (fun nt c s x s' h ρ a cs0 cs w hs => (ih _ _ _ _ _ _ h _ _ _ _ _ hs).1) (fun nt c s x s' h ρ a cs0 cs w hs => (ih _ _ _ _ _ _ h _ _ _ _ _ hs).1)
      split at h
      · rename_i hops
        split at h
        · cases d with
          | false =>
            have := ops_sound hcalls hX hops ops.toList 0 ops.toList.length rfl rfl s _ _ h _ _ _ _ hs
            refine W.of_wp (wp_region ?_)
            rw [← List.range_eq_range'] at this
            simpa using this
          | true =>
            have := opsS_sound hcalls hX hops ops.toList 0 ops.toList.length rfl rfl s _ _ h _ _ _ _ hs
            refine W.of_wpS (wpS_region ?_)
            rw [← List.range_eq_range'] at this
            simpa using this
        · exact drawn_sound hcalls hX hops h hs
      · exact absurd h (by simp)
    | _ => simp [exec] at h

/-- THE LAW: what the abstract machine comes to, the model comes to -/
theorem calls [NoEx P S] {X : Facts} {Y : Ext} (hX : FactsOk P X S) (hY : ExtOk P w0 S Y) {n : Nat} {f : FuncId} {args args' : Array Value} {σ σ' : AW} {e : AEnd} (h : call P X Y n f args σ = .ok (e, σ')) {ρ : Rho} {w : World} (ha : ARel ρ args args') (hR : R w0 S σ ρ w) :
    Calls P f args' w fun e' w' => ∃ ρ', ρ.le ρ' ∧ ERel ρ' e e' ∧ R w0 S σ' ρ' w' :=
  call_sound hY (fun _ _ _ _ _ h _ _ _ _ _ hs => (exec_sound hX hY n _ _ _ _ _ _ h _ _ _ _ _ hs).1) (fun _ _ _ _ _ h _ _ _ _ _ hs => (exec_sound hX hY n _ _ _ _ _ _ h _ _ _ _ _ hs).1) f args σ e σ' h ρ w args' ha hR

/-- the start from nothing -/
def ownC (w : World) (ex : TypeId → Prop) : Own := ⟨fun b => w.heap.size ≤ b, fun _ => none, fun _ _ => True, ex⟩
instance noExC (P : Program) (w : World) : NoEx P (ownC w fun _ => False) := ⟨fun _ _ _ _ h => h⟩

theorem startC (w : World) (ex : TypeId → Prop) : R w (ownC w ex) { objs := .leaf, next := 0 } (fun _ => none) w :=
    { base := Rho.le_refl _, spec := fun _ _ _ h => by simp at h, pins := fun _ _ _ h => by simp at h, pinInj := fun _ _ _ _ _ _ h => by simp at h, pinApart := fun _ _ _ _ _ _ h => by simp at h, os := rfl, tape := rfl, output := rfl, size := Nat.le_refl _, block := fun _ _ => rfl, own := fun _ h => h, dom := fun _ _ => rfl, lim := Nat.zero_le _
      obj := fun i o hi => absurd hi (Nat.not_lt_zero _), exact := fun i _ _ _ _ hi => absurd hi (Nat.not_lt_zero _), apart := fun i j oi oj Li Lj hi => absurd hi (Nat.not_lt_zero _) }

/-- of a call without arguments, from nothing, with contracts -/
theorem calls_closedY {w : World} {ex : TypeId → Prop} [NoEx P (ownC w ex)] {Y : Ext} (hY : ExtOk P w (ownC w ex) Y) {n : Nat} {f : FuncId} {v : Value} {σ' : AW} (h : call P .none Y n f #[] { objs := .leaf, next := 0 } = .ok (.returned v, σ')) (hv : plain v = true) :
    Calls P f #[] w fun e w' => e = .returned v ∧ RowKit.Below w.heap.size w w' := by
  refine (calls (FactsOk.none _ _) hY h (ρ := fun _ => none) (args' := #[]) ⟨rfl, fun i v v' x => by simp at x⟩ (startC w ex)).mono ?_
  rintro e w' ⟨ρ', _, he, hR'⟩
  cases e with
  | returned v' =>
    rw [plain_eq he hv]
    exact ⟨rfl, hR'.os, hR'.tape, hR'.output, hR'.size, fun k hk => hR'.block k (Nat.not_le.2 hk)⟩
  | panicked ch => exact he.elim
  | outgrown => exact he.elim

/-- of a call without arguments, from nothing -/
theorem calls_closed {n : Nat} {f : FuncId} {v : Value} {σ' : AW} (h : call P .none Ext.none n f #[] { objs := .leaf, next := 0 } = .ok (.returned v, σ')) (hv : plain v = true) (w : World) :
    Calls P f #[] w fun e w' => e = .returned v ∧ RowKit.Below w.heap.size w w' := calls_closedY (ex := fun _ => False) (ExtOk.none _ _ _) h hv

end
end Am
end Go
