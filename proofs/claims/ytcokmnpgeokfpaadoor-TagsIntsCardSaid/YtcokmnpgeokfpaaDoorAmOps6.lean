import Derived.Test.YtcokmnpgeokfpaaDoorAmOps5
/- The abstract machine's operations and the model's: rows, conversions, maps. -/
set_option linter.unusedVariables false
set_option linter.unusedSimpArgs false
namespace Go
namespace Am
section
variable {P : Program} {w0 : World} {S : Own} {σ : AW} {ρ : Rho} {w : World}

theorem madeRow_rel {z : Array Value} (h : ARel ρ z z) (n : Nat) (hz : 0 < z.size) : ARel ρ (madeRow z n) (madeRow z n) := by
  refine ⟨rfl, fun i v v' x y => ?_⟩
  rw [x] at y; cases y
  have hi : i < n := by
    have hs : (madeRow z n).size = n := by simp [madeRow]
    rcases Nat.lt_or_ge i n with g | g
    · exact g
    · rw [Array.getElem?_eq_none (by omega)] at x; exact absurd x (by simp)
  simp only [madeRow, Array.getElem?_map, Array.getElem?_range, if_pos hi, Option.map_some, Option.some.injEq] at x
  have hm : i % z.size < z.size := Nat.mod_lt _ hz
  rw [getElem!_pos z _ hm] at x
  exact h.2 (i % z.size) v v (by rw [Array.getElem?_eq_getElem hm, x]) (by rw [Array.getElem?_eq_getElem hm, x])

theorem LRel.ofA {a b : Array Value} (h : ARel ρ a b) : LRel ρ a.toList b.toList := h.toL

theorem toList_app_nil (r : Array Value) : (r.toList ++ []).toArray = r := by apply Array.ext'; simp

/-- a row whose bounds are known -/
theorem ok_row (hR : R w0 S σ ρ w) {a b : Array Value} {elem id len n : Nat} {σ' : AW} (h : newCells P σ a.toList elem = some (id, σ')) (hr : ARel ρ a b) (hle : len ≤ n) (hn : n ≤ 2 ^ 64) :
    ∃ ρ', ρ.le ρ' ∧ VRel ρ' (.slice (some ⟨id, 0, none⟩) len n) (.slice (some ⟨w.heap.size, 0, none⟩) len n) ∧ R w0 S σ' ρ' (w.alloc (.cells b elem)) := by
  obtain ⟨k, _, h1, h2⟩ := ok_new hR h hr.toL [] (0, 0) (.inl rfl) (fun _ => rfl)
  rw [toList_app_nil] at h2
  refine ⟨_, h1, ?_, h2⟩
  have := VRel.sliceX (ρ := ρ.put id ⟨w.heap.size, 0, (b.toList ++ []).length, k, none, none⟩) (id := id) (o := 0) (n := len) (c := n) (Rho.put_same _ _ _) hn hle
  exact this

theorem ok_var (hR : R w0 S σ ρ w) {a b : Array Value} {elem id : Nat} {σ' : AW} (h : newCells P σ a.toList elem = some (id, σ')) (hr : ARel ρ a b) :
    ∃ ρ', ρ.le ρ' ∧ VRel ρ' (.pointer (some ⟨id, 0, none⟩)) (.pointer (some ⟨w.heap.size, 0, none⟩)) ∧ R w0 S σ' ρ' (w.alloc (.cells b elem)) := by
  obtain ⟨k, _, h1, h2⟩ := ok_new hR h hr.toL [] (0, 0) (.inl rfl) (fun _ => rfl)
  rw [toList_app_nil] at h2
  refine ⟨_, h1, ?_, h2⟩
  have := VRel.ptr (ρ := ρ.put id ⟨w.heap.size, 0, (b.toList ++ []).length, k, none, none⟩) (id := id) (o := 0) (Rho.put_same _ _ _)
  exact this

theorem VRel.cellsA {v v' : Value} (h : VRel ρ v v') : ARel ρ v.cells v'.cells := by
  have := h.cells
  exact ⟨by simpa using this.1, fun i a b x y => this.2 i a b (by simpa using x) (by simpa using y)⟩

theorem bytesOf_eq : ∀ {l : List Value} {bs : List UInt8}, bytesOf l = some bs → ∃ ns : List Int, l = ns.map (Value.int .u8) ∧ bs = ns.map fun n => UInt8.ofNat n.toNat
  | [], bs, h => by simp [bytesOf] at h; exact ⟨[], rfl, h⟩
  | v :: l, bs, h => by
    unfold bytesOf at h
    split at h
    · rename_i e; cases e
    · rename_i n l' e
      cases e
      cases hb : bytesOf l with
      | none => rw [hb] at h; simp at h
      | some bs' =>
        rw [hb] at h
        simp only [Option.map_some, Option.some.injEq] at h
        obtain ⟨ns, e1, e2⟩ := bytesOf_eq hb
        exact ⟨n :: ns, by simp [e1], by rw [← h, e2]; rfl⟩
    · exact absurd h (by simp)

theorem LRel.ints {k : IntKind} : ∀ {ns : List Int} {m : List Value}, LRel ρ (ns.map (Value.int k)) m → m = ns.map (Value.int k)
  | [], m, h => List.eq_nil_of_length_eq_zero h.1.symm
  | n :: ns, m, h => by
    obtain ⟨b, m', rfl, h1, h2⟩ := LRel.of_cons h
    rw [h1.int_inv, LRel.ints h2]
    rfl

theorem heap_freeze_other (w : World) (a : Addr) (n b : Nat) (h : b ≠ a.block) : (w.freeze a n).heap[b]? = w.heap[b]? := by
  unfold World.freeze
  split
  · rfl
  · simp only [Array.getElem?_modify]
    rw [if_neg (Ne.symm h)]

theorem ok_convert [hE : NoEx P S] (hR : R w0 S σ ρ w) {src dst : TypeId} {x x' : Value} {r : ARes} (h : convertA P σ src dst x = some r) (hx : VRel ρ x x') :
    ∃ v' w' ρ', (convert src dst x').run P w = .ok v' w' ∧ ρ.le ρ' ∧
      ((∃ v, r = .val v ∧ VRel ρ' v v' ∧ R w0 S σ ρ' w') ∨ (∃ v σ', r = .eff v σ' ∧ VRel ρ' v v' ∧ R w0 S σ' ρ' w')) := by
  unfold convertA at h
  split at h
  · rename_i e s h1 h2
    cases hx
    split at h
    · rename_i h3 h4
      have hbt : Nat.blt dst TB = true := by
        cases hq : Nat.blt dst TB with
        | true => rfl
        | false => rw [hq] at h4; simp at h4
      rw [hbt] at h4
      simp only at h4
      split at h
      · rename_i id σ' hn
        cases h
        have hrun := run_bytes_of_string (P := P) w src dst e s h1 h2 h3
        have hpl : LRel ρ (s.data.toList.map fun (b : UInt8) => Value.int .u8 (b.toNat : Int)) (s.data.toList.map fun (b : UInt8) => Value.int .u8 (b.toNat : Int)) := by
          refine .plain ?_
          intro v hv
          simp at hv
          obtain ⟨b, _, rfl⟩ := hv
          rfl
        have hrow : (bytesRow s (grownCap w s.size 0 e)) = ((s.data.toList.map fun (b : UInt8) => Value.int .u8 (b.toNat : Int)) ++ List.replicate (grownCap w s.size 0 e - s.size) (Value.int .u8 0)).toArray := by
          unfold bytesRow
          apply Array.ext'
          simp
        obtain ⟨k, hk, a1, a2⟩ := ok_new hR.drew hn hpl (List.replicate (grownCap w s.size 0 e - s.size) (Value.int .u8 0))
          ((bytesRow s (grownCap w s.size 0 e)).size, (bytesRow s (grownCap w s.size 0 e)).size + 1) (.inr (by rw [hrow]; simp)) (fun hx => (hE.no _ _ (blt_t hbt) h2 hx).elim)
        rw [h4] at hk
        cases hk
        rw [← hrow] at a2
        refine ⟨_, _, _, hrun, a1, .inr ⟨_, _, rfl, ?_, a2⟩⟩
        have hsz : s.size = s.data.toList.length := by rw [Array.length_toList]; rfl
        have hg := grown_ge (w := w) (need := s.size) (old := 0) (e := e)
        have := VRel.sliceO (ρ := ρ.put id ⟨w.heap.size, 0, ((s.data.toList.map fun (b : UInt8) => Value.int .u8 (b.toNat : Int)) ++ List.replicate (grownCap w s.size 0 e - s.size) (Value.int .u8 0)).length, 1, none, none⟩) (id := id) (o := 0)
          (n := s.size) (c := grownCap w s.size 0 e) (Rho.put_same _ _ _) hg (by
            show 0 + 0 + grownCap w s.size 0 e * 1 = ((s.data.toList.map fun (b : UInt8) => Value.int .u8 (b.toNat : Int)) ++ List.replicate (grownCap w s.size 0 e - s.size) (Value.int .u8 0)).length
            rw [List.length_append, List.length_map, List.length_replicate, ← hsz]
            omega)
        exact this
      · exact absurd h (by simp)
    · exact absurd h (by simp)
  · rename_i e h1 h2
    cases hx
    split at h
    · rename_i h3
      cases h
      refine ⟨.string .empty, w, ρ, ?_, ρ.le_refl, .inl ⟨_, rfl, .string _, hR⟩⟩
      rw [run_convert_bytes_string w src dst e _ _ _ h1 h3 h2]
      simp [Conv.bytesToString]
    · exact absurd h (by simp)
  · rename_i e id off n c h1 h2
    split at h
    · rename_i h3
      cases hrd : rdCells σ id off n with
      | none => rw [hrd] at h; simp at h
      | some l =>
        rw [hrd] at h
        simp only [Option.bind_some] at h
        cases hb : bytesOf l with
        | none => rw [hb] at h; simp at h
        | some bs =>
          rw [hb] at h
          simp only [Option.some.injEq] at h
          subst h
          obtain ⟨ns, e1, e2⟩ := bytesOf_eq hb
          have main : ∀ a : Addr, (loadCells a n).run P w = .ok (ns.map (Value.int .u8)).toArray w → ∀ c, (convert src dst (.slice (some a) n c)).run P w = .ok (.string ⟨bs.toArray⟩) w := by
            intro a hl c
            rw [run_convert_bytes_string w src dst e _ _ _ h1 h3 h2, run_bytesToString w _ n c ns hl, foldl_push_bytes, e2]
            simp [ByteArray.empty, ByteArray.emptyWithCapacity]
            rfl
          have ld : ∀ L, ρ id = some L → (loadCells ⟨L.blk, L.off + off, none⟩ n).run P w = .ok (ns.map (Value.int .u8)).toArray w := by
            intro L hL
            obtain ⟨l', hl, hrun, _⟩ := run_rd (P := P) hR hrd hL
            rw [hrun]
            subst e1
            rw [hl.ints]
          cases hx with
          | sliceX hL _ _ => exact ⟨_, w, ρ, main _ (ld _ hL) _, ρ.le_refl, .inl ⟨_, rfl, .string _, hR⟩⟩
          | sliceO hL _ _ => exact ⟨_, w, ρ, main _ (ld _ hL) _, ρ.le_refl, .inl ⟨_, rfl, .string _, hR⟩⟩
          | sliceE hL _ =>
            have : ns = [] := by have := rd_len hrd; rw [e1] at this; simpa using this
            subst this
            exact ⟨_, w, ρ, main _ (by simp [loadCells, loadCellsFrom]) _, ρ.le_refl, .inl ⟨_, rfl, .string _, hR⟩⟩
    · exact absurd h (by simp)
  · rename_i e1 e id off n c h1 h2
    split at h
    · rename_i cs ce k h3 hg
      split at h
      · rename_i hbt
        have hbt := beq_t hbt
        cases h
        subst hbt
        have main : ∀ (L : Loc) (o cc : Nat), ρ id = some L → ∃ w', (convert src src (.slice (some ⟨L.blk, o, none⟩) n cc)).run P w = .ok (.slice (some ⟨L.blk, o, none⟩) n cc) w' ∧ R w0 S σ ρ w' := by
          intro L o cc hL
          obtain ⟨ca, ce', fr, hh, d1, d2, d3, d4, d5⟩ := cells_of hR hL hg
          have hsh : w.shape? L.blk = some (ce', ca.size) := by simp [World.shape?, hh]
          refine ⟨w.freeze { block := L.blk, off := ca.size } 1, ?_, ?_⟩
          · have h1' := h1
            simp [convert, run_underlying h2, run_underlying h3, markStringish, hsh]
          · have hput : σ.put id (.cells cs ce k) = σ.put id (.cells cs ce k) := rfl
            have hR2 := hR.set hL hg (o' := .cells cs ce k) (w' := w.freeze { block := L.blk, off := ca.size } 1) (by simp [World.freeze]) (by simp [World.freeze]) (by simp [World.freeze]) (by simp [World.freeze])
              (fun b hb => heap_freeze_other _ _ _ _ hb) (fun cs2 e2 k2 he hx => by cases he; exact hR.exact _ _ _ _ _ (hR.lt hL) hg hL hx) (by
                have hm : (w.freeze { block := L.blk, off := ca.size } 1).heap[L.blk]? = some (.cells ca ce' (if fr.1 == fr.2 then (ca.size, ca.size + 1) else (min fr.1 ca.size, max fr.2 (ca.size + 1)))) := by
                  unfold World.freeze
                  rw [if_neg (by decide)]
                  simp only [Array.getElem?_modify, if_true, hh, Option.map_some]
                rw [hm]
                refine ⟨cells_ty hR hL hg hh, d1, d2, d3, ?_, d5⟩
                right
                split
                · exact Nat.le_refl _
                · rename_i hne
                  have hne : fr.1 ≠ fr.2 := by simpa using hne
                  have : ca.size ≤ fr.1 := d4.resolve_left hne
                  show ca.size ≤ min fr.1 ca.size
                  omega)
            have lim := hR.lim
            have hlt := hR.lt hL
            exact { hR2 with
              pinInj := hR.pinInj
              pinApart := hR.pinApart
              exact := hR.exact
              obj := fun i o hi ho => by
                refine hR2.obj i o hi ?_
                rw [get_put (by omega) (by have : i < σ.next := hi; omega)]
                split
                · rename_i e; subst e; rw [hg] at ho; exact ho
                · exact ho
              apart := fun i j oi oj Li Lj hi hj ei ej => hR.apart i j oi oj Li Lj hi hj ei ej }
        cases hx with
        | sliceX hL a b => obtain ⟨w', x, y⟩ := main _ _ _ hL; exact ⟨_, w', ρ, x, ρ.le_refl, .inl ⟨_, rfl, .sliceX hL a b, y⟩⟩
        | sliceO hL a b => obtain ⟨w', x, y⟩ := main _ _ _ hL; exact ⟨_, w', ρ, x, ρ.le_refl, .inl ⟨_, rfl, .sliceO hL a b, y⟩⟩
        | sliceE hL a => obtain ⟨w', x, y⟩ := main _ _ _ hL; exact ⟨_, w', ρ, x, ρ.le_refl, .inl ⟨_, rfl, .sliceE hL a, y⟩⟩
      · exact absurd h (by simp)
    · exact absurd h (by simp)
  · exact absurd h (by simp)

end
end Am
end Go
