/-
  The chapter's examples hold: the closed run, and its contract.
-/
import Derived.Test.YtcokmnpgeokfpaaDoorLvBV
set_option linter.unusedVariables false
set_option linter.unusedSimpArgs false
namespace Go.Proofs.YtcokmnpgeokfpaaDoor
open Go.RowKit Go.Vx

/-- bytes in their bounds -/
def inBytes : List Value → Bool
  | [] => true
  | .int .u8 n :: l => decide (0 ≤ n) && decide (n < 256) && inBytes l
  | _ :: _ => false

/-- copyCheck, String, syntaxError -/
def YB : Ext := fun f args σ =>
  match Nat.beq f 103 with
  | true => match args.toList with
    | [.string _, .string s] => match s.data.toList, Nat.blt σ.next (2 ^ D) with
      | [], true => some (.returned (.pointer (some ⟨σ.next, 0, none⟩)), σ.name)
      | _, _ => none
    | _ => none
  | false => match Nat.beq f 69 with
    | true => match args.toList with
      | [.pointer (some ⟨id, 0, none⟩)] => match σ.get id with
        | some (.cells [.pointer none, b] e k) => match Nat.beq e 97 with
          | true => some (.returned (.tuple #[]), σ.put id (.cells [.pointer (some ⟨id, 0, none⟩), b] e k))
          | false => none
        | some (.cells [.pointer (some ⟨id', 0, none⟩), _] _ _) => match Nat.beq id id' with
          | true => some (.returned (.tuple #[]), σ)
          | false => none
        | _ => none
      | _ => none
    | false => match Nat.beq f 50 with
      | true => match args.toList with
        | [.pointer (some ⟨id, 0, none⟩)] => match σ.get id with
          | some (.cells [_, .slice (some ⟨id2, off, none⟩) n c] e _) => match Nat.beq e 97, σ.get id2 with
            | true, some (.cells cs e2 k2) => match Nat.beq e2 5 && Nat.beq k2 1 && Nat.blt 0 n && Nat.ble n (2 ^ 46) && Nat.beq c OPEN && inBytes ((cs.drop off).take n), (pieces cs off n).bind bytesOf with
              | true, some l => some (.returned (.string ⟨l.toArray⟩), σ.drop id2)
              | _, _ => none
            | _, _ => none
          | _ => none
        | _ => none
      | false => none

noncomputable def runLv : Res (AEnd × AW) := Vx.call Tryd.prog .none YB 100000 29 #[] { objs := .leaf, next := 0 }
def good : Res (AEnd × AW) → Bool
  | .ok (.returned (.bool true), _) => true
  | _ => false
set_option maxHeartbeats 0 in
theorem runLv_good : good runLv = true := by kernel_rfl


section
variable {w0 : World} {S : Own} {σ : AW} {ρ : Rho} {w : World}

/-- a block of which nothing is known any more is turned -/
theorem waste (h : R w0 S σ ρ w) {g : Nat} (hS : S g) (hfree : ∀ j o M, j < σ.next → σ.get j = some o → ρ j = some M → M.blk ≠ g)
    (hpin : ∀ j M p, ρ j = some M → M.pin = some p → M.blk ≠ g) (hmem : ∀ b a, ρ.mem b = some a → b ≠ g) {w' : World} (h1 : w'.os = w.os) (h2 : w'.tape = w.tape) (h3 : w'.output = w.output) (hs : w'.heap.size = w.heap.size)
    (hother : ∀ b, b ≠ g → w'.heap[b]? = w.heap[b]?) : R w0 S σ ρ w' :=
  { base := h.base, spec := h.spec
    pins := fun j M p e1 e2 => by rw [hother _ (hpin j M p e1 e2)]; exact h.pins j M p e1 e2
    pinInj := h.pinInj, pinVal := h.pinVal, pinApart := h.pinApart
    mem := fun b a e => by rw [hother _ (hmem b a e)]; exact h.mem b a e
    memApart := h.memApart, memNew := h.memNew, memBase := h.memBase
    tok := fun τ ht => by
      obtain ⟨q1, T, q2, q3⟩ := h.tok τ ht
      exact ⟨q1, T, q2, fun U e => by
        obtain ⟨r1, a, c, fr, r2, r3, r4, r5⟩ := q3 U e
        exact ⟨r1, a, c, fr, r2, r3, by rw [hother _ (hmem _ _ r2)]; exact r4, r5⟩⟩
    tokInj := h.tokInj, tokDom := h.tokDom, tokPin := h.tokPin, tokNd := h.tokNd
    os := h1.trans h.os, tape := h2.trans h.tape, output := h3.trans h.output, size := by rw [hs]; exact h.size, own := h.own, dom := h.dom, lim := h.lim
    block := fun b hb => by rw [hother b (fun e => hb (e ▸ hS))]; exact h.block b hb
    obj := fun j o hj e => by
      obtain ⟨M, e1, e2, e3⟩ := h.obj j o hj e
      exact ⟨M, e1, e2, by rw [hother _ (hfree j o M hj e e1)]; exact e3⟩
    exact := h.exact, apart := h.apart }

theorem inv_ptr {x : Value} (h : VRel ρ (.pointer none) x) : x = .pointer none := by
  cases h with
  | pure _ hp => exact absurd hp (by simp [isP])
  | ptr0 => rfl
theorem inv_int {k : IntKind} {m : Int} {x : Value} (h : VRel ρ (.int k m) x) : x = .int k m := by
  cases h with
  | pure _ hp => exact absurd hp (by simp [isP])
  | int => rfl
theorem inv_str {s : ByteArray} {x : Value} (h : VRel ρ (.string s) x) : x = .string s := by
  cases h with
  | pure _ hp => exact absurd hp (by simp [isP])
  | string => rfl
theorem in_bytes : ∀ {l : List Value}, inBytes l = true → ∀ v ∈ l, ∀ n, v = .int .u8 n → 0 ≤ n ∧ n < 256
  | [], _, v, hv, _, _ => by simp at hv
  | x :: l, h, v, hv, n, e => by
    unfold inBytes at h
    split at h
    · rename_i h2; cases h2
    · rename_i m l' h2
      cases h2
      simp only [Bool.and_eq_true, decide_eq_true_eq] at h
      rcases List.mem_cons.1 hv with h3 | h3
      · rw [h3] at e; cases e; exact h.1
      · exact in_bytes h.2 v h3 n e
    · exact absurd h (by simp)

theorem one_arg {a b : Array Value} {v : Value} (h : ARel ρ a b) (e : a.toList = [v]) : ∃ v', b = #[v'] ∧ VRel ρ v v' := by
  obtain ⟨l⟩ := a
  simp only at e
  subst e
  obtain ⟨l'⟩ := b
  match l', h.1, h.2 with
  | [v'], _, h2 => exact ⟨v', rfl, h2 0 v v' rfl rfl⟩

theorem two_args {a b : Array Value} {u v : Value} (h : ARel ρ a b) (e : a.toList = [u, v]) : ∃ u' v', b = #[u', v'] ∧ VRel ρ u u' ∧ VRel ρ v v' := by
  obtain ⟨l⟩ := a
  simp only at e
  subst e
  obtain ⟨l'⟩ := b
  match l', h.1, h.2 with
  | [u', v'], _, h2 => exact ⟨u', v', rfl, h2 0 u u' rfl rfl, h2 1 v v' rfl rfl⟩

/-- a builder's block -/
theorem bld_at (hR : R w0 (ownC w0 fun e => e = 97) σ ρ w) {id : Nat} {L : Vx.Loc} {x y : Value} {e k : Nat} (hL : ρ id = some L) (hg : σ.get id = some (.cells [x, y] e k)) (he : e = 97) :
    L.off = 0 ∧ ∃ c fr x' y', w.heap[L.blk]? = some (.cells c 97 fr) ∧ c = #[x', y'] ∧ VRel ρ x x' ∧ VRel ρ y y' ∧ (fr.1 = fr.2 ∨ 2 ≤ fr.1) ∧ L.size = 2 ∧ L.esz = k := by
  obtain ⟨h0, h2⟩ := hR.exact _ _ _ _ _ (hR.lt hL) hg hL he
  obtain ⟨c, e', fr, hh, d1, d2, d3, d4, d5⟩ := cells_of hR hL hg
  have ht := cells_ty hR hL hg hh
  rw [h2] at d1
  simp only [List.length_cons, List.length_nil] at d1 h2
  obtain ⟨x', hx, hxr⟩ := d5 0 x rfl
  obtain ⟨y', hy, hyr⟩ := d5 1 y rfl
  rw [h0] at hx hy
  refine ⟨h0, c, fr, x', y', ?_, ?_, hxr, hyr, ?_, h2, d2⟩
  · rw [hh, ht, he]
  · apply Array.ext
    · simp; omega
    · intro i hi hi'
      have : i = 0 ∨ i = 1 := by simp at hi'; omega
      rcases this with rfl | rfl
      · rw [Array.getElem?_eq_getElem (by omega)] at hx
        simpa using Option.some.inj hx
      · rw [Array.getElem?_eq_getElem (by omega)] at hy
        simpa using Option.some.inj hy
  · rcases d4 with e1 | e1
    · exact .inl e1
    · right; omega

theorem noExB : ((List.range TB).all fun t => match Tryd.prog.underlying t with | some (.slice e) => !(Nat.beq e 97) | _ => true) = true := by kernel_rfl
instance noExBI : NoEx Tryd.prog (ownC w0 fun e => e = 97) := ⟨fun t e ht hu he => by
  have h := noExB
  rw [List.all_eq_true] at h
  have := h t (List.mem_range.2 ht)
  rw [hu] at this
  simp only at this
  have he : e = 97 := he
  subst he
  simp at this⟩

set_option maxHeartbeats 2000000 in
theorem extB (te : TypeId) (pe : Value) (hv : w0.cell? ⟨2, 0, none⟩ = some (.iface te pe)) : ExtOk Tryd.prog w0 (ownC w0 fun e => e = 97) YB := by
  intro f args σ e σ' h ρ w args' ha hR
  unfold YB at h
  split at h
  · rename_i hf
    have hf := beq_t hf
    subst hf
    split at h
    · rename_i a s hargs
      split at h
      · rename_i hs hlt
        simp only [Option.some.injEq, Prod.mk.injEq] at h
        obtain ⟨rfl, rfl⟩ := h
        obtain ⟨u', v', rfl, hu, hv'⟩ := two_args ha hargs
        obtain rfl := inv_str hu
        obtain rfl := inv_str hv'
        have hse : s = ByteArray.empty := by
          cases s with | mk d =>
          have : d = #[] := by apply Array.ext'; simpa using hs
          rw [this]; rfl
        subst hse
        have hcell : w.cell? ⟨2, 0, none⟩ = some (.iface te pe) := by
          rw [World.cell?_of_block (w := w0) (hR.block _ (by have := World.block_lt_of_cell? w0 _ hv; simp only [ownC]; exact Nat.not_le.2 this))]
          exact hv
        refine (syntaxError_empty _ te pe w hcell).mono ?_
        rintro e w' ⟨N, rfl, hN, hb⟩
        have hn := hR.name (L := ⟨N, 0, 0, 0, none, none⟩) (fun v e => by simp at e) (fun v e => by simp at e) (blt_t hlt) hb.os hb.tape hb.output hb.size hb.block (fun o e => by simp at e)
        exact ⟨_, hn.1, VRel.ptr (o := 0) (Rho.put_same _ _ _), hn.2⟩
      · exact absurd h (by simp)
    · exact absurd h (by simp)
  · split at h
    · rename_i hf
      have hf := beq_t hf
      subst hf
      split at h
      · rename_i id hargs
        obtain ⟨v', rfl, hp⟩ := one_arg ha hargs
        cases hp with
        | pure _ hpp => exact absurd hpp (by simp [isP])
        | @ptr _ _ L hL =>
        split at h
        · rename_i b e1 k hg
          split at h
          · rename_i hbe
            have hbe := beq_t hbe
            simp only [Option.some.injEq, Prod.mk.injEq] at h
            obtain ⟨rfl, rfl⟩ := h
            obtain ⟨h0, c, fr, x', y', hh, rfl, hx, hy, hfr, hsz, hes⟩ := bld_at hR hL hg hbe
            obtain rfl := inv_ptr hx
            have hc0 : w.cell? ⟨L.blk, 0, none⟩ = some (.pointer none) := by simp [World.cell?, hh]
            have hsh : w.shape? L.blk = some (97, 2) := by simp [World.shape?, hh]
            have hfz : w.frozen? ⟨L.blk, 0, none⟩ = false := by simp [World.frozen?, hh]; omega
            rw [show L.off + 0 = 0 by omega]
            refine (copyCheck_fresh L.blk w hc0 hsh hfz).mono ?_
            rintro e w' ⟨rfl, rfl⟩
            have hheap : (w.setCell ⟨L.blk, 0, none⟩ (.pointer (some ⟨L.blk, 0, none⟩))).heap[L.blk]? = some (.cells #[.pointer (some ⟨L.blk, 0, none⟩), y'] 97 fr) := by
              simp [World.setCell, Array.getElem?_modify, hh]
            refine ⟨ρ, ρ.le_refl, plain_rel ρ rfl, hR.set hL hg rfl rfl rfl (by simp [World.setCell]) (fun b' hb' => Below.heap_setCell _ _ _ _ hb') (fun cs e2 k2 he _ => by cases he; exact ⟨h0, hsz⟩) ?_⟩
            rw [hheap]
            refine ⟨hbe.symm, by simp [hsz], hes, by simp [h0], by simpa using hfr, ?_⟩
            intro i v hi
            rw [h0]
            match i, hi with
            | 0, hi =>
              simp at hi
              subst hi
              have := VRel.ptr (o := 0) hL
              rw [show L.off + 0 = 0 by omega] at this
              exact ⟨_, rfl, this⟩
            | 1, hi => simp at hi; subst hi; exact ⟨_, rfl, hy⟩
            | i + 2, hi => simp at hi
          · exact absurd h (by simp)
        · rename_i id' y e1 k hg
          split at h
          · rename_i hid
            have hid := beq_t hid
            subst hid
            simp only [Option.some.injEq, Prod.mk.injEq] at h
            obtain ⟨rfl, rfl⟩ := h
            obtain ⟨c, e', fr, hh, d1, d2, d3, d4, d5⟩ := cells_of hR hL hg
            obtain ⟨x', hx, hxr⟩ := d5 0 _ rfl
            cases hxr with
            | pure _ hpp => exact absurd hpp (by simp [isP])
            | @ptr _ _ L' hL' =>
            rw [hL] at hL'
            cases hL'
            have hc0 : w.cell? ⟨L.blk, L.off + 0, none⟩ = some (.pointer (some ⟨L.blk, L.off + 0, none⟩)) := by simp [World.cell?, hh]; simpa using hx
            refine (copyCheck_used_at _ _ w hc0).mono ?_
            rintro e w' ⟨rfl, rfl⟩
            exact ⟨ρ, ρ.le_refl, plain_rel ρ rfl, hR⟩
          · exact absurd h (by simp)
        · exact absurd h (by simp)
      · exact absurd h (by simp)
    · split at h
      · rename_i hf
        have hf := beq_t hf
        subst hf
        split at h
        · rename_i id hargs
          obtain ⟨v', rfl, hp⟩ := one_arg ha hargs
          cases hp with
          | pure _ hpp => exact absurd hpp (by simp [isP])
          | @ptr _ _ L hL =>
          split at h
          · rename_i x id2 off n c e1 k hg
            split at h
            · rename_i cs e2 k2 hbe hg2
              split at h
              · rename_i l hb hl
                have hbe := beq_t hbe
                simp only [Option.some.injEq, Prod.mk.injEq] at h
                obtain ⟨rfl, rfl⟩ := h
                simp only [Bool.and_eq_true] at hb
                obtain ⟨⟨⟨⟨⟨hb1, hb2⟩, hb3⟩, hb4⟩, hb5⟩, hb6⟩ := hb
                have hb1 := beq_t hb1
                have hb2 := beq_t hb2
                have hb3 := blt_t hb3
                have hb4 := ble_t hb4
                have hb5 := beq_t hb5
                subst hb1; subst hb2; subst hb5
                obtain ⟨h0, cB, frB, x', y', hhB, rfl, _, hy, _, _, _⟩ := bld_at hR hL hg hbe
                have fin : ∀ (L2 : Vx.Loc) (o c' : Nat), ρ id2 = some L2 → o = L2.off + off → n ≤ c' → c' ≠ 0 → y' = .slice (some ⟨L2.blk, o, none⟩) n c' →
                    Calls Tryd.prog 50 #[.pointer (some ⟨L.blk, L.off + 0, none⟩)] w fun e' w' => ∃ ρ', ρ.le ρ' ∧ ERel ρ' (.returned (.string ⟨l.toArray⟩)) e' ∧ R w0 (ownC w0 fun e => e = 97) (σ.drop id2) ρ' w' := by
                  intro L2 o c' hL2 ho hnc hc0 hy'
                  obtain ⟨c2, e2', fr2, hh2, d1, d2, d3, d4, d5⟩ := cells_of hR hL2 hg2
                  have ht2 := cells_ty hR hL2 hg2 hh2
                  subst ht2
                  cases hp : pieces cs off n with
                  | none => rw [hp] at hl; simp at hl
                  | some p =>
                  rw [hp] at hl
                  simp only [Option.bind_some] at hl
                  obtain ⟨p1, p2⟩ := pieces_eq hp
                  obtain ⟨ns, e3, e4⟩ := bytesOf_eq hl
                  have hpl : p.length = n := by rw [p2]; simp; omega
                  have hll : l.length = n := by rw [e4, List.length_map, ← hpl, e3, List.length_map]
                  have hl0 : l ≠ [] := by intro e; rw [e] at hll; simp at hll; omega
                  rw [show L.off + 0 = 0 by omega]
                  have hcell : ∀ j (z : UInt8), l[j]? = some z → w.cell? ((⟨L2.blk, o, none⟩ : Addr).add j) = some (.int .u8 z.toNat) := by
                    intro j z hz
                    have hjn : j < n := by rw [← hll]; exact (List.getElem?_eq_some_iff.1 hz).1
                    have hcj : cs[off + j]? = p[j]? := by rw [p2, List.getElem?_take, if_pos hjn, List.getElem?_drop]
                    rw [e4, List.getElem?_map] at hz
                    cases hnj : ns[j]? with
                    | none => rw [hnj] at hz; simp at hz
                    | some m =>
                    rw [hnj] at hz
                    simp only [Option.map_some, Option.some.injEq] at hz
                    have hpj : p[j]? = some (.int .u8 m) := by rw [e3, List.getElem?_map, hnj]; rfl
                    obtain ⟨u', hu1, hu2⟩ := d5 (off + j) _ (hcj.trans hpj)
                    obtain rfl := inv_int hu2
                    have hin := in_bytes hb6 (.int .u8 m) (by rw [← p2]; exact List.mem_of_getElem? hpj) m rfl
                    have hm : (z.toNat : Int) = m := by
                      rw [← hz]
                      simp
                      omega
                    rw [hm, ho, add_none, World.cell?, hh2]
                    simpa [Nat.add_assoc] using hu1
                  refine (builder_string L.blk L2.blk o c' c2.size l hl0 w (by simp [World.cell?, hhB, hy', hll]) hc0 (by simp [World.shape?, hh2]) (by omega) (by omega) hcell).mono ?_
                  rintro e w' ⟨rfl, w1, q1, q2, q3, q4, rfl⟩
                  have hlt2 := hR.lt hL2
                  refine ⟨ρ, ρ.le_refl, .string _, ?_⟩
                  refine waste (g := L2.blk) ((hR.drop id2 hlt2).same q1 q2 q3 q4) (hR.at hL2 hg2).1 ?_ ?_ (fun b a e e2 => hR.memApart b a id2 _ L2 e hlt2 hg2 hL2 e2.symm) ?_ ?_ ?_ ?_ ?_
                  · intro j o' M hj ej eM e
                    have lim := hR.lim
                    have hj : j < σ.next := hj
                    rw [get_drop (by omega) (by omega)] at ej
                    split at ej
                    · exact absurd ej (by simp)
                    · rename_i hne
                      exact hne (hR.apart id2 j _ _ L2 M hlt2 hj hg2 ej hL2 eM e.symm)
                  · intro j M q e1 e2 e
                    exact hR.pinApart j M q id2 _ L2 e1 e2 hlt2 hg2 hL2 e.symm
                  · simp [World.freeze]; split <;> rfl
                  · simp [World.freeze]; split <;> rfl
                  · simp [World.freeze]; split <;> rfl
                  · simp [World.freeze]; split <;> simp
                  · intro b hb; exact heap_freeze_other _ _ _ _ hb
                cases hy with
                | pure _ hpp => exact absurd hpp (by simp [isP])
                | sliceX hL2 hc hn => exact absurd hc open_big
                | @sliceO _ _ _ c' L2 hL2 hn hc => exact fin L2 _ c' hL2 rfl hn (by omega) rfl
              · exact absurd h (by simp)
            · exact absurd h (by simp)
          · exact absurd h (by simp)
        · exact absurd h (by simp)
      · exact absurd h (by simp)

theorem lives_ok (w : World) (te : TypeId) (pe : Value) (hv : w.cell? ⟨2, 0, none⟩ = some (.iface te pe)) :
    Calls Tryd.prog 29 #[] w fun e w' => e = .returned (.bool true) ∧ Below w.heap.size w w' := by
  have h := runLv_good
  generalize hr : runLv = r at h
  unfold good at h
  split at h
  · exact calls_closedY (extB te pe hv) hr rfl
  · exact absurd h (by simp)

end
end Go.Proofs.YtcokmnpgeokfpaaDoor
