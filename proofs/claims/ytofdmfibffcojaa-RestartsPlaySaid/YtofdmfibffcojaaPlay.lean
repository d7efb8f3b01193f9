/-
  RestartsPlay: for up to 5 neighbors, any base up to 255 and any list of acts (of more than 200 acts the law says nothing), whatever is done with a machine, its results and its state are those of the definition.
  No condition.
-/
import Derived.Test.YtofdmfibffcojaaPlayW
import Derived.Test.YtofdmfibffcojaaOpenS
namespace Go.Proofs.Ytofdmfibffcojaa
open Go.ChangeShapes Go.WideShapes Go.ChangeAt Go.RowKit Go.PC

theorem bounds_u8' {z : Int} (h : (Lit.int .u8 z).wf = true) : 0 ≤ z ∧ z ≤ 255 := by
  have e1 : IntKind.u8.min = 0 := by decide
  have e2 : IntKind.u8.max = 255 := by decide
  simp [Lit.wf, e1, e2] at h
  omega

/-- The number in a cell. -/
def numAt (w : World) (b o : Nat) : Int := match w.cell? ⟨b, o, none⟩ with | some (.int _ n) => n | _ => 0
theorem numAt_of {w : World} {b o : Nat} {k : IntKind} {n : Int} (h : w.cell? ⟨b, o, none⟩ = some (.int k n)) : numAt w b o = n := by unfold numAt; rw [h]

set_option maxRecDepth 100000 in
theorem play_lifted (os : Os) (started : os.Started) (H : Type) (enc : TypeId × Value → H) :
    ReturnsInHanded {} Try.checked os 3 .any (Rows.restartsPlaySpec.pre6 enc Try.prog Try.f3 Rows.restartsPlayRow.domain false) (Rows.restartsPlaySpec.post enc Try.prog Try.f3 false true false false) := by
  refine returnsInHanded_of_change (C := Try.checked) own started (by kernel_rfl) Try.func3
    (ChangeSpec.witness6 (enc := enc) (C := Try.checked) false ⟨#[], #[.int .u8 0, .int .u8 0, .slice none 0 0], []⟩ 8 (by kernel_rfl) (by kernel_rfl) (by kernel_rfl) (by kernel_rfl)) ?_
  intro W base args ds gs before hval0 hW hcnd _
  have hval : ∀ (j : Nat) t v, Try.f3.params[j]? = some t → args[j]? = some v → Value.okWide Try.prog W .any base t v := hval0
  have hW' := hW
  obtain ⟨p, q, hA0, hV, rfl, hfz, hnd⟩ := hW
  have hA : DataW.TrodAll enc Try.prog W 0 (fun _ => true) true Try.f3.params.toList args.toList ds p := hA0
  rw [Try.params3] at hA hval
  obtain ⟨v0, v1, v2, d0, d1, d2, p0, p1, p2, hargs, rfl, rfl, h0, h1, h2⟩ := trodAll_three hA
  obtain rfl : args = #[v0, v1, v2] := by cases args; simp_all
  obtain ⟨a0, rfl, rfl, rfl, w0⟩ := open_int Try.underlying5 (hval 0 5 v0 rfl rfl) h0
  obtain ⟨a1, rfl, rfl, rfl, w1⟩ := open_int Try.underlying5 (hval 1 5 v1 rfl rfl) h1
  obtain ⟨a2, len, cap, rfl⟩ := okWide_slice Try.underlying22 (hval 2 22 v2 rfl rfl)
  obtain ⟨fuel, hf⟩ := h2
  have hin : ∃ f, Acts W a2 len f := by
    rcases open_slice_fields Try.underlying22 Try.underlying35 (by kernel_rfl) (by kernel_rfl) hf with ⟨hcs, _⟩ | ⟨a, len', cap', m, D, Pl, hcs, _, hl, hm, hmm, _, hi⟩
    · simp [Value.cells] at hcs
      obtain ⟨rfl, rfl, rfl⟩ := hcs
      exact ⟨fun _ => (0, 0, 0), Or.inl rfl⟩
    · simp [Value.cells] at hcs
      obtain ⟨rfl, rfl, rfl⟩ := hcs
      simp only [if_true] at hmm
      by_cases hl0 : len = 0
      · exact ⟨fun _ => (0, 0, 0), Or.inl hl0⟩
      · have hall : ∀ i, i < len → ∀ j, j < 3 → ∃ n : Int, W.cell? (a.add (i * 3 + j)) = some (.int .u8 n) ∧ (Lit.int .u8 n).wf = true := by
          intro i hil j hj
          obtain ⟨ys, n, _, _, _, hg⟩ := hi i (by omega)
          match j, hj with
          | 0, _ =>
            obtain ⟨v, y, hc, _, ht⟩ := hg 0 _ rfl
            obtain ⟨z, hz, _, hw⟩ := DataW.trod_int Try.underlying5 ht
            obtain rfl : v = .int .u8 z := by simpa using hz
            exact ⟨z, hc, hw⟩
          | 1, _ =>
            obtain ⟨v, y, hc, _, ht⟩ := hg 1 _ rfl
            obtain ⟨z, hz, _, hw⟩ := DataW.trod_int Try.underlying5 ht
            obtain rfl : v = .int .u8 z := by simpa using hz
            exact ⟨z, hc, hw⟩
          | 2, _ =>
            obtain ⟨v, y, hc, _, ht⟩ := hg 2 _ rfl
            obtain ⟨z, hz, _, hw⟩ := DataW.trod_int Try.underlying5 ht
            obtain rfl : v = .int .u8 z := by simpa using hz
            exact ⟨z, hc, hw⟩
        obtain ⟨n0, hc0, _⟩ := hall 0 (by omega) 0 (by decide)
        obtain ⟨b, off, spot⟩ := a
        have hspot : spot = none := by simpa [Addr.add] using World.cell?_spot hc0
        subst hspot
        refine ⟨fun i => (numAt W b (off + i * 3), numAt W b (off + i * 3 + 1), numAt W b (off + i * 3 + 2)), Or.inr ⟨b, off, rfl, fun i hil => ?_⟩⟩
        obtain ⟨x0, e0, y0⟩ := hall i hil 0 (by decide)
        obtain ⟨x1, e1, y1⟩ := hall i hil 1 (by decide)
        obtain ⟨x2, e2, y2⟩ := hall i hil 2 (by decide)
        rw [add_plain] at e0 e1 e2
        have e0' : W.cell? ⟨b, off + i * 3, none⟩ = some (.int .u8 x0) := e0
        have e1' : W.cell? ⟨b, off + i * 3 + 1, none⟩ = some (.int .u8 x1) := e1
        have e2' : W.cell? ⟨b, off + i * 3 + 2, none⟩ = some (.int .u8 x2) := e2
        simp only [numAt_of e0', numAt_of e1', numAt_of e2']
        exact ⟨⟨e0', e1', e2'⟩, bounds_u8' y0, bounds_u8' y1, bounds_u8' y2⟩
  obtain ⟨f, hacts⟩ := hin
  have b0 := bounds_u8' w0
  have b1 := bounds_u8' w1
  have hwalk : Calls Try.prog 3 #[.int .u8 a0, .int .u8 a1, .slice a2 len cap] W fun e w' => e = .returned (.bool true) ∧ Only (fun _ => False) W w' := by
    by_cases hb : 200 < len
    · exact play_long a2 len cap a0 a1 hb W
    · exact play_short a2 len cap a0 a1 (a0 % 6).toNat f (by omega) b0.1 b0.2 (by omega) b1.1 b1.2 W hacts
  refine hwalk.mono fun e W' ⟨he, ho⟩ => ?_
  subst he
  exact ⟨_, rfl, law_post laidOut (by kernel_rfl) rfl rfl Try.underlying4 rfl hW' (below_of_only ho)⟩

theorem RestartsPlay : Rows.RestartsPlaySaid :=
  OpenClaim.holds_of_wide 3 Try.f3 rfl rfl rfl rfl rfl rfl rfl ⟨rfl, rfl, rfl, rfl, rfl⟩ rfl rfl rfl rfl rfl (by kernel_rfl) Try.func3 (by kernel_rfl)
    (of_decide_eq_true (by kernel_rfl)) (by unfold Func.isWrapper; first | (rw [if_pos (by decide +kernel)]; kernel_rfl) | (rw [if_neg (by decide +kernel)]; exact ⟨rfl, rfl⟩))
    (fun os started H enc _ => play_lifted os started H enc)
#print axioms RestartsPlay

end Go.Proofs.Ytofdmfibffcojaa
