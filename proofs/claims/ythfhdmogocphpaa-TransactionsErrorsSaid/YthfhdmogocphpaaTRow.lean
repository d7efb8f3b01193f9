/-
  TransactionsErrors: for any point, message and three numbers, arguments that are not valid are refused with the documented error, and nothing changes; machines that New has not made answer with nothing.
  No condition.
-/
import Derived.Test.YthfhdmogocphpaaRows
import Derived.Test.YthfhdmogocphpaaTErr
import Derived.Test.YthfhdmogocphpaaOpen
import Derived.Test.YthfhdmogocphpaaLawRow
import Derived.ProofKit
namespace Go.Proofs.Ythfhdmogocphpaa
open Go.ChangeShapes Go.WideShapes Go.ChangeAt Go.RowKit Go.PC

theorem own : ownKnob Try.prog.godebug = none := by kernel_rfl
theorem laidOut : laidOutB Try.prog = true := by kernel_rfl

theorem wf_u8 {z : Int} (h : (Lit.int .u8 z).wf = true) : 0 ≤ z := by
  have e1 : IntKind.u8.min = 0 := by decide
  simp [Lit.wf, e1] at h
  omega
theorem wf_u16 {z : Int} (h : (Lit.int .u16 z).wf = true) : 0 ≤ z ∧ z < 65536 := by
  have e1 : IntKind.u16.min = 0 := by decide
  have e2 : IntKind.u16.max = 65535 := by decide
  simp [Lit.wf, e1, e2] at h
  omega
theorem wf_u32 {z : Int} (h : (Lit.int .u32 z).wf = true) : 0 ≤ z := by
  have e1 : IntKind.u32.min = 0 := by decide
  simp [Lit.wf, e1] at h
  omega

section
variable {H : Type} {enc : TypeId × Value → H} {w : World} {base : Nat} {held : Bool}

theorem trod_body {fuel : Nat} {v : Value} {x : DataW H × List MemPlace} (h : DataW.trod enc Try.prog w base (fun _ => true) held fuel 35 [v] = some x) :
    ∃ a n c, v = .slice a n c ∧ (n ≤ 4000 → RdB w v) := by
  rcases open_ints Try.underlying35 Try.underlying5 (by kernel_rfl) h with ⟨hv, _⟩ | ⟨a, len, cap, zs, hv, _, hl, hm, hz, _, hcell, _⟩
  · have hv' : v = .slice none 0 0 := by simpa using hv
    exact ⟨_, _, _, hv', fun _ => .inl hv'⟩
  · have hv' : v = .slice (some a) len cap := by simpa using hv
    simp only [if_true] at hz
    refine ⟨_, _, _, hv', fun hn => .inr ⟨a, len, cap, (zs.take len).map (.int .u8 ·), hv', hl, by simp [hz, hl], fun j u hj => ?_, fun u hu => ?_, hn⟩⟩
    · rw [List.getElem?_map, Option.map_eq_some_iff] at hj
      obtain ⟨z, hz1, rfl⟩ := hj
      have hlt := (List.getElem?_eq_some_iff.1 hz1).1
      rw [List.length_take] at hlt
      rw [List.getElem?_take_of_lt (by omega)] at hz1
      rw [hcell j (by omega), List.getD_eq_getElem?_getD, hz1]
      rfl
    · obtain ⟨z, _, rfl⟩ := List.mem_map.1 hu
      rfl

theorem list5 {l : List Value} (h : l.length = 5) : ∃ v0 v1 v2 v3 v4, l = [v0, v1, v2, v3, v4] := by
  match l, h with
  | [v0, v1, v2, v3, v4], _ => exact ⟨v0, v1, v2, v3, v4, rfl⟩

theorem trod_num {k : IntKind} {t : TypeId} (ht : Try.prog.underlying t = some (.int k)) {fuel : Nat} {v : Value} {x : DataW H × List MemPlace} (h : DataW.trod enc Try.prog w base (fun _ => true) held fuel t [v] = some x) : ∃ z, v = .int k z ∧ (Lit.int k z).wf = true := by
  obtain ⟨z, h1, _, h2⟩ := DataW.trod_int ht h
  exact ⟨z, by simpa using h1, h2⟩

set_option maxRecDepth 100000 in
theorem open_msg {r : Reach} {b0 : Nat} {v : Value} {d : DataW H} {p : List MemPlace} (hv : Value.okWide Try.prog w r b0 46 v) (h : DataW.Trod enc Try.prog w base (fun _ => true) held 46 v d p) :
    ∃ (k fr t c : Int) (a : Option Addr) (n cap : Nat), v = .agg #[.int .u8 k, .int .u32 fr, .int .u32 t, .int .u8 c, .slice a n cap] ∧ 0 ≤ fr ∧ 0 ≤ t ∧ 0 ≤ c ∧ (n ≤ 4000 → RdB w (.slice a n cap)) := by
  have hva : ∃ cs, v = .agg cs := by
    simp only [Value.okWide, Try.underlying46] at hv
    cases v <;> simp_all
  obtain ⟨cs, rfl⟩ := hva
  obtain ⟨fuel, hf⟩ := h
  obtain ⟨xs, m, _, _, hl, hxl, hx⟩ := DataW.trod_struct Try.underlying46 hf
  have hl : cs.toList.length = Try.prog.cellsOf 46 := hl
  have hx : ∀ (i : Nat) (f : Field), _ → DataW.trod enc Try.prog w base (fun _ => true) held m f.type (List.take (Try.prog.cellsOf f.type) (List.drop f.offset cs.toList)) = xs[i]? := hx
  have hC : Try.prog.cellsOf 46 = 5 := by kernel_rfl
  rw [hC] at hl
  obtain ⟨v0, v1, v2, v3, v4, hcs⟩ := list5 hl
  rw [hcs] at hx
  have hxi : ∀ i, i < 5 → ∃ y, xs[i]? = some y := fun i hi => ⟨_, List.getElem?_eq_getElem (by rw [hxl]; exact hi)⟩
  have g0 := hx 0 _ rfl
  have g1 := hx 1 _ rfl
  have g2 := hx 2 _ rfl
  have g3 := hx 3 _ rfl
  have g4 := hx 4 _ rfl
  obtain ⟨y0, e0⟩ := hxi 0 (by decide)
  obtain ⟨y1, e1⟩ := hxi 1 (by decide)
  obtain ⟨y2, e2⟩ := hxi 2 (by decide)
  obtain ⟨y3, e3⟩ := hxi 3 (by decide)
  obtain ⟨y4, e4⟩ := hxi 4 (by decide)
  have hc44 : Try.prog.cellsOf 44 = 1 := by kernel_rfl
  have hc25 : Try.prog.cellsOf 25 = 1 := by kernel_rfl
  have hc5 : Try.prog.cellsOf 5 = 1 := by kernel_rfl
  have hc35 : Try.prog.cellsOf 35 = 1 := by kernel_rfl
  rw [e0] at g0; rw [e1] at g1; rw [e2] at g2; rw [e3] at g3; rw [e4] at g4
  have G : ∀ (t off : Nat) (y : DataW H × List MemPlace), Try.prog.cellsOf t = 1 → DataW.trod enc Try.prog w base (fun _ => true) held m t (([v0, v1, v2, v3, v4].drop off).take (Try.prog.cellsOf t)) = some y → DataW.trod enc Try.prog w base (fun _ => true) held m t (([v0, v1, v2, v3, v4].drop off).take 1) = some y := fun t off y h1 h2 => by rw [h1] at h2; exact h2
  have g0 : DataW.trod enc Try.prog w base (fun _ => true) held m 44 [v0] = some y0 := G 44 0 y0 hc44 g0
  have g1 : DataW.trod enc Try.prog w base (fun _ => true) held m 25 [v1] = some y1 := G 25 1 y1 hc25 g1
  have g2 : DataW.trod enc Try.prog w base (fun _ => true) held m 25 [v2] = some y2 := G 25 2 y2 hc25 g2
  have g3 : DataW.trod enc Try.prog w base (fun _ => true) held m 5 [v3] = some y3 := G 5 3 y3 hc5 g3
  have g4 : DataW.trod enc Try.prog w base (fun _ => true) held m 35 [v4] = some y4 := G 35 4 y4 hc35 g4
  obtain ⟨k, rfl, _⟩ := trod_num Try.underlying44 g0
  obtain ⟨fr, rfl, u1⟩ := trod_num Try.underlying25 g1
  obtain ⟨t, rfl, u2⟩ := trod_num Try.underlying25 g2
  obtain ⟨c, rfl, u3⟩ := trod_num Try.underlying5 g3
  obtain ⟨a, n, cap, rfl, hr⟩ := trod_body g4
  refine ⟨k, fr, t, c, a, n, cap, ?_, wf_u32 u1, wf_u32 u2, wf_u8 u3, hr⟩
  congr 1
  apply Array.toList_inj.1
  rw [hcs]
end

theorem three {zs : List Int} (h : zs.length = 3) : ∃ a b c, zs = [a, b, c] := by
  match zs, h with
  | [a, b, c], _ => exact ⟨a, b, c, rfl⟩

set_option maxRecDepth 100000 in
theorem errors_lifted (os : Os) (started : os.Started) (H : Type) (enc : TypeId × Value → H) :
    ReturnsInHanded {} Try.checked os 5 .any (Rows.transactionsErrorsSpec.pre6 enc Try.prog Try.f5 Rows.transactionsErrorsRow.domain false) (Rows.transactionsErrorsSpec.post enc Try.prog Try.f5 false true false false) := by
  refine returnsInHanded_of_change (C := Try.checked) own started (by kernel_rfl) Try.func5
    (ChangeSpec.witness6 (enc := enc) (C := Try.checked) false ⟨#[], #[.int .u16 0, .agg #[.int .u8 0, .int .u32 0, .int .u32 0, .int .u8 0, .slice none 0 0], .agg #[.int .u16 0, .int .u16 0, .int .u16 0]], []⟩ 8 (by kernel_rfl) (by kernel_rfl) (by kernel_rfl) (by kernel_rfl)) ?_
  intro W base args ds gs before hval0 hW hcnd _
  have hval : ∀ (j : Nat) t v, Try.f5.params[j]? = some t → args[j]? = some v → Value.okWide Try.prog W .any base t v := hval0
  have hW' := hW
  obtain ⟨p, q, hA0, hV, rfl, hfz, hnd⟩ := hW
  have hA : DataW.TrodAll enc Try.prog W 0 (fun _ => true) true Try.f5.params.toList args.toList ds p := hA0
  rw [Try.params5] at hA hval
  obtain ⟨v0, v1, v2, d0, d1, d2, p0, p1, p2, hargs, rfl, rfl, h0, h1, h2⟩ := trodAll_three hA
  obtain rfl : args = #[v0, v1, v2] := by cases args; simp_all
  obtain ⟨pt, rfl, rfl, rfl, u0⟩ := open_int Try.underlying38 (hval 0 38 v0 rfl rfl) h0
  obtain ⟨k, fr, t, c, a, n, cap, rfl, q1, q2, q3, q4⟩ := open_msg (hval 1 46 v1 rfl rfl) h1
  obtain ⟨zs, hz3, rfl, hzw⟩ := open_arr_ints Try.underlying64 Try.underlying38 (by kernel_rfl) (by kernel_rfl) (hval 2 64 v2 rfl rfl) h2
  obtain ⟨x, y, z, rfl⟩ := three hz3
  have ok : Arg.Ok ⟨pt, k, fr, t, c, a, n, cap, x, y, z⟩ W := ⟨wf_u16 u0, q1, q2, q3, wf_u16 (hzw x (by simp)), wf_u16 (hzw y (by simp)), wf_u16 (hzw z (by simp)), q4⟩
  refine (errors_walk ok).mono fun e W' ⟨he, hb⟩ => ?_
  subst he
  exact ⟨_, rfl, law_post laidOut (by kernel_rfl) rfl rfl Try.underlying4 rfl hW' hb⟩

theorem TransactionsErrors : Rows.TransactionsErrorsSaid :=
  OpenClaim.holds_of_wide 5 Try.f5 rfl rfl rfl rfl rfl rfl rfl ⟨rfl, rfl, rfl, rfl, rfl⟩ rfl rfl rfl rfl rfl (by kernel_rfl) Try.func5 (by kernel_rfl)
    (of_decide_eq_true (by kernel_rfl)) (by unfold Func.isWrapper; first | (rw [if_pos (by decide +kernel)]; kernel_rfl) | (rw [if_neg (by decide +kernel)]; exact ⟨rfl, rfl⟩))
    (fun os started H enc _ => errors_lifted os started H enc)
#print axioms TransactionsErrors

end Go.Proofs.Ythfhdmogocphpaa
