import Derived.Test.YthfhdmogocphpaaRows
import Derived.Test.YthfhdmogocphpaaVfWc
import Derived.Test.YthfhdmogocphpaaVfP
import Derived.Test.YthfhdmogocphpaaLvT
import Derived.WalkKit
import Derived.ProofKit
import Derived.OpenShut
import Derived.ShutString
import Derived.ChangeOld
import Derived.Below
/-
  The law TransactionsCodes holds for every input. Conditions: those of the given statement alone.
-/
set_option linter.unusedVariables false
set_option linter.unusedSimpArgs false
namespace Vf
open Go Go.Vx Go.Proofs
structure S46 where
  mk ::
  c0 : Int
  c1 : Int
  c2 : Int
  c3 : Int
  c4 : (List Int)
  deriving Inhabited
def enc46 (x : S46) : Value := .agg #[.int .u8 x.c0, .int .u32 x.c1, .int .u32 x.c2, .int .u8 x.c3, ls 1 false (encI .u8) x.c4]
theorem enc46_eq (x : S46) : enc46 x = .agg #[.int .u8 x.c0, .int .u32 x.c1, .int .u32 x.c2, .int .u8 x.c3, ls 1 false (encI .u8) x.c4] := rfl
theorem enc46_ok : EncOk 5 true enc46 := by
  refine ⟨fun x => by rw [enc46_eq]; rfl, fun x c h => ?_, fun x => ⟨_, enc46_eq x⟩⟩
  rw [enc46_eq] at h
  simp only [Value.cells, List.mem_cons, List.not_mem_nil, or_false] at h
  rcases h with rfl | rfl | rfl | rfl | rfl <;> exact ⟨rfl, rfl⟩
def ok46 (x : S46) : Prop := ((Lit.int .u8 x.c0).wf = true) ∧ ((Lit.int .u32 x.c1).wf = true) ∧ ((Lit.int .u32 x.c2).wf = true) ∧ ((Lit.int .u8 x.c3).wf = true) ∧ (x.c4.length < 9223372036854775808 ∧ ∀ y, y ∈ x.c4 → (Lit.int .u8 y).wf = true)
theorem open46 {w : World} : Opens Try.prog w 46 5 enc46 ok46 := by
  intro H e base fuel held cs x hn h
  obtain ⟨xs, m, _, _, hl, hxl, hx⟩ := DataW.trod_struct Try.underlying46 h
  obtain ⟨y0, o0, r0⟩ := Opens.field (k := 1) (off := 0) (Opens.int Try.underlying44) (by kernel_rfl) (by omega) (i := 0) (by rw [hxl]; decide) (hx 0 _ rfl)
  obtain ⟨y1, o1, r1⟩ := Opens.field (k := 1) (off := 1) (Opens.int Try.underlying25) (by kernel_rfl) (by omega) (i := 1) (by rw [hxl]; decide) (hx 1 _ rfl)
  obtain ⟨y2, o2, r2⟩ := Opens.field (k := 1) (off := 2) (Opens.int Try.underlying25) (by kernel_rfl) (by omega) (i := 2) (by rw [hxl]; decide) (hx 2 _ rfl)
  obtain ⟨y3, o3, r3⟩ := Opens.field (k := 1) (off := 3) (Opens.int Try.underlying5) (by kernel_rfl) (by omega) (i := 3) (by rw [hxl]; decide) (hx 3 _ rfl)
  obtain ⟨y4, o4, r4⟩ := Opens.field (k := 1) (off := 4) (Opens.slice Try.underlying35 (k := 1) (by kernel_rfl) (encI_cells .u8) (Opens.int Try.underlying5)) (by kernel_rfl) (by omega) (i := 4) (by rw [hxl]; decide) (hx 4 _ rfl)
  refine ⟨⟨y0, y1, y2, y3, y4⟩, ⟨o0, o1, o2, o3, o4⟩, fun j u hj => ?_⟩
  rw [enc46_eq] at hj
  exact at_all (at_cons (r0 0 _ rfl) (at_cons (r1 0 _ rfl) (at_cons (r2 0 _ rfl) (at_cons (r3 0 _ rfl) (at_cons (r4 0 _ rfl) at_nil))))) j u hj
end Vf
namespace Go.Proofs.Ythfhdmogocphpaa.transactionsCodes
open Go.ChangeShapes Go.WideShapes Go.ChangeAt Go.RowKit Go.Vx Vf
theorem own : ownKnob Try.prog.godebug = none := by kernel_rfl
theorem laidOut : laidOutB Try.prog = true := by kernel_rfl
set_option maxRecDepth 100000 in
theorem lifted (os : Os) (started : os.Started) (H : Type) (enc : TypeId × Value → H) :
    ReturnsInHanded {} Try.checked os 6 .any (Rows.transactionsCodesSpec.pre6 enc Try.prog Try.f6 Rows.transactionsCodesRow.domain false) (Rows.transactionsCodesSpec.post enc Try.prog Try.f6 false true false false) := by
  refine returnsInHanded_of_change (C := Try.checked) own started (by kernel_rfl) Try.func6
    (ChangeSpec.witness6 (enc := enc) (C := Try.checked) false ⟨#[], #[.agg #[.int .u8 0, .int .u32 0, .int .u32 0, .int .u8 0, .slice none 0 0], .int .u8 0, .slice none 0 0], []⟩ 8 (by kernel_rfl) (by kernel_rfl) (by kernel_rfl) (by kernel_rfl)) ?_
  intro W base args ds gs before hval0 hW hcnd _
  have hval : ∀ (j : Nat) t v, Try.f6.params[j]? = some t → args[j]? = some v → Value.okWide Try.prog W .any base t v := hval0
  have hW' := hW
  obtain ⟨p, q, hA0, hV, rfl, hfz, hnd⟩ := hW
  have hA : DataW.TrodAll enc Try.prog W 0 (fun _ => true) true Try.f6.params.toList args.toList ds p := hA0
  rw [Try.params6] at hA hval
  obtain ⟨v0, vs0, d0, ds0, p0, q0, hargs, rfl, rfl, h0, r0⟩ := trodAll_cons hA
  obtain ⟨v1, vs1, d1, ds1, p1, q1, rfl, rfl, rfl, h1, r1⟩ := trodAll_cons r0
  obtain ⟨v2, vs2, d2, ds2, p2, q2, rfl, rfl, rfl, h2, r2⟩ := trodAll_cons r1
  obtain ⟨rfl, rfl, rfl⟩ := trodAll_nil r2
  obtain rfl : args = #[v0, v1, v2] := by cases args; simp_all
  obtain ⟨rfl, rfl⟩ := trodVars_none hV
  have lt0 : ∀ x ∈ p0, x.block < W.heap.size := by obtain ⟨m, hm⟩ := h0; exact DataW.trod_lt m _ _ _ hm
  have lt1 : ∀ x ∈ p1, x.block < W.heap.size := by obtain ⟨m, hm⟩ := h1; exact DataW.trod_lt m _ _ _ hm
  have lt2 : ∀ x ∈ p2, x.block < W.heap.size := by obtain ⟨m, hm⟩ := h2; exact DataW.trod_lt m _ _ _ hm
  obtain ⟨y0, o0, e0⟩ := arg_struct Try.underlying46 (k := 5) (by kernel_rfl) (fun y => ⟨_, enc46_eq y, rfl⟩) open46 (hval 0 46 v0 rfl rfl) h0
  obtain ⟨y1, o1, e1⟩ := arg_int Try.underlying5 (hval 1 5 v1 rfl rfl) h1
  obtain ⟨y2, o2, e2⟩ := arg_slice Try.underlying35 (k := 1) (by kernel_rfl) (encI_cells .u8) (Opens.int Try.underlying5) (hval 2 35 v2 rfl rfl) h2
  rw [enc46_eq] at e0
  have hp : Vf.law (y0.c0, y0.c1, y0.c2, y0.c3, y0.c4, y1, y2) = some true := law_true ⟨wf_u8 o0.1, wf_u32 o0.2.1, wf_u32 o0.2.2.1, wf_u8 o0.2.2.2.1, fun b hb => wf_u8 (o0.2.2.2.2.2 b hb), o0.2.2.2.2.1⟩ (wf_u8 o1).1 (fun b hb => wf_u8 (o2.2 b hb)) o2.1
  refine ((Vf.law_ok _ _ hp W (lives_pto W)).calls (Rels.arr (m := [v0, v1, v2]) ⟨e0, ⟨e1, ⟨e2, trivial⟩⟩⟩)).mono fun e W' ⟨he, bel⟩ => ?_
  subst he
  exact ⟨_, rfl, _, _, _, [], _, [], hW', trodAll_mk1 (shut_bool Try.underlying4 _), (trodAll_cons_mk (Below.trod laidOut (by kernel_rfl) (of_decide_eq_true (by kernel_rfl)) h0 bel lt0) (trodAll_cons_mk (Below.trod laidOut (by kernel_rfl) (of_decide_eq_true (by kernel_rfl)) h1 bel lt1) (trodAll_cons_mk (Below.trod laidOut (by kernel_rfl) (of_decide_eq_true (by kernel_rfl)) h2 bel lt2) trodAll_mk0))), rfl, bel.frame _, fun h => by cases h⟩
theorem over : Rows.transactionsCodesRow.holds Try.pinned (OpenSpec.ofChange Rows.transactionsCodesSpec) :=
  OpenClaim.holds_of_wide 6 Try.f6 rfl rfl rfl rfl rfl rfl rfl ⟨rfl, rfl, rfl, rfl, rfl⟩ rfl rfl rfl rfl rfl (by kernel_rfl) Try.func6 (by kernel_rfl)
    (of_decide_eq_true (by kernel_rfl)) (by unfold Func.isWrapper; first | (rw [if_pos (by decide +kernel)]; kernel_rfl) | (rw [if_neg (by decide +kernel)]; exact ⟨rfl, rfl⟩))
    (fun os started H enc _ => lifted os started H enc)
theorem proved : Rows.TransactionsCodesSaid := over
end Go.Proofs.Ythfhdmogocphpaa.transactionsCodes
namespace Go.Proofs.Ythfhdmogocphpaa
/-- The row, under a short name, for the claim. -/
theorem transactionsCodes_holds : Rows.TransactionsCodesSaid := transactionsCodes.proved
theorem TransactionsCodes : Rows.TransactionsCodesSaid := transactionsCodes.proved
#print axioms TransactionsCodes
end Go.Proofs.Ythfhdmogocphpaa
