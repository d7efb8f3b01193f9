/-
  Opening arguments: arrays of whole numbers by value. No program is named here.
-/
import Derived.WalkKit
import Derived.ProofKit
import Derived.OpenShut
namespace Go.PC
open Go.ChangeShapes Go.WideShapes Go.ChangeAt Go.RowKit

section
variable {H : Type} {enc : TypeId × Value → H} {P : Program} {w : World} {base : Nat} {spare : Nat → Bool} {held : Bool}

theorem open_arr_ints {r : Reach} {b0 : Nat} {t e : TypeId} {n : Nat} {q : IntKind} {v : Value} {d : DataW H} {p : List MemPlace} (ht : P.underlying t = some (.array n e)) (he : P.underlying e = some (.int q)) (hc : P.cellsOf e = 1) (hC : P.cellsOf t = n)
    (hv : Value.okWide P w r b0 t v) (h : DataW.Trod enc P w base spare held t v d p) : ∃ zs : List Int, zs.length = n ∧ v = .agg (zs.map (Value.int q)).toArray ∧ ∀ z ∈ zs, (Lit.int q z).wf = true := by
  have hva : ∃ cs, v = .agg cs := by
    simp only [Value.okWide, ht] at hv
    cases v <;> simp_all
  obtain ⟨cs, rfl⟩ := hva
  obtain ⟨fuel, hf⟩ := h
  obtain ⟨xs, m, _, _, hl, hxl, hx⟩ := DataW.trod_array ht hf
  simp only [Value.cells] at hl hx
  rw [hC] at hl
  have hget : ∀ i (hi : i < n), ∃ z : Int, cs.toList[i]'(by omega) = .int q z ∧ (Lit.int q z).wf = true := by
    intro i hi
    have h1 := hx i hi
    rw [hc, Nat.mul_one, List.drop_eq_getElem_cons (by omega)] at h1
    have h2 : xs[i]? = some xs[i] := List.getElem?_eq_getElem (by omega)
    rw [h2] at h1
    simp only [List.take_succ_cons, List.take_zero] at h1
    obtain ⟨z, h3, _, h4⟩ := DataW.trod_int he h1
    exact ⟨z, by simpa using h3, h4⟩
  refine ⟨cs.toList.map (fun v => match v with | .int _ z => z | _ => 0), by simpa using hl, ?_, ?_⟩
  · congr 1
    apply Array.toList_inj.1
    apply List.ext_getElem
    · simp
    · intro i h1 h2
      obtain ⟨z, hz, _⟩ := hget i (by omega)
      simp only [List.map_map, List.getElem_map, Function.comp]
      rw [hz]
  · intro z hz
    obtain ⟨u, hu, rfl⟩ := List.mem_map.1 hz
    obtain ⟨i, hi, rfl⟩ := List.getElem_of_mem hu
    obtain ⟨z', hz', hw⟩ := hget i (by omega)
    rw [hz']
    exact hw

theorem open_arr_ints2 {r : Reach} {b0 : Nat} {t e : TypeId} {q : IntKind} {v : Value} {d : DataW H} {p : List MemPlace} (ht : P.underlying t = some (.array 2 e)) (he : P.underlying e = some (.int q)) (hc : P.cellsOf e = 1) (hC : P.cellsOf t = 2)
    (hv : Value.okWide P w r b0 t v) (h : DataW.Trod enc P w base spare held t v d p) : ∃ a b : Int, v = .agg #[.int q a, .int q b] ∧ (Lit.int q a).wf = true ∧ (Lit.int q b).wf = true := by
  obtain ⟨zs, hl, hvz, hw⟩ := open_arr_ints ht he hc hC hv h
  match zs, hl with
  | [a, b], _ => exact ⟨a, b, hvz, hw a (by simp), hw b (by simp)⟩
end

end Go.PC
