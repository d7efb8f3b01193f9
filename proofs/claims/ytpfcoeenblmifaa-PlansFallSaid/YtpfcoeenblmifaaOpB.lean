/-
  Opening arguments: a row of bytes.
-/
import Derived.Test.YtpfcoeenblmifaaOpN
import Derived.Test.YtpfcoeenblmifaaFal
namespace Go.Proofs.Ytpfcoeenblmifaa
open Go.ChangeShapes Go.WideShapes Go.ChangeAt Go.RowKit Go.PC

set_option maxRecDepth 100000 in
theorem open_bytes {H : Type} {enc : TypeId × Value → H} {w : World} {base : Nat} {held : Bool} {v : Value} {d : DataW H} {p : List MemPlace} {r : Reach} {b0 : Nat} (hv : Value.okWide Try.prog w r b0 51 v) (h : DataW.Trod enc Try.prog w base (fun _ => true) held 51 v d p) :
    ∃ (ws : List Int) (wa : Option Addr) (wc : Nat), v = .slice wa ws.length wc ∧ RdW w wa ws ∧ ∀ z ∈ ws, U8 z := by
  obtain ⟨a0, l0, c0, rfl⟩ := okWide_slice Try.underlying51 hv
  obtain ⟨fuel, hf⟩ := h
  have hf : DataW.trod enc Try.prog w base (fun _ => true) held fuel 51 [.slice a0 l0 c0] = some (d, p) := hf
  rcases Go.Deep.open_slice Try.underlying51 hf with ⟨hv, _⟩ | ⟨a, len, cap, m, n, D, Pl, hv, _, hl, _, hm, _, hi⟩
  · exact ⟨[], none, 0, by simpa using hv, Or.inl rfl, fun z hz => by cases hz⟩
  · simp only [if_true] at hm
    subst hm
    have hce : Try.prog.cellsOf 5 = 1 := by kernel_rfl
    rw [hce] at hi
    have hall : ∀ i, i < len → ∃ z : Int, w.cell? (a.add i) = some (.int .u8 z) ∧ U8 z := by
      intro i hil
      obtain ⟨cs', hcs, ht⟩ := hi i (by omega)
      obtain ⟨_, hcl, hat⟩ := World.cells?_some hcs
      obtain ⟨z, hz, hu⟩ := trod_u8 ht
      subst hz
      have := hat 0 (by decide)
      rw [Go.Deep.add_add] at this
      exact ⟨z, by simpa using this, hu⟩
    obtain ⟨f, hf⟩ := Go.Deep.choose_lt hall
    refine ⟨(List.range len).map f, some a, m, by simpa using hv, ?_, fun z hz => ?_⟩
    · by_cases hl0 : len = 0
      · exact Or.inl (by simp [hl0])
      · obtain ⟨hc0, _⟩ := hf 0 (by omega)
        obtain ⟨b, off, spot⟩ := a
        have hspot : spot = none := by simpa [Addr.add] using World.cell?_spot hc0
        subst hspot
        refine Or.inr ⟨b, off, rfl, fun i z hz => ?_⟩
        have hil := (List.getElem?_eq_some_iff.1 hz).1
        simp only [List.length_map, List.length_range] at hil
        obtain rfl : f i = z := by simpa [List.getElem?_range hil] using hz
        have := (hf i hil).1
        rwa [Addr.add_lit] at this
    · obtain ⟨i, hi', rfl⟩ := List.mem_map.1 hz
      exact (hf i (List.mem_range.1 hi')).2

end Go.Proofs.Ytpfcoeenblmifaa
