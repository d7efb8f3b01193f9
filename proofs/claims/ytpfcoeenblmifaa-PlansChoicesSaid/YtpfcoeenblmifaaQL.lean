/-
  Plans: the laws' common beginning.
-/
import Derived.Test.YtpfcoeenblmifaaQA
import Derived.Test.YtpfcoeenblmifaaQE
namespace Go.Proofs.Ytpfcoeenblmifaa
open Go.RowKit Go.PC

theorem RdE.keep {w w' : World} {a : Option Addr} {ex : List (Int × Int × Int)} (h : RdE w a ex) (ho : Only (fun _ => False) w w') : RdE w' a ex := by
  rcases h with h | ⟨b, off, h1, h2⟩
  · exact Or.inl h
  · refine Or.inr ⟨b, off, h1, fun i z hz => ?_⟩
    obtain ⟨a1, a2, a3⟩ := h2 i z hz
    exact ⟨ho.cell a1 (by simp), ho.cell a2 (by simp), ho.cell a3 (by simp)⟩

/-- What N.Of returns. -/
def OfR (w : World) (e : Ending) (w' : World) : Prop := Only (fun _ => False) w w' ∧ ∃ pa la pc lc P, e = .returned (planV pa la pc lc P) ∧ Small pa la P w' ∧ 2 ≤ P.ps.length ∧ P.ps.length ≤ 6 ∧ Good P.ls

theorem nx_lit (x : Nx) (h : NxOK x) : ∃ (many c0 c1 c2 c3 c4 c5 ends t0 t1 t2 t3 t4 t5 : Int) (ex : List (Int × Int × Int)) (rate room k0 k1 : Int), x = ⟨many, [c0, c1, c2, c3, c4, c5], ends, [t0, t1, t2, t3, t4, t5], ex, rate, room, k0, k1⟩ := by
  obtain ⟨many, codes, ends, tree, ex, rate, room, k0, k1⟩ := x
  obtain ⟨_, ⟨h2, _⟩, _, ⟨h4, _⟩, _⟩ := h
  simp only at h2 h4
  match codes, h2, tree, h4 with
  | [c0, c1, c2, c3, c4, c5], _, [t0, t1, t2, t3, t4, t5], _ => exact ⟨many, c0, c1, c2, c3, c4, c5, ends, t0, t1, t2, t3, t4, t5, ex, rate, room, k0, k1, rfl⟩

theorem of_lit {many c0 c1 c2 c3 c4 c5 ends t0 t1 t2 t3 t4 t5 : Int} {ex : List (Int × Int × Int)} {rate room k0 k1 : Int} (hx : NxOK ⟨many, [c0, c1, c2, c3, c4, c5], ends, [t0, t1, t2, t3, t4, t5], ex, rate, room, k0, k1⟩) (ea : Option Addr) (ec : Nat) (w : World) (hre : RdE w ea ex) :
    Calls Try.prog 9 #[.agg #[.int .u8 many, .int .u8 c0, .int .u8 c1, .int .u8 c2, .int .u8 c3, .int .u8 c4, .int .u8 c5, .int .u8 ends, .int .u8 t0, .int .u8 t1, .int .u8 t2, .int .u8 t3, .int .u8 t4, .int .u8 t5, .slice ea ex.length ec, .int .u8 rate, .int .u8 room, .int .u8 k0, .int .u8 k1]] w (OfR w) := of_ok ⟨many, [c0, c1, c2, c3, c4, c5], ends, [t0, t1, t2, t3, t4, t5], ex, rate, room, k0, k1⟩ ea ec hx w hre

theorem relay19 {w : World} {B : Nat} {t : TypeId} {v0 v1 v2 v3 v4 v5 v6 v7 v8 v9 v10 v11 v12 v13 v14 v15 v16 v17 v18 : Value} (h : w.heap[B]? = some (.cells #[v0, v1, v2, v3, v4, v5, v6, v7, v8, v9, v10, v11, v12, v13, v14, v15, v16, v17, v18] t)) :
    w.cell? ⟨B, 0, none⟩ = some v0 ∧ w.cell? ⟨B, 1, none⟩ = some v1 ∧ w.cell? ⟨B, 2, none⟩ = some v2 ∧ w.cell? ⟨B, 3, none⟩ = some v3 ∧ w.cell? ⟨B, 4, none⟩ = some v4 ∧ w.cell? ⟨B, 5, none⟩ = some v5 ∧ w.cell? ⟨B, 6, none⟩ = some v6 ∧ w.cell? ⟨B, 7, none⟩ = some v7 ∧ w.cell? ⟨B, 8, none⟩ = some v8 ∧ w.cell? ⟨B, 9, none⟩ = some v9 ∧ w.cell? ⟨B, 10, none⟩ = some v10 ∧ w.cell? ⟨B, 11, none⟩ = some v11 ∧ w.cell? ⟨B, 12, none⟩ = some v12 ∧ w.cell? ⟨B, 13, none⟩ = some v13 ∧ w.cell? ⟨B, 14, none⟩ = some v14 ∧ w.cell? ⟨B, 15, none⟩ = some v15 ∧ w.cell? ⟨B, 16, none⟩ = some v16 ∧ w.cell? ⟨B, 17, none⟩ = some v17 ∧ w.cell? ⟨B, 18, none⟩ = some v18 := by
  have hc : ∀ j, w.cell? ⟨B, j, none⟩ = _ := fun j => cell_of_row w B j _ _ _ h
  exact ⟨hc 0, hc 1, hc 2, hc 3, hc 4, hc 5, hc 6, hc 7, hc 8, hc 9, hc 10, hc 11, hc 12, hc 13, hc 14, hc 15, hc 16, hc 17, hc 18⟩

end Go.Proofs.Ytpfcoeenblmifaa
