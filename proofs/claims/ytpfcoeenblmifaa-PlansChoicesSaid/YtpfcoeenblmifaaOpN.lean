/-
  Opening arguments: the laws' plan as plain data.
-/
import Derived.Test.YtpfcoeenblmifaaQF
import Derived.Test.YtpfcoeenblmifaaLawRow
import Derived.Test.YtpfcoeenblmifaaOpen
import Derived.Deep.Slices
namespace Go.Proofs.Ytpfcoeenblmifaa
open Go.ChangeShapes Go.WideShapes Go.ChangeAt Go.RowKit Go.PC

theorem u8_of {z : Int} (h : (Lit.int .u8 z).wf = true) : U8 z := by
  have e1 : IntKind.u8.min = 0 := by decide
  have e2 : IntKind.u8.max = 255 := by decide
  simp [Lit.wf, e1, e2] at h
  unfold U8
  omega

theorem list19 {l : List Value} (h : l.length = 19) : ∃ v0 v1 v2 v3 v4 v5 v6 v7 v8 v9 v10 v11 v12 v13 v14 v15 v16 v17 v18, l = [v0, v1, v2, v3, v4, v5, v6, v7, v8, v9, v10, v11, v12, v13, v14, v15, v16, v17, v18] := by
  match l, h with
  | [v0, v1, v2, v3, v4, v5, v6, v7, v8, v9, v10, v11, v12, v13, v14, v15, v16, v17, v18], _ => exact ⟨v0, v1, v2, v3, v4, v5, v6, v7, v8, v9, v10, v11, v12, v13, v14, v15, v16, v17, v18, rfl⟩

section
variable {H : Type} {enc : TypeId × Value → H} {w : World} {base : Nat} {held : Bool}

theorem trod_u8 {fuel : Nat} {cs : List Value} {x : DataW H × List MemPlace} (h : DataW.trod enc Try.prog w base (fun _ => true) held fuel 5 cs = some x) : ∃ z, cs = [.int .u8 z] ∧ U8 z := by
  obtain ⟨z, h1, _, h2⟩ := DataW.trod_int Try.underlying5 h
  exact ⟨z, h1, u8_of h2⟩

theorem trod_u8s {fuel n : Nat} {t : TypeId} {cs : List Value} {x : DataW H × List MemPlace} (ht : Try.prog.underlying t = some (.array n 5)) (hn : cs.length = n) (h : DataW.trod enc Try.prog w base (fun _ => true) held fuel t cs = some x) :
    ∃ zs : List Int, zs.length = n ∧ cs = zs.map (.int .u8 ·) ∧ ∀ z ∈ zs, U8 z := by
  obtain ⟨xs, m, _, _, _, hxl, hx⟩ := DataW.trod_array ht h
  have hc : Try.prog.cellsOf 5 = 1 := by kernel_rfl
  have hget : ∀ i (hi : i < n), ∃ z : Int, cs[i]'(by omega) = .int .u8 z ∧ U8 z := by
    intro i hi
    have h1 := hx i hi
    rw [hc, Nat.mul_one, List.drop_eq_getElem_cons (by omega)] at h1
    have h2 : xs[i]? = some xs[i] := List.getElem?_eq_getElem (by omega)
    rw [h2] at h1
    simp only [List.take_succ_cons, List.take_zero] at h1
    obtain ⟨z, h3, h4⟩ := trod_u8 h1
    exact ⟨z, by simpa using h3, h4⟩
  refine ⟨cs.map (fun v => match v with | .int _ z => z | _ => 0), by simpa using hn, ?_, ?_⟩
  · apply List.ext_getElem
    · simp
    · intro i h1 h2
      obtain ⟨z, hz, _⟩ := hget i (by omega)
      simp only [List.map_map, List.getElem_map, Function.comp]
      rw [hz]
  · intro z hz
    obtain ⟨u, hu, rfl⟩ := List.mem_map.1 hz
    obtain ⟨i, hi, rfl⟩ := List.getElem_of_mem hu
    obtain ⟨z', hz', hw⟩ := hget i (by omega)
    rw [hz']
    exact hw

theorem three {zs : List Int} (h : zs.length = 3) : ∃ a b c, zs = [a, b, c] := by
  match zs, h with
  | [a, b, c], _ => exact ⟨a, b, c, rfl⟩
theorem six {zs : List Int} (h : zs.length = 6) : ∃ a b c d e f, zs = [a, b, c, d, e, f] := by
  match zs, h with
  | [a, b, c, d, e, f], _ => exact ⟨a, b, c, d, e, f, rfl⟩
theorem two {zs : List Int} (h : zs.length = 2) : ∃ a b, zs = [a, b] := by
  match zs, h with
  | [a, b], _ => exact ⟨a, b, rfl⟩

theorem open_extra {fuel : Nat} {v : Value} {x : DataW H × List MemPlace} (h : DataW.trod enc Try.prog w base (fun _ => true) held fuel 23 [v] = some x) :
    ∃ (ex : List (Int × Int × Int)) (ea : Option Addr) (ec : Nat), v = .slice ea ex.length ec ∧ RdE w ea ex ∧ ∀ z ∈ ex, U8 z.1 ∧ U8 z.2.1 ∧ U8 z.2.2 := by
  rcases Go.Deep.open_slice Try.underlying23 h with ⟨hv, _⟩ | ⟨a, len, cap, m, n, D, Pl, hv, _, hl, _, hm, _, hi⟩
  · refine ⟨[], none, 0, by simpa using hv, Or.inl rfl, fun z hz => by cases hz⟩
  · simp only [if_true] at hm
    subst hm
    have hv' : v = .slice (some a) len m := by simpa using hv
    have hce : Try.prog.cellsOf 69 = 3 := by kernel_rfl
    rw [hce] at hi
    have hall : ∀ i, i < len → ∃ z : Int × Int × Int, (w.cell? (a.add (i * 3)) = some (.int .u8 z.1) ∧ w.cell? (a.add (i * 3 + 1)) = some (.int .u8 z.2.1) ∧ w.cell? (a.add (i * 3 + 2)) = some (.int .u8 z.2.2)) ∧ U8 z.1 ∧ U8 z.2.1 ∧ U8 z.2.2 := by
      intro i hil
      obtain ⟨cs', hcs, ht⟩ := hi i (by omega)
      obtain ⟨_, hcl, hat⟩ := World.cells?_some hcs
      obtain ⟨zs, hz3, hze, hzw⟩ := trod_u8s Try.underlying69 hcl ht
      obtain ⟨p, q, r, rfl⟩ := three hz3
      subst hze
      refine ⟨(p, q, r), ⟨?_, ?_, ?_⟩, hzw p (by simp), hzw q (by simp), hzw r (by simp)⟩
      · have := hat 0 (by decide); rw [Go.Deep.add_add] at this; simpa using this
      · have := hat 1 (by decide); rw [Go.Deep.add_add] at this; simpa using this
      · have := hat 2 (by decide); rw [Go.Deep.add_add] at this; simpa using this
    obtain ⟨f, hf⟩ := Go.Deep.choose_lt hall
    refine ⟨(List.range len).map f, some a, m, by simpa using hv', ?_, fun z hz => ?_⟩
    · by_cases hl0 : len = 0
      · exact Or.inl (by simp [hl0])
      · obtain ⟨⟨hc0, _⟩, _⟩ := hf 0 (by omega)
        obtain ⟨b, off, spot⟩ := a
        have hspot : spot = none := by simpa [Addr.add] using World.cell?_spot hc0
        subst hspot
        refine Or.inr ⟨b, off, rfl, fun i z hz => ?_⟩
        have hil := (List.getElem?_eq_some_iff.1 hz).1
        simp only [List.length_map, List.length_range] at hil
        obtain rfl : f i = z := by simpa [List.getElem?_range hil] using hz
        obtain ⟨⟨a1, a2, a3⟩, _⟩ := hf i hil
        rw [Addr.add_lit] at a1 a2 a3
        exact ⟨a1, a2, a3⟩
    · obtain ⟨i, hi', rfl⟩ := List.mem_map.1 hz
      exact (hf i (List.mem_range.1 hi')).2

set_option maxRecDepth 100000 in
theorem open_nx {r : Reach} {b0 : Nat} {v : Value} {d : DataW H} {p : List MemPlace} (hv : Value.okWide Try.prog w r b0 26 v) (h : DataW.Trod enc Try.prog w base (fun _ => true) held 26 v d p) :
    ∃ (x : Nx) (ea : Option Addr) (ec : Nat), v = .agg (nxCells x (.slice ea x.ex.length ec)).toArray ∧ NxOK x ∧ RdE w ea x.ex := by
  have hva : ∃ cs, v = .agg cs := by
    simp only [Value.okWide, Try.underlying26] at hv
    cases v <;> simp_all
  obtain ⟨cs, rfl⟩ := hva
  obtain ⟨fuel, hf⟩ := h
  obtain ⟨xs, m, _, _, hl, hxl, hx⟩ := DataW.trod_struct Try.underlying26 hf
  have hl : cs.toList.length = Try.prog.cellsOf 26 := hl
  have hx : ∀ (i : Nat) (f : Field), _ → DataW.trod enc Try.prog w base (fun _ => true) held m f.type (List.take (Try.prog.cellsOf f.type) (List.drop f.offset cs.toList)) = xs[i]? := hx
  have hC : Try.prog.cellsOf 26 = 19 := by kernel_rfl
  rw [hC] at hl
  obtain ⟨v0, v1, v2, v3, v4, v5, v6, v7, v8, v9, v10, v11, v12, v13, v14, v15, v16, v17, v18, hcs⟩ := list19 hl
  rw [hcs] at hx
  have hxi : ∀ i, i < 8 → ∃ y, xs[i]? = some y := fun i hi => ⟨_, List.getElem?_eq_getElem (by rw [hxl]; exact hi)⟩
  have g0 := hx 0 _ rfl
  have g1 := hx 1 _ rfl
  have g2 := hx 2 _ rfl
  have g3 := hx 3 _ rfl
  have g4 := hx 4 _ rfl
  have g5 := hx 5 _ rfl
  have g6 := hx 6 _ rfl
  have g7 := hx 7 _ rfl
  obtain ⟨y0, e0⟩ := hxi 0 (by decide)
  obtain ⟨y1, e1⟩ := hxi 1 (by decide)
  obtain ⟨y2, e2⟩ := hxi 2 (by decide)
  obtain ⟨y3, e3⟩ := hxi 3 (by decide)
  obtain ⟨y4, e4⟩ := hxi 4 (by decide)
  obtain ⟨y5, e5⟩ := hxi 5 (by decide)
  obtain ⟨y6, e6⟩ := hxi 6 (by decide)
  obtain ⟨y7, e7⟩ := hxi 7 (by decide)
  have hc5 : Try.prog.cellsOf 5 = 1 := by kernel_rfl
  have hc22 : Try.prog.cellsOf 22 = 6 := by kernel_rfl
  have hc23 : Try.prog.cellsOf 23 = 1 := by kernel_rfl
  have hc24 : Try.prog.cellsOf 24 = 2 := by kernel_rfl
  rw [e0] at g0; rw [e1] at g1; rw [e2] at g2; rw [e3] at g3; rw [e4] at g4; rw [e5] at g5; rw [e6] at g6; rw [e7] at g7
  have G : ∀ (t off n : Nat) (y : DataW H × List MemPlace), Try.prog.cellsOf t = n → DataW.trod enc Try.prog w base (fun _ => true) held m t (([v0, v1, v2, v3, v4, v5, v6, v7, v8, v9, v10, v11, v12, v13, v14, v15, v16, v17, v18].drop off).take (Try.prog.cellsOf t)) = some y → DataW.trod enc Try.prog w base (fun _ => true) held m t (([v0, v1, v2, v3, v4, v5, v6, v7, v8, v9, v10, v11, v12, v13, v14, v15, v16, v17, v18].drop off).take n) = some y := fun t off n y h1 h2 => by rw [h1] at h2; exact h2
  have g0 : DataW.trod enc Try.prog w base (fun _ => true) held m 5 [v0] = some y0 := G 5 0 1 y0 hc5 g0
  have g1 : DataW.trod enc Try.prog w base (fun _ => true) held m 22 [v1, v2, v3, v4, v5, v6] = some y1 := G 22 1 6 y1 hc22 g1
  have g2 : DataW.trod enc Try.prog w base (fun _ => true) held m 5 [v7] = some y2 := G 5 7 1 y2 hc5 g2
  have g3 : DataW.trod enc Try.prog w base (fun _ => true) held m 22 [v8, v9, v10, v11, v12, v13] = some y3 := G 22 8 6 y3 hc22 g3
  have g4 : DataW.trod enc Try.prog w base (fun _ => true) held m 23 [v14] = some y4 := G 23 14 1 y4 hc23 g4
  have g5 : DataW.trod enc Try.prog w base (fun _ => true) held m 5 [v15] = some y5 := G 5 15 1 y5 hc5 g5
  have g6 : DataW.trod enc Try.prog w base (fun _ => true) held m 5 [v16] = some y6 := G 5 16 1 y6 hc5 g6
  have g7 : DataW.trod enc Try.prog w base (fun _ => true) held m 24 [v17, v18] = some y7 := G 24 17 2 y7 hc24 g7
  obtain ⟨many, a0, u0⟩ := trod_u8 g0
  obtain ⟨zc, l1, a1, u1⟩ := trod_u8s Try.underlying22 rfl g1
  obtain ⟨ends, a2, u2⟩ := trod_u8 g2
  obtain ⟨zt, l3, a3, u3⟩ := trod_u8s Try.underlying22 rfl g3
  obtain ⟨ex, ea, ec, a4, r4, u4⟩ := open_extra g4
  obtain ⟨rate, a5, u5⟩ := trod_u8 g5
  obtain ⟨room, a6, u6⟩ := trod_u8 g6
  obtain ⟨zm, l7, a7, u7⟩ := trod_u8s Try.underlying24 rfl g7
  obtain ⟨k0, k1, rfl⟩ := two l7
  refine ⟨⟨many, zc, ends, zt, ex, rate, room, k0, k1⟩, ea, ec, ?_, ⟨u0, ⟨l1, u1⟩, u2, ⟨l3, u3⟩, u4, u5, u6, u7 k0 (by simp), u7 k1 (by simp)⟩, r4⟩
  obtain ⟨c0, c1, c2, c3, c4, c5, rfl⟩ := six l1
  obtain ⟨t0, t1, t2, t3, t4, t5, rfl⟩ := six l3
  simp only [List.map_cons, List.map_nil, List.cons.injEq, and_true] at a0 a1 a2 a3 a5 a6 a7
  obtain ⟨rfl, rfl, rfl, rfl, rfl, rfl⟩ := a1
  obtain ⟨rfl, rfl, rfl, rfl, rfl, rfl⟩ := a3
  obtain ⟨rfl, rfl⟩ := a7
  subst a0 a2 a4 a5 a6
  congr 1
  apply Array.toList_inj.1
  rw [hcs]
  rfl
end

end Go.Proofs.Ytpfcoeenblmifaa
