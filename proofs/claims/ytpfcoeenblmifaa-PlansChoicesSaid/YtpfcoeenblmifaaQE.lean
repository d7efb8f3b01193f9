/-
  Plans: the law's N.Of.
-/
import Derived.Test.YtpfcoeenblmifaaQF
import Derived.Deep.RegionLaw
namespace Go.Proofs.Ytpfcoeenblmifaa
open Go.RowKit Go.PC

set_option maxHeartbeats 4000000 in
set_option maxRecDepth 100000 in
theorem of_ok (x : Nx) (ea : Option Addr) (ec : Nat) (hx : NxOK x) (w : World) (hre : RdE w ea x.ex) :
    Calls Try.prog 9 #[.agg (nxCells x (.slice ea x.ex.length ec)).toArray] w fun e w' => Only (fun _ => False) w w' ∧ ∃ pa la pc lc P, e = .returned (planV pa la pc lc P) ∧ Small pa la P w' ∧ 2 ≤ P.ps.length ∧ P.ps.length ≤ 6 ∧ Good P.ls := by
  obtain ⟨many, codes, ends, tree, ex, rate, room, k0, k1⟩ := x
  obtain ⟨h1, ⟨h2, h2'⟩, h3, ⟨h4, h4'⟩, h5, h6, h7, h8, h9⟩ := hx
  simp only at hre h1 h2 h2' h3 h4 h4' h5 h6 h7 h8 h9
  obtain ⟨c0, c1, c2, c3, c4, c5, rfl⟩ : ∃ c0 c1 c2 c3 c4 c5, codes = [c0, c1, c2, c3, c4, c5] := by
    match codes, h2 with
    | [c0, c1, c2, c3, c4, c5], _ => exact ⟨c0, c1, c2, c3, c4, c5, rfl⟩
  obtain ⟨t0, t1, t2, t3, t4, t5, rfl⟩ : ∃ c0 c1 c2 c3 c4 c5, tree = [c0, c1, c2, c3, c4, c5] := by
    match tree, h4 with
    | [c0, c1, c2, c3, c4, c5], _ => exact ⟨c0, c1, c2, c3, c4, c5, rfl⟩
  obtain ⟨i0, hi0, hz0i, hz1i, hz2i⟩ := info_parts infoPlace
  have e19 : (nxCells ⟨many, [c0, c1, c2, c3, c4, c5], ends, [t0, t1, t2, t3, t4, t5], ex, rate, room, k0, k1⟩ (.slice ea ex.length ec)).toArray = #[.int .u8 many, .int .u8 c0, .int .u8 c1, .int .u8 c2, .int .u8 c3, .int .u8 c4, .int .u8 c5, .int .u8 ends, .int .u8 t0, .int .u8 t1, .int .u8 t2, .int .u8 t3, .int .u8 t4, .int .u8 t5, .slice ea ex.length ec, .int .u8 rate, .int .u8 room, .int .u8 k0, .int .u8 k1] := rfl
  rw [e19]
  clear e19
  go_enter Try.func9, Try.ntmps9
  go_upto_region 2 with fail
  obtain ⟨B, hB⟩ : ∃ B, w.heap.size = B := ⟨_, rfl⟩
  simp only [hB]
  generalize hO0 : (Obj.cells #[.int .u8 many, .int .u8 c0, .int .u8 c1, .int .u8 c2, .int .u8 c3, .int .u8 c4, .int .u8 c5, .int .u8 ends, .int .u8 t0, .int .u8 t1, .int .u8 t2, .int .u8 t3, .int .u8 t4, .int .u8 t5, .slice ea ex.length ec, .int .u8 rate, .int .u8 room, .int .u8 k0, .int .u8 k1] 26) = o0
  generalize hO1 : (Obj.cells #[Value.slice none 0 0, Value.slice none 0 0, .int .i64 0, .int .i64 0, .int .i64 0, .int .i64 0, .int .i64 0] 31) = o1
  have hA : ∃ wA, wA = ((w.alloc o0).alloc o1).alloc o1 ∧ wA.heap.size = B + 3 ∧ Only (fun _ => False) w wA ∧ wA.heap[B]? = some o0 ∧ wA.heap[B + 1]? = some o1 ∧ wA.heap[B + 2]? = some o1 := by
    refine ⟨_, rfl, by simp [hB], (((Only.refl _ w).alloc _).alloc _).alloc _, ?_, ?_, ?_⟩
    · rw [(MapKept.heap_alloc _ _).2 _ (by simp [hB]; omega), (MapKept.heap_alloc _ _).2 _ (by simp [hB]), ← hB]; exact (MapKept.heap_alloc _ _).1
    · rw [(MapKept.heap_alloc _ _).2 _ (by simp [hB])]
      have := (MapKept.heap_alloc (w.alloc o0) o1).1
      rwa [World.size_alloc, hB] at this
    · have := (MapKept.heap_alloc ((w.alloc o0).alloc o1) o1).1
      rwa [World.size_alloc, World.size_alloc, hB] at this
  obtain ⟨wA, hwA, hsA, hOA, hX0, hR0, hP0⟩ := hA
  rw [← hwA]
  subst hO0 hO1
  have HS := Lib.hid (And.intro hB hsA)
  have HOA := Lib.hid hOA
  have HX0 := Lib.hid hX0
  have HRE := Lib.hid hre
  clear hre
  have HR0 := Lib.hid hR0
  have x0 : wA.cell? ⟨B, 0, none⟩ = some (.int .u8 many) := by rw [cell_of_row wA B 0 _ _ _ hX0]; rfl
  have HP0 := Lib.hid hP0
  clear hwA hsA hOA hX0 hR0 hP0 hB
  go_upto_region 4 with fail
  simp only [show B + 1 + 1 = B + 2 from rfl]
  obtain ⟨n, hn, hnv⟩ : ∃ n : Nat, wrap64 (2 + wrap64 (many.tmod 5)) = (n : Int) ∧ (n : Int) = 2 + many % 5 := by
    have e1 : many.tmod 5 = many % 5 := Int.tmod_eq_emod_of_nonneg h1.1
    refine ⟨(2 + many % 5).toNat, ?_, by omega⟩
    rw [e1]
    unfold wrap64
    omega
  rw [hn]
  have HN := Lib.hid (And.intro hn hnv)
  have hn2 : 2 ≤ n := by omega
  have hn6 : n ≤ 6 := by omega
  clear hn hnv x0
  obtain ⟨X, hX⟩ : ∃ X : Nx, X = ⟨many, [c0, c1, c2, c3, c4, c5], ends, [t0, t1, t2, t3, t4, t5], ex, rate, room, k0, k1⟩ := ⟨_, rfl⟩
  have HCk : Hid (∀ k, k < 6 → ∃ c, U8 c ∧ wA.cell? ⟨B, 1 + k, none⟩ = some (.int .u8 c) ∧ X.codes.getD k 0 = c) := Lib.hid fun k hk => by
    have hc : ∀ j, wA.cell? ⟨B, j, none⟩ = _ := fun j => cell_of_row wA B j _ _ _ HX0.out
    subst hX
    match k, hk with
    | 0, _ => exact ⟨c0, h2' _ (by simp), hc 1, rfl⟩
    | 1, _ => exact ⟨c1, h2' _ (by simp), hc 2, rfl⟩
    | 2, _ => exact ⟨c2, h2' _ (by simp), hc 3, rfl⟩
    | 3, _ => exact ⟨c3, h2' _ (by simp), hc 4, rfl⟩
    | 4, _ => exact ⟨c4, h2' _ (by simp), hc 5, rfl⟩
    | 5, _ => exact ⟨c5, h2' _ (by simp), hc 6, rfl⟩
  have HTk : Hid (∀ k, k < 6 → ∃ c, U8 c ∧ wA.cell? ⟨B, 8 + k, none⟩ = some (.int .u8 c)) := Lib.hid fun k hk => by
    have hc : ∀ j, wA.cell? ⟨B, j, none⟩ = _ := fun j => cell_of_row wA B j _ _ _ HX0.out
    match k, hk with
    | 0, _ => exact ⟨t0, h4' _ (by simp), hc 8⟩
    | 1, _ => exact ⟨t1, h4' _ (by simp), hc 9⟩
    | 2, _ => exact ⟨t2, h4' _ (by simp), hc 10⟩
    | 3, _ => exact ⟨t3, h4' _ (by simp), hc 11⟩
    | 4, _ => exact ⟨t4, h4' _ (by simp), hc 12⟩
    | 5, _ => exact ⟨t5, h4' _ (by simp), hc 13⟩
  have xe : wA.cell? ⟨B, 7, none⟩ = some (.int .u8 ends) := by rw [cell_of_row wA B 7 _ _ _ HX0.out]; rfl
  have hXe : X.ends = ends := by rw [hX]
  have HXX := Lib.hid hX
  have HOK : Hid (NxOK X) := Lib.hid (by rw [hX]; exact ⟨h1, ⟨h2, h2'⟩, h3, ⟨h4, h4'⟩, h5, h6, h7, h8, h9⟩)
  clear hX h2 h2' h4 h4'
  go_loopw [5] (fun i wr => ∃ (k : Nat) (vP : Value), k ≤ n ∧ i = .int .i64 k ∧ Hid (wr.heap[B + 2]? = some (.cells #[vP, .slice none 0 0, .int .i64 0, .int .i64 0, .int .i64 0, .int .i64 0, .int .i64 0] 31)) ∧
      Hid (wr.ownsRow (B + 3) 36 2 vP k (pls (plcs X k))) ∧ Only (fun i => i = B + 2) wA wr) (fun i _ => n - (intOf i).toNat)
  case atStart => exact ⟨0, _, Nat.zero_le _, rfl, HP0, Lib.hid (World.ownsRow_nil _ _ _ _), Only.refl _ _⟩
  case round =>
    obtain ⟨k, vP, hk, rfl, HPk, HOwn, ho⟩ := hrel
    by_cases hlt : k < n
    · have hlt' : (k : Int) < n := by omega
      obtain ⟨c, hcb, hcc, hcx⟩ := HCk.out k (by omega)
      have y1 := ho.cell hcc (by simp)
      have y2 := ho.cell xe (by simp)
      have hsz := ho.size
      have hsA := HS.out.2
      obtain ⟨va, vc, rfl⟩ := own_shape HOwn.out
      have p0 : wr.cell? ⟨B + 2, 0, none⟩ = some (.slice va k vc) := by rw [cell_of_row wr (B + 2) 0 _ _ _ HPk.out]; rfl
      have pf : wr.frozen? ⟨B + 2, 0, none⟩ = false := by simp [World.frozen?, HPk.out]
      have hB2 : B + 2 < wr.heap.size := by omega
      have hB0 : B < wr.heap.size := by omega
      have hk0 : (0 : Int) ≤ k := by omega
      have hk6 : (k : Int) < 6 := by omega
      have hown := HOwn.out
      have HCC := Lib.hid hcx
      clear hcc hcx xe hsA
      obtain ⟨D, hD, hDv⟩ : ∃ D, IntKind.u16.wrap (IntKind.i64.wrap (IntKind.i64.wrap (10 * ↑k) + IntKind.i64.wrap (c.tmod 10))) = D ∧ D = 10 * (k : Int) + c % 10 := ⟨_, rfl, code_wrap k c (by omega) hcb⟩
      obtain ⟨T, hT⟩ : ∃ T, (bits BinOp.and IntKind.u8 (ends / 2 ^ k) 1 == 0) = T := ⟨_, rfl⟩
      have HPl := Lib.hid (plcs_step X k D T c ends HCC.out hDv hXe hT)
      clear hDv hcb
      go_wp2_with fail
      apply cutX3 (F := fun (a2 : Option Addr) (c2 : Nat) (w2 : World) => Hid (w2.heap[B + 2]? = some (.cells #[.slice va k vc, .slice none 0 0, .int .i64 0, .int .i64 0, .int .i64 0, .int .i64 0, .int .i64 0] 31)) ∧
        Hid (w2.ownsRow (B + 3) 36 2 (.slice a2 (k + 1) c2) (k + 1) (pls (plcs X k) ++ [.int .u16 D, .bool T])) ∧ Only (fun i => B + 2 ≤ i) wr w2)
      · intro hX
        go_region_law ((refine step_append_own (by rfl) _ _ _ (by rfl) (B + 3) 36 i0 (.agg #[.int .u16 0, .bool false]) 2 4 Try.underlying27 hi0 hz0i hz1i hz2i rfl (by omega) (.slice va k vc) k (pls (plcs X k)) (by rfl) (hown.alloc _).drew ⟨wr.heap.size, 0, none⟩ 1 1 [.int .u16 D, .bool T] (by rfl) (by rfl) (cells_new_drew wr [.int .u16 D, .bool T] _ _ rfl) (by simp [Value.oneCell']) (by unfold maxLen; omega) (by omega) (by simp; omega) ?_; intro v2 w2 hown2 hgrow2; obtain ⟨a2, c2, rfl⟩ := own_shape hown2; have hb2 : w2.heap[B + 2]? = _ := (hgrow2.block (B + 2) (by simp; omega) (fun h => by have := (hown.lt (B + 2) h.symm).1; omega)).trans (((MapKept.heap_alloc wr _).2 (B + 2) hB2).trans HPk.out); have p2 : w2.cell? ⟨B + 2, 0, none⟩ = some (.slice va k vc) := (by rw [cell_of_row w2 (B + 2) 0 _ _ _ hb2]; rfl); have pf2 : w2.frozen? ⟨B + 2, 0, none⟩ = false := (by simp [World.frozen?, hb2]); have HF := And.intro (Lib.hid hb2) (And.intro (Lib.hid hown2) ((((Only.refl (fun i => B + 2 ≤ i) wr).alloc _).drew).andThen (Only.of_grownBy hgrow2) (fun q hq h => by have := (hown.lt q h.symm).1; omega))); have HFF := Lib.hid HF; clear hb2 hown2 hgrow2 HF))
        all_goals exact hX.out a2 c2 w2 HFF.out
      intro a2 c2 w2 ⟨HB2, HOwn2, hoG⟩
      go_wp2_with fail
      go_roundw
      case rel =>
        refine ⟨k + 1, .slice a2 (k + 1) c2, by omega, by go_num, Lib.hid ?_, Lib.hid ?_, (ho.andThen hoG (fun i hi h => by have := HS.out.2; omega)).setCell (p := ⟨B + 2, 0, none⟩) _ (fun _ => rfl)⟩
        · exact Go.heap_setCell_same w2 (B + 2) 0 _ _ _ HB2.out
        · rw [HPl.out]
          exact HOwn2.out.kept (row := some (B + 2)) ⟨rfl, rfl, rfl, by simp, fun i hi hne => RowKit.Below.heap_setCell w2 ⟨B + 2, 0, none⟩ _ i (fun h => hne (by simp at h; rw [h]))⟩ (by
            cases hv : (Value.slice a2 (k + 1) c2).ownBlock with
            | none => exact Or.inl rfl
            | some q => exact Or.inr (fun h => by have := (HOwn2.out.lt q hv).1; injection h with h; omega))
      case measure => simp [intOf]; omega
    · have hkn : k = n := by omega
      subst hkn
      obtain ⟨va, vc, rfl⟩ := own_shape HOwn.out
      obtain ⟨gp, rfl, hgp, _, _, _, HRow⟩ : ∃ g, va = some ⟨g, 0, none⟩ ∧ B + 3 ≤ g ∧ k ≤ vc ∧ vc ≤ maxLen ∧ (pls (plcs X k)).length = k * 2 ∧ Row wr g 36 (vc * 2) (pls (plcs X k)) := by
        cases va with
        | none => rcases HOwn.out.2 with ⟨_, h⟩ | ⟨_, _, _, h, _⟩
                  · omega
                  · cases h
        | some a => obtain ⟨g, rfl, h⟩ := Row.of_owns HOwn.out; exact ⟨g, rfl, h⟩
      have hsz := ho.size
      have hsA := HS.out.2
      have HO1 := Lib.hid ho
      have HPS : Hid (PSt wr (B + 2) (B + 3) gp vc (plcs X k) []) := Lib.hid ⟨⟨.slice none 0 0, by rw [plcs_length]; exact HPk.out, World.ownsRow_nil _ _ _ _⟩, HRow, LsOK.nil _⟩
      have HAsc := Lib.hid (plcs_asc HOK.out k)
      have HPb : Hid (∀ p ∈ plcs X k, 0 ≤ p.1 ∧ p.1 ≤ 16383) := Lib.hid fun p hp => by
        obtain ⟨i, hi⟩ := List.mem_iff_getElem?.1 hp
        have hik := (List.getElem?_eq_some_iff.1 hi).1
        rw [plcs_length] at hik
        rw [plcs_get hik] at hi
        cases hi
        have := plc_bounds HOK.out i
        omega
      have hBr : B + 3 ≤ wr.heap.size := by omega
      clear xe ho hk hlt HRow HOwn HPk hsz hsA
      go_upto_region 9 with fail
      have hp0 := HPS
      generalize hw1 : wr = w1 at *
      clear hw1 hp0
      go_loopw [7] (fun i wr => ∃ (j : Nat) (ls : List Ln), 1 ≤ j ∧ j ≤ k ∧ i = .int .i64 j ∧ ls.length + 1 = j ∧ Hid (PSt wr (B + 2) (B + 3) gp vc (plcs X k) ls) ∧ Only (fun i => i = B + 2) w1 wr) (fun i _ => k - (intOf i).toNat)
      case atStart => exact ⟨1, [], by omega, by omega, rfl, rfl, HPS, Only.refl _ _⟩
      case round =>
        obtain ⟨j, ls, hj1, hjk, rfl, hll, HPj, ho⟩ := hrel
        by_cases hlt : j < k
        · have hlt' : (j : Int) < k := by omega
          obtain ⟨t, htb, htc⟩ := HTk.out j (by omega)
          have y1 := ho.cell (HO1.out.cell htc (by simp)) (by simp)
          have hj0 : (0 : Int) ≤ j := by omega
          have hj6 : (j : Int) < 6 := by omega
          have hjne : j ≠ 0 := by omega
          have hjne' : ((j : Int) == 0) = false := by simp [hjne]
          have hj1' : (1 : Int) ≤ j := by omega
          clear htc
          go_wp2_with fail
          go_still_tail 14, (by kernel_rfl)
          change wpList _ _ _ _ _ wr.drew
          have ho2 := ho.drew
          have HPj2 : Hid (PSt wr.drew (B + 2) (B + 3) gp vc (plcs X k) ls) := Lib.hid ⟨HPj.out.box, HPj.out.row, HPj.out.ok⟩
          clear y1 ho HPj
          generalize wr.drew = w2 at *
          have hsz2 := ho2.size
          obtain ⟨e1, e2⟩ := tree_wrap t j hj1 htb
          have HA := Lib.hid (add_st HPj2.out (by omega) (by omega) hgp HAsc.out HPb.out (by omega) (t % j).toNat j e2 (by rw [plcs_length]; omega) (t.tdiv 16 % 256) (by omega) j ((wrap64 t).tmod j) (Or.inr ⟨rfl, e1⟩))
          clear e1 e2 HPj2
          go_wp2_with fail
          refine HA.out.mono ?_
          rintro e w3 ⟨rfl, ho3, ls', hl', hP3⟩
          have HP3 := Lib.hid hP3
          clear HA hP3
          go_wp2_with fail
          go_roundw
          case rel => exact ⟨j + 1, ls', by omega, by omega, by go_num, by omega, HP3, ho2.trans ho3⟩
          case measure => simp [intOf]; omega
        · have hjk' : j = k := by omega
          subst hjk'
          obtain ⟨w2, hw2⟩ : ∃ w2 : World, wr = w2 := ⟨_, rfl⟩
          rw [hw2] at ho HPj ⊢
          have HO2 := Lib.hid (HO1.out.trans ho)
          clear ho HO1 hw2 hlt hjk
          go_upto_region 13 with fail
          have xv : wA.cell? ⟨B, 14, none⟩ = some (.slice ea ex.length ec) := by rw [cell_of_row wA B 14 _ _ _ HX0.out]; rfl
          have yv := HO2.out.cell xv (by simp)
          clear xv
          have hB3 : B + 3 ≤ w2.heap.size := by have h1 := HO2.out.size; have h2 := HS.out.2; omega
          go_loopw [8] (fun i wr => ∃ (q : Nat) (ls : List Ln), q ≤ 6 ∧ i = .int .i64 q ∧ ls.length ≤ 5 + q ∧ Hid (PSt wr (B + 2) (B + 3) gp vc (plcs X j) ls) ∧ Only (fun i => i = B + 2) w2 wr) (fun i _ => 6 - (intOf i).toNat)
          case atStart => exact ⟨0, ls, by omega, rfl, by omega, HPj, Only.refl _ _⟩
          case round =>
            clear HPj hll ls
            obtain ⟨q, ls, hq6, rfl, hll, HPq, ho⟩ := hrel
            have y1 := ho.cell yv (by simp)
            by_cases hlq : q < ex.length ∧ q < 6
            · obtain ⟨hlt, hq⟩ := hlq
              have hlt' : (q : Int) < ex.length := by omega
              · have hq' : (q : Int) < 6 := by omega
                obtain ⟨eb, eo, rfl, hz⟩ := HRE.out.resolve_left (fun he => by rw [he] at hlt; cases hlt)
                obtain ⟨⟨za, zb, zd⟩, hzz⟩ : ∃ z, ex[q]? = some z := ⟨_, List.getElem?_eq_getElem hlt⟩
                obtain ⟨hza, hzb, hzd⟩ := hz q _ hzz
                obtain ⟨ua, ub, ud⟩ := h5 _ (List.mem_of_getElem? hzz)
                simp only at hza hzb hzd ua ub ud
                have hlB := lt_of_cell hza
                simp only at hlB
                have heB : eb ≠ B + 2 := by have := HS.out.1; omega
                have q1 := ho.cell (HO2.out.cell (HOA.out.cell hza (by simp)) (by simpa using heB)) (by simpa using heB)
                have q2 := ho.cell (HO2.out.cell (HOA.out.cell hzb (by simp)) (by simpa using heB)) (by simpa using heB)
                have q3 := ho.cell (HO2.out.cell (HOA.out.cell hzd (by simp)) (by simpa using heB)) (by simpa using heB)
                have hjne : j ≠ 0 := by omega
                have hjne' : ((j : Int) == 0) = false := by simp [hjne]
                have hj1' : (1 : Int) ≤ j := by omega
                obtain ⟨e1, e2⟩ := tree_wrap za j hj1 ua
                obtain ⟨e3, e4⟩ := tree_wrap zb j hj1 ub
                generalize (za % j).toNat = a at e1 e2
                generalize (zb % j).toNat = b at e3 e4
                have hq0 : (0 : Int) ≤ q := by omega
                have hsz := ho.size
                clear hz hzz hza hzb hzd ua ub yv
                by_cases hab : a = b
                · subst hab
                  go_wp2_with fail
                  exact ⟨⟨q + 1, ls, by omega, by go_num, by omega, HPq, ho⟩, by simp [intOf]; omega⟩
                · have hij : ((a : Int) = (min a b : Nat) ∧ (b : Int) = (max a b : Nat)) ∨ ((a : Int) = (max a b : Nat) ∧ (b : Int) = (min a b : Nat)) := by omega
                  have HA := Lib.hid (add_st HPq.out (by omega) (by omega) hgp HAsc.out HPb.out (by omega) (min a b) (max a b) (by omega) (by rw [plcs_length]; omega) zd ud a b hij)
                  clear hij
                  go_wp2_with fail
                  refine HA.out.mono ?_
                  rintro e w3 ⟨rfl, ho3, ls', hl', hP3⟩
                  have HP3 := Lib.hid hP3
                  clear HA hP3
                  go_wp2_with fail
                  go_roundw
                  case rel => exact ⟨q + 1, ls', by omega, by go_num, by omega, HP3, ho.trans ho3⟩
                  case measure => simp [intOf]; omega
            · have hex : ¬ (q : Int) < ex.length ∨ ((q : Int) < ex.length ∧ ¬ (q : Int) < 6) := by omega
              clear hlq
              rcases hex with hlt' | ⟨hlt', hq'⟩
              all_goals
                have hX2 := ho.keep (HO2.out.keep HX0.out (by simp)) (by simp)
                have hR2 := ho.keep (HO2.out.keep HR0.out (by simp)) (by simp)
                have hc : ∀ j, wr.cell? ⟨B, j, none⟩ = _ := fun j => cell_of_row wr B j _ _ _ hX2
                have q15 : wr.cell? ⟨B, 15, none⟩ = some (.int .u8 rate) := hc 15
                have q16 : wr.cell? ⟨B, 16, none⟩ = some (.int .u8 room) := hc 16
                have q17 : wr.cell? ⟨B, 17, none⟩ = some (.int .u8 k0) := hc 17
                obtain ⟨vL, hbox, hown⟩ := HPq.out.box
                obtain ⟨la, lc, rfl⟩ := own_shape hown
                have hd : ∀ j, wr.cell? ⟨B + 2, j, none⟩ = _ := fun j => cell_of_row wr (B + 2) j _ _ _ hbox
                have b2 : wr.cell? ⟨B + 2, 2, none⟩ = some (.int .i64 0) := hd 2
                have b3 : wr.cell? ⟨B + 2, 3, none⟩ = some (.int .i64 0) := hd 3
                have b4 : wr.cell? ⟨B + 2, 4, none⟩ = some (.int .i64 0) := hd 4
                have bf : ∀ j, wr.frozen? ⟨B + 2, j, none⟩ = false := fun j => by simp [World.frozen?, hbox]
                obtain ⟨R, eR, hRb⟩ := rate_val rate h6
                obtain ⟨M, M2, K, m0, m01, M1, M3, K1, m1, f1, f2, f3, f4, f5, f6, f7, f8, f9, f10, f11, hMb⟩ := marks_vals room k0 k1 h7 h8 h9
                have HMb := Lib.hid (And.intro hRb hMb)
                have hb5 := Go.heap_setCell_same _ (B + 2) 4 _ _ (.int .i64 m0) (Go.heap_setCell_same _ (B + 2) 3 _ _ (.int .i64 M) (Go.heap_setCell_same wr (B + 2) 2 _ _ (.int .i64 R) hbox))
                have ho5 := ((ho.setCell (p := ⟨B + 2, 2, none⟩) (.int .i64 R) (fun _ => rfl)).setCell (p := ⟨B + 2, 3, none⟩) (.int .i64 M) (fun _ => rfl)).setCell (p := ⟨B + 2, 4, none⟩) (.int .i64 m0) (fun _ => rfl)
                have H5 := Lib.hid (And.intro hb5 ho5)
                have HL5 : Hid ((((wr.setCell ⟨B + 2, 2, none⟩ (.int .i64 R)).setCell ⟨B + 2, 3, none⟩ (.int .i64 M)).setCell ⟨B + 2, 4, none⟩ (.int .i64 m0)).ownsRow (B + 3) 57 4 (.slice la ls.length lc) ls.length (lns ls) ∧
                    Row (((wr.setCell ⟨B + 2, 2, none⟩ (.int .i64 R)).setCell ⟨B + 2, 3, none⟩ (.int .i64 M)).setCell ⟨B + 2, 4, none⟩ (.int .i64 m0)) gp 36 (vc * 2) (pls (plcs X j))) :=
                  Lib.hid ⟨own_set (own_set (own_set hown (by omega)) (by omega)) (by omega), HPq.out.row.only (((Only.refl (fun i => i = B + 2) wr).setCell (p := ⟨B + 2, 2, none⟩) (.int .i64 R) (fun _ => rfl)).setCell (p := ⟨B + 2, 3, none⟩) (.int .i64 M) (fun _ => rfl) |>.setCell (p := ⟨B + 2, 4, none⟩) (.int .i64 m0) (fun _ => rfl)) (by omega)⟩
                have HLs := Lib.hid HPq.out.ok
                clear hRb hMb hc hd hbox hown hb5 ho5 hX2 hR2 yv
                go_upto_region 22 with fail
                generalize ((wr.setCell ⟨B + 2, 2, none⟩ (.int .i64 R)).setCell ⟨B + 2, 3, none⟩ (.int .i64 M)).setCell ⟨B + 2, 4, none⟩ (.int .i64 m0) = w5 at *
                clear y1 q15 q16 q17 b2 b3 b4 bf HPq ho
                have hX5 := H5.out.2.keep (HO2.out.keep HX0.out (by simp)) (by simp)
                have hb5 := H5.out.1
                have hd : ∀ j, w5.cell? ⟨B + 2, j, none⟩ = _ := fun j => cell_of_row w5 (B + 2) j _ _ _ hb5
                have b3 : w5.cell? ⟨B + 2, 3, none⟩ = some (.int .i64 M) := hd 3
                have b4 : w5.cell? ⟨B + 2, 4, none⟩ = some (.int .i64 m0) := hd 4
                have q18 : w5.cell? ⟨B, 18, none⟩ = some (.int .u8 k1) := by rw [cell_of_row w5 B 18 _ _ _ hX5]; rfl
                clear hX5 hb5 hd
                have g5 : IntKind.i64.wrap (m0 + 1) = m01 := (IntWalk.i64_left _).trans f5
                have g6 : IntKind.i64.wrap (M - 1) = M1 := (IntWalk.i64_left _).trans f6
                have g7 : IntKind.i64.wrap (M1 - m0) = M3 := (IntWalk.i64_left _).trans f7
                have g8 : (IntKind.i64.wrap k1).tmod M3 = K1 := by rw [IntWalk.i64_left]; exact f8
                have g9 : IntKind.i64.wrap (m01 + K1) = m1 := (IntWalk.i64_left _).trans f9
                go_still_tail 19, (by kernel_rfl)
                change wpList _ _ _ _ _ w5.drew
                have H6 : Hid (w5.drew.heap[B + 2]? = _ ∧ Only (fun i => i = B + 2) w2 w5.drew) := Lib.hid ⟨H5.out.1, H5.out.2.drew⟩
                have HL6 : Hid (w5.drew.ownsRow (B + 3) 57 4 (.slice la ls.length lc) ls.length (lns ls) ∧ Row w5.drew gp 36 (vc * 2) (pls (plcs X j))) := Lib.hid ⟨HL5.out.1.drew, HL5.out.2⟩
                clear H5 HL5 b3 b4 q18
                generalize w5.drew = w6 at *
                have hd : ∀ j, w6.cell? ⟨B + 2, j, none⟩ = _ := fun j => cell_of_row w6 (B + 2) j _ _ _ H6.out.1
                have b0 : w6.cell? ⟨B + 2, 0, none⟩ = some (.slice (some ⟨gp, 0, none⟩) (plcs X j).length vc) := hd 0
                have b1 : w6.cell? ⟨B + 2, 1, none⟩ = some (.slice la ls.length lc) := hd 1
                have b2 : w6.cell? ⟨B + 2, 2, none⟩ = some (.int .i64 R) := hd 2
                have b3 : w6.cell? ⟨B + 2, 3, none⟩ = some (.int .i64 M) := hd 3
                have b4 : w6.cell? ⟨B + 2, 4, none⟩ = some (.int .i64 m0) := hd 4
                have b5 : w6.cell? ⟨B + 2, 5, none⟩ = some (.int .i64 0) := hd 5
                have b6 : w6.cell? ⟨B + 2, 6, none⟩ = some (.int .i64 0) := hd 6
                have bf : ∀ j, w6.frozen? ⟨B + 2, j, none⟩ = false := fun j => by simp [World.frozen?, H6.out.1]
                have hR6 := H6.out.2.keep (HO2.out.keep HR0.out (by simp)) (by simp)
                have hr : ∀ j, w6.cell? ⟨B + 1, j, none⟩ = _ := fun j => cell_of_row w6 (B + 1) j _ _ _ hR6
                have r0 : w6.cell? ⟨B + 1, 0, none⟩ = some (.slice none 0 0) := hr 0
                have r1 : w6.cell? ⟨B + 1, 1, none⟩ = some (.slice none 0 0) := hr 1
                have r2 : w6.cell? ⟨B + 1, 2, none⟩ = some (.int .i64 0) := hr 2
                have r3 : w6.cell? ⟨B + 1, 3, none⟩ = some (.int .i64 0) := hr 3
                have r4 : w6.cell? ⟨B + 1, 4, none⟩ = some (.int .i64 0) := hr 4
                have r5 : w6.cell? ⟨B + 1, 5, none⟩ = some (.int .i64 0) := hr 5
                have r6 : w6.cell? ⟨B + 1, 6, none⟩ = some (.int .i64 0) := hr 6
                have rf : ∀ j, w6.frozen? ⟨B + 1, j, none⟩ = false := fun j => by simp [World.frozen?, hR6]
                have HR6 := Lib.hid hR6
                clear hd hr hR6
                go_wp2_with fail
                have h7 := final_row (.int .i64 m1) (.int .i64 M) (.slice (some ⟨gp, 0, none⟩) (plcs X j).length vc) (.slice la ls.length lc) (.int .i64 R) (.int .i64 M) (.int .i64 m0) (.int .i64 m1) (.int .i64 M) HR6.out
                have ho7 := final_only w6 B (.int .i64 m1) (.int .i64 M) (.slice (some ⟨gp, 0, none⟩) (plcs X j).length vc) (.slice la ls.length lc) (.int .i64 R) (.int .i64 M) (.int .i64 m0) (.int .i64 m1) (.int .i64 M)
                have hBs := HS.out.1
                have hoA := ((HO2.out.andThen H6.out.2 (fun i _ h => h)).mono (S' := fun i => i = B + 2 ∨ i = B + 1) (fun i _ h => Or.inl h)).andThen ho7 (fun i _ h => h)
                refine bodyPost_ret (results_cell_row rfl _ _ (B + 1) 31 _ (0, 0) _ rfl h7 Try.underlying31 rfl (by kernel_rfl)) rfl ⟨HOA.out.andThen hoA (fun i hi h => by omega), some ⟨gp, 0, none⟩, la, vc, lc, ⟨plcs X j, ls, R, M, m0, m1, M⟩, rfl, ⟨?_, ?_, mk_ok HOK.out ⟨hn2, hn6⟩ HLs.out (by omega) HMb.out, ?_, ?_⟩, ?_, ?_, HLs.out.good⟩
                · exact rdP_of_row (HL6.out.2.only ho7 (by omega))
                · obtain ⟨a, c, hv, hrl⟩ := RdL_of_own (final_own (.int .i64 m1) (.int .i64 M) (.slice (some ⟨gp, 0, none⟩) (plcs X j).length vc) (.slice la ls.length lc) (.int .i64 R) (.int .i64 M) (.int .i64 m0) (.int .i64 m1) (.int .i64 M) HL6.out.1)
                  injection hv with hv1 _ _
                  subst hv1
                  exact hrl
                all_goals simp only [plcs_length]
                all_goals omega

end Go.Proofs.Ytpfcoeenblmifaa
