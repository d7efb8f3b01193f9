import Derived.Test.YtcokmnpgeokfpaaDoorProg
import Derived.Test.YtcokmnpgeokfpaaDoorVxD
set_option linter.unusedVariables false
set_option linter.unusedSimpArgs false
set_option maxHeartbeats 4000000
namespace Vf
open Go Go.Vx Go.Proofs
structure S65 where
  mk ::
  c0 : Int
  c1 : Int
  c2 : Bool
  c3 : (List Int)
  c4 : Int
  deriving Inhabited
def enc65 (x : S65) : Value := .agg #[.int .u8 x.c0, .int .u32 x.c1, .bool x.c2, ls 1 false (encI .u8) x.c3, .int .u8 x.c4]
theorem enc65_eq (x : S65) : enc65 x = .agg #[.int .u8 x.c0, .int .u32 x.c1, .bool x.c2, ls 1 false (encI .u8) x.c3, .int .u8 x.c4] := rfl
theorem enc65_ok : EncOk 5 true enc65 := by
  refine ⟨fun x => by rw [enc65_eq]; rfl, fun x c h => ?_, fun x => ⟨_, enc65_eq x⟩⟩
  rw [enc65_eq] at h
  simp only [Value.cells, List.mem_cons, List.not_mem_nil, or_false] at h
  rcases h with rfl | rfl | rfl | rfl | rfl <;> exact ⟨rfl, rfl⟩
structure S36 where
  mk ::
  c0 : Int
  c1 : Int
  c2 : Bool
  c3 : (List Int)
  c4 : (List S36)
  deriving Inhabited
mutual
def enc36 : S36 → Value
  | .mk c0 c1 c2 c3 c4 => .agg #[.int .u8 c0, .int .u32 c1, .bool c2, ls 1 false (encI .u8) c3, lst 5 false (enc36L c4).toArray]
def enc36L : List S36 → List Value
  | [] => []
  | a :: l => enc36 a :: enc36L l
end
theorem enc36L_eq : ∀ l : List S36, enc36L l = l.map enc36
  | [] => by rw [enc36L]; rfl
  | a :: l => by rw [enc36L, enc36L_eq l]; rfl
theorem enc36_eq (x : S36) : enc36 x = .agg #[.int .u8 x.c0, .int .u32 x.c1, .bool x.c2, ls 1 false (encI .u8) x.c3, ls 5 false enc36 x.c4] := by
  cases x
  rw [enc36]
  simp only [enc36L_eq]
  rfl
theorem enc36_ok : EncOk 5 true enc36 := by
  refine ⟨fun x => by rw [enc36_eq]; rfl, fun x c h => ?_, fun x => ⟨_, enc36_eq x⟩⟩
  rw [enc36_eq] at h
  simp only [Value.cells, List.mem_cons, List.not_mem_nil, or_false] at h
  rcases h with rfl | rfl | rfl | rfl | rfl <;> exact ⟨rfl, rfl⟩
structure S111 where
  mk ::
  c0 : Int
  c1 : Int
  c2 : Bool
  c3 : ByteArray
  c4 : Int
  deriving Inhabited
def enc111 (x : S111) : Value := .agg #[.int .i64 x.c0, .int .i64 x.c1, .bool x.c2, .string x.c3, .int .i64 x.c4]
theorem enc111_eq (x : S111) : enc111 x = .agg #[.int .i64 x.c0, .int .i64 x.c1, .bool x.c2, .string x.c3, .int .i64 x.c4] := rfl
theorem enc111_ok : EncOk 5 true enc111 := by
  refine ⟨fun x => by rw [enc111_eq]; rfl, fun x c h => ?_, fun x => ⟨_, enc111_eq x⟩⟩
  rw [enc111_eq] at h
  simp only [Value.cells, List.mem_cons, List.not_mem_nil, or_false] at h
  rcases h with rfl | rfl | rfl | rfl | rfl <;> exact ⟨rfl, rfl⟩
mutual
def big_L2 (x : (List S65) × Int × Int × Bool) : Option (Bool) :=
  if x.2.2.2 = true then
    (at' x.1 x.2.2.1) >>= fun y1 =>
    big_L1 (x.1, (IntKind.i64.wrap ((IntKind.i64.wrap (x.2.1 + 1)) + (quoI .i64 (y1.c3.length : Int) 8))), (IntKind.i64.wrap (x.2.2.1 + 1)))
  else
    some (decide (1000 ≤ x.2.1))
partial_fixpoint
def big_L1 (x : (List S65) × Int × Int) : Option (Bool) :=
  if x.2.2 < (x.1.length : Int) then
    big_L2 (x.1, x.2.1, x.2.2, (decide (x.2.1 < 1000)))
  else
    big_L2 (x.1, x.2.1, x.2.2, false)
partial_fixpoint
end
theorem big_L2_grp : (∀ (x : (List S65) × Int × Int × Bool) (r : Bool), big_L2 x = some r → ∀ (W0 w0 : World) (S : Own), Std W0 w0 S 0 → H Tryd.prog w0 S 27 (cR (cL (cL (cL (cR (cL (cR (cR (cB Tryd.f14))))))))) (mkS [(0, ls 5 false enc65 x.1), (3, .int .i64 x.2.1), (4, .int .i64 x.2.2.1), (12, .bool x.2.2.2)] [] 0 []) (Kseq Tryd.prog w0 S 27 (cR (cL (cL (cR (cL (cR (cR (cB Tryd.f14)))))))) (Kloop Tryd.prog w0 S 27 (cL (cL (cR (cL (cR (cR (cB Tryd.f14))))))) (Kblock 0 (Kseq Tryd.prog w0 S 27 (cR (cR (cR (cB Tryd.f14)))) (KEnd Tryd.prog Tryd.f14 (PEnd w0 S (.returned (.bool r))))))))) ∧
  (∀ (x : (List S65) × Int × Int) (r : Bool), big_L1 x = some r → ∀ (W0 w0 : World) (S : Own), Std W0 w0 S 0 → HL Tryd.prog w0 S 27 (cL (cL (cR (cL (cR (cR (cB Tryd.f14))))))) (mkS [(0, ls 5 false enc65 x.1), (3, .int .i64 x.2.1), (4, .int .i64 x.2.2)] [] 0 []) (Kblock 0 (Kseq Tryd.prog w0 S 27 (cR (cR (cR (cB Tryd.f14)))) (KEnd Tryd.prog Tryd.f14 (PEnd w0 S (.returned (.bool r))))))) := by
  refine big_L2.mutual_partial_correctness (fun (x : (List S65) × Int × Int × Bool) (r : Bool) => ∀ (W0 w0 : World) (S : Own), Std W0 w0 S 0 → H Tryd.prog w0 S 27 (cR (cL (cL (cL (cR (cL (cR (cR (cB Tryd.f14))))))))) (mkS [(0, ls 5 false enc65 x.1), (3, .int .i64 x.2.1), (4, .int .i64 x.2.2.1), (12, .bool x.2.2.2)] [] 0 []) (Kseq Tryd.prog w0 S 27 (cR (cL (cL (cR (cL (cR (cR (cB Tryd.f14)))))))) (Kloop Tryd.prog w0 S 27 (cL (cL (cR (cL (cR (cR (cB Tryd.f14))))))) (Kblock 0 (Kseq Tryd.prog w0 S 27 (cR (cR (cR (cB Tryd.f14)))) (KEnd Tryd.prog Tryd.f14 (PEnd w0 S (.returned (.bool r))))))))) (fun (x : (List S65) × Int × Int) (r : Bool) => ∀ (W0 w0 : World) (S : Own), Std W0 w0 S 0 → HL Tryd.prog w0 S 27 (cL (cL (cR (cL (cR (cR (cB Tryd.f14))))))) (mkS [(0, ls 5 false enc65 x.1), (3, .int .i64 x.2.1), (4, .int .i64 x.2.2)] [] 0 []) (Kblock 0 (Kseq Tryd.prog w0 S 27 (cR (cR (cR (cB Tryd.f14)))) (KEnd Tryd.prog Tryd.f14 (PEnd w0 S (.returned (.bool r))))))) ?_ ?_
  · intro g_big_L1 ih_big_L1 x r h
    intro W0 w0 S hS
    haveI := hS.noEx Tryd.prog
    refine H.condS (b := x.2.2.2) (by kernel_rfl) (by kernel_rfl) (fun hb => ?_) (fun hb => ?_)
    · rw [if_pos hb] at h
      refine H.skipP (by kernel_rfl) ?_
      refine Kseq_norm ?_
      refine H.seqP (by kernel_rfl) ?_
      refine H.blockI 1 (by kernel_rfl) ?_
      refine H.regP (by kernel_rfl) ?_
      refine HO.goP 4 (by kernel_rfl) ?_
      obtain ⟨y1, hy, h⟩ := bindS h
      refine HO.idx (.agg #[.int .u8 y1.c0, .int .u32 y1.c1, .bool y1.c2, ls 1 false (encI .u8) y1.c3, .int .u8 y1.c4]) hy (enc65_eq y1) (by kernel_rfl) ?_
      refine HO.goP 2 (by kernel_rfl) ?_
      refine HO.len (by kernel_rfl) (by kernel_rfl) (ls_size (encI .u8) y1.c3) ?_
      refine HO.goP 3 (by kernel_rfl) ?_
      refine HO.done (by kernel_rfl) ?_
      refine Kblock_norm ?_
      refine Kseq_norm ?_
      refine H.regP (by kernel_rfl) ?_
      refine HO.goP 3 (by kernel_rfl) ?_
      refine HO.done (by kernel_rfl) ?_
      refine Kloop_norm ?_
      exact HL.ren hS [] _ _ _ (by kernel_rfl) (ih_big_L1 (x.1, (IntKind.i64.wrap ((IntKind.i64.wrap (x.2.1 + 1)) + (quoI .i64 (y1.c3.length : Int) 8))), (IntKind.i64.wrap (x.2.2.1 + 1))) r h W0 w0 S hS)
    · rw [if_neg (ne_true hb)] at h
      refine H.exitI 0 (by kernel_rfl) ?_
      refine Kseq_exit ?_
      refine Kloop_exit ?_
      refine Kblock_hit ?_
      refine Kseq_norm ?_
      refine H.seqP (by kernel_rfl) ?_
      refine H.regP (by kernel_rfl) ?_
      refine HO.goP 3 (by kernel_rfl) ?_
      refine HO.done (by kernel_rfl) ?_
      refine Kseq_norm ?_
      refine H.retP (by kernel_rfl) ?_
      obtain rfl := Option.some.inj h
      exact KEnd.ret (by kernel_rfl) (by kernel_rfl) (by kernel_rfl)
  · intro g_big_L2 ih_big_L2 x r h
    intro W0 w0 S hS
    haveI := hS.noEx Tryd.prog
    refine HL.round ?_
    refine H.seqP (by kernel_rfl) ?_
    refine H.seqP (by kernel_rfl) ?_
    refine H.regP (by kernel_rfl) ?_
    refine HO.goP 2 (by kernel_rfl) ?_
    refine HO.len (by kernel_rfl) (by kernel_rfl) (ls_size enc65 x.1) ?_
    refine HO.goP 1 (by kernel_rfl) ?_
    refine HO.boolP (decide (x.2.2 < (x.1.length : Int))) (by kernel_rfl) (by kernel_rfl) (fun hb => ?_) (fun hb => ?_)
    · rw [if_pos (of_decide_eq_true hb)] at h
      refine HO.goP 3 (by kernel_rfl) ?_
      refine HO.done (by kernel_rfl) ?_
      refine Kseq_norm ?_
      exact H.ren hS [] _ _ _ (by kernel_rfl) (ih_big_L2 (x.1, x.2.1, x.2.2, (decide (x.2.1 < 1000))) r h W0 w0 S hS)
    · rw [if_neg (of_decide_eq_false hb)] at h
      refine HO.goP 3 (by kernel_rfl) ?_
      refine HO.done (by kernel_rfl) ?_
      refine Kseq_norm ?_
      exact H.ren hS [] _ _ _ (by kernel_rfl) (ih_big_L2 (x.1, x.2.1, x.2.2, false) r h W0 w0 S hS)
theorem big_L2_ok : ∀ (x : (List S65) × Int × Int × Bool) (r : Bool), big_L2 x = some r → ∀ (W0 w0 : World) (S : Own), Std W0 w0 S 0 → H Tryd.prog w0 S 27 (cR (cL (cL (cL (cR (cL (cR (cR (cB Tryd.f14))))))))) (mkS [(0, ls 5 false enc65 x.1), (3, .int .i64 x.2.1), (4, .int .i64 x.2.2.1), (12, .bool x.2.2.2)] [] 0 []) (Kseq Tryd.prog w0 S 27 (cR (cL (cL (cR (cL (cR (cR (cB Tryd.f14)))))))) (Kloop Tryd.prog w0 S 27 (cL (cL (cR (cL (cR (cR (cB Tryd.f14))))))) (Kblock 0 (Kseq Tryd.prog w0 S 27 (cR (cR (cR (cB Tryd.f14)))) (KEnd Tryd.prog Tryd.f14 (PEnd w0 S (.returned (.bool r)))))))) := big_L2_grp.1
theorem big_L1_ok : ∀ (x : (List S65) × Int × Int) (r : Bool), big_L1 x = some r → ∀ (W0 w0 : World) (S : Own), Std W0 w0 S 0 → HL Tryd.prog w0 S 27 (cL (cL (cR (cL (cR (cR (cB Tryd.f14))))))) (mkS [(0, ls 5 false enc65 x.1), (3, .int .i64 x.2.1), (4, .int .i64 x.2.2)] [] 0 []) (Kblock 0 (Kseq Tryd.prog w0 S 27 (cR (cR (cR (cB Tryd.f14)))) (KEnd Tryd.prog Tryd.f14 (PEnd w0 S (.returned (.bool r)))))) := big_L2_grp.2
def big (x : (List S65)) : Option (Bool) :=
  big_L1 (x, 0, 0)
theorem big_ok : ∀ (x : (List S65)) (r : Bool), big x = some r → ∀ W0 : World, PTo Tryd.prog W0 14 #[ls 5 false enc65 x] (.returned (.bool r)) := by
  intro x r h
  unfold big at h
  intro W0
  refine PTo.of_body (fn := Tryd.f14) (code := cB Tryd.f14) Tryd.func14 rfl rfl ?_
  intro w0 S hS
  haveI := hS.noEx Tryd.prog
  refine H.seqP (by kernel_rfl) ?_
  refine H.regP (by kernel_rfl) ?_
  refine HO.goP 1 (by kernel_rfl) ?_
  refine HO.done (by kernel_rfl) ?_
  refine Kseq_norm ?_
  refine H.seqP (by kernel_rfl) ?_
  refine H.regP (by kernel_rfl) ?_
  refine HO.goP 1 (by kernel_rfl) ?_
  refine HO.done (by kernel_rfl) ?_
  refine Kseq_norm ?_
  refine H.seqP (by kernel_rfl) ?_
  refine H.seqP (by kernel_rfl) ?_
  refine H.regP (by kernel_rfl) ?_
  refine HO.goP 1 (by kernel_rfl) ?_
  refine HO.done (by kernel_rfl) ?_
  refine Kseq_norm ?_
  refine H.blockI 0 (by kernel_rfl) ?_
  refine H.loopP (by kernel_rfl) ?_
  exact HL.ren hS [] _ _ _ (by kernel_rfl) (big_L1_ok (x, 0, 0) r h W0 w0 S hS)
def grown_L4 (x : Int × Int × Int × Bool × (List Int)) : Option (Int × Int × Bool × (List Int) × (List S36) × Int) :=
  some (x.2.1, x.2.2.1, x.2.2.2.1, x.2.2.2.2, [], x.1)
theorem grown_L4_ok : ∀ (x : Int × Int × Int × Bool × (List Int)) (r : Int × Int × Bool × (List Int) × (List S36) × Int), grown_L4 x = some r → ∀ (W0 w0 : World) (S : Own), Std W0 w0 S 0 → H Tryd.prog w0 S 102 (cR (cL (cR (cL (cR (cR (cR (cR (cR (cR (cB Tryd.f45))))))))))) (mkS [(6, .pointer (some ⟨0, 0, none⟩)), (9, .pointer (some ⟨1, 0, none⟩)), (10, .int .i64 x.1)] [(0, .cells [.int .u8 0, .int .u32 0, .bool false, .slice none 0 0, .slice none 0 0] 36 5), (1, .cells [.int .u8 x.2.1, .int .u32 x.2.2.1, .bool x.2.2.2.1, tl 1 2 (encI .u8) x.2.2.2.2, .slice none 0 0] 36 5)] 3 [2]) (Kseq Tryd.prog w0 S 102 (cR (cR (cR (cR (cR (cR (cR (cB Tryd.f45)))))))) (KEnd Tryd.prog Tryd.f45 (PEnd w0 S (.returned (.tuple #[.agg #[.int .u8 r.1, .int .u32 r.2.1, .bool r.2.2.1, ls 1 false (encI .u8) r.2.2.2.1, ls 5 false enc36 r.2.2.2.2.1], .int .i64 r.2.2.2.2.2]))))) := by
  intro x r h
  unfold grown_L4 at h
  intro W0 w0 S hS
  haveI := hS.noEx Tryd.prog
  refine H.seqP (by kernel_rfl) ?_
  refine H.regP (by kernel_rfl) ?_
  refine HO.goP 4 (by kernel_rfl) ?_
  refine HO.done (by kernel_rfl) ?_
  refine Kseq_norm ?_
  refine H.retP (by kernel_rfl) ?_
  refine Kseq_ret ?_
  obtain rfl := Option.some.inj h
  exact KEnd.retW (v := .tuple #[.agg #[.int .u8 x.2.1, .int .u32 x.2.2.1, .bool x.2.2.2.1, tl 1 2 (encI .u8) x.2.2.2.2, .slice none 0 0], .int .i64 x.1]) (.tuple [.agg [.keep, .keep, .keep, .list 1 false, .list 5 false], .keep]) (by kernel_rfl) (by kernel_rfl) (by kernel_rfl) (by kernel_rfl)
mutual
def grown_L6 (x : (List S65) × Int × Int × Int × Bool × Int × Int × Bool × (List Int) × Int × Int × Int × (List S36)) : Option (Int × Int × Bool × (List Int) × (List S36) × Int) :=
  if x.2.2.2.2.1 = true then
    (grown (x.1, x.2.2.1, (IntKind.i64.wrap (x.2.1 + 1)))) >>= fun y4 =>
    (app' 64 x.2.2.2.2.2.2.2.2.2.2.2.2 [(S36.mk y4.1 y4.2.1 y4.2.2.1 y4.2.2.2.1 y4.2.2.2.2.1)]) >>= fun y5 =>
    grown_L5 (x.1, x.2.1, y4.2.2.2.2.2, (IntKind.i64.wrap (x.2.2.2.1 + 1)), x.2.2.2.2.2.1, x.2.2.2.2.2.2.1, x.2.2.2.2.2.2.2.1, x.2.2.2.2.2.2.2.2.1, x.2.2.2.2.2.2.2.2.2.1, x.2.2.2.2.2.2.2.2.2.2.1, x.2.2.2.2.2.2.2.2.2.2.2.1, y5)
  else
    some (x.2.2.2.2.2.2.2.2.2.2.1, x.2.2.2.2.2.2.2.2.2.2.2.1, x.2.2.2.2.2.2.2.1, [], x.2.2.2.2.2.2.2.2.2.2.2.2, x.2.2.1)
partial_fixpoint
def grown_L5 (x : (List S65) × Int × Int × Int × Int × Int × Bool × (List Int) × Int × Int × Int × (List S36)) : Option (Int × Int × Bool × (List Int) × (List S36) × Int) :=
  if x.2.2.2.1 < (IntKind.i64.wrap (remI .u8 x.2.2.2.2.2.2.2.2.1 4)) then
    if x.2.1 < 10 then
      if x.2.2.1 < (x.1.length : Int) then
        grown_L6 (x.1, x.2.1, x.2.2.1, x.2.2.2.1, (decide (x.2.2.1 < 40)), x.2.2.2.2.1, x.2.2.2.2.2.1, x.2.2.2.2.2.2.1, x.2.2.2.2.2.2.2.1, x.2.2.2.2.2.2.2.2.1, x.2.2.2.2.2.2.2.2.2.1, x.2.2.2.2.2.2.2.2.2.2.1, x.2.2.2.2.2.2.2.2.2.2.2)
      else
        grown_L6 (x.1, x.2.1, x.2.2.1, x.2.2.2.1, false, x.2.2.2.2.1, x.2.2.2.2.2.1, x.2.2.2.2.2.2.1, x.2.2.2.2.2.2.2.1, x.2.2.2.2.2.2.2.2.1, x.2.2.2.2.2.2.2.2.2.1, x.2.2.2.2.2.2.2.2.2.2.1, x.2.2.2.2.2.2.2.2.2.2.2)
    else
      grown_L6 (x.1, x.2.1, x.2.2.1, x.2.2.2.1, false, x.2.2.2.2.1, x.2.2.2.2.2.1, x.2.2.2.2.2.2.1, x.2.2.2.2.2.2.2.1, x.2.2.2.2.2.2.2.2.1, x.2.2.2.2.2.2.2.2.2.1, x.2.2.2.2.2.2.2.2.2.2.1, x.2.2.2.2.2.2.2.2.2.2.2)
  else
    grown_L6 (x.1, x.2.1, x.2.2.1, x.2.2.2.1, false, x.2.2.2.2.1, x.2.2.2.2.2.1, x.2.2.2.2.2.2.1, x.2.2.2.2.2.2.2.1, x.2.2.2.2.2.2.2.2.1, x.2.2.2.2.2.2.2.2.2.1, x.2.2.2.2.2.2.2.2.2.2.1, x.2.2.2.2.2.2.2.2.2.2.2)
partial_fixpoint
def grown (x : (List S65) × Int × Int) : Option (Int × Int × Bool × (List Int) × (List S36) × Int) :=
  if (x.1.length : Int) ≤ x.2.1 then
    grown_L1 (x.1, x.2.1, x.2.2, true)
  else
    grown_L1 (x.1, x.2.1, x.2.2, (decide (40 ≤ x.2.1)))
partial_fixpoint
def grown_L1 (x : (List S65) × Int × Int × Bool) : Option (Int × Int × Bool × (List Int) × (List S36) × Int) :=
  if x.2.2.2 = true then
    some (3, 1, false, [], [], (IntKind.i64.wrap (x.2.1 + 1)))
  else
    (at' x.1 x.2.1) >>= fun y1 =>
    if (remI .u8 y1.c0 4) = 0 then
      grown_L2 (x.1, x.2.1, x.2.2.1, (decide ((remI .u32 y1.c1 2097152) = 0)), y1.c0, y1.c1, y1.c2, y1.c3, y1.c4, (remI .u8 y1.c0 4), (remI .u32 y1.c1 2097152))
    else
      grown_L2 (x.1, x.2.1, x.2.2.1, false, y1.c0, y1.c1, y1.c2, y1.c3, y1.c4, (remI .u8 y1.c0 4), (remI .u32 y1.c1 2097152))
partial_fixpoint
def grown_L2 (x : (List S65) × Int × Int × Bool × Int × Int × Bool × (List Int) × Int × Int × Int) : Option (Int × Int × Bool × (List Int) × (List S36) × Int) :=
  if x.2.2.2.1 = true then
    grown_L3 (x.1, x.2.1, x.2.2.1, x.2.2.2.2.1, x.2.2.2.2.2.1, x.2.2.2.2.2.2.1, x.2.2.2.2.2.2.2.1, x.2.2.2.2.2.2.2.2.1, x.2.2.2.2.2.2.2.2.2.1, 2)
  else
    grown_L3 (x.1, x.2.1, x.2.2.1, x.2.2.2.2.1, x.2.2.2.2.2.1, x.2.2.2.2.2.2.1, x.2.2.2.2.2.2.2.1, x.2.2.2.2.2.2.2.2.1, x.2.2.2.2.2.2.2.2.2.1, x.2.2.2.2.2.2.2.2.2.2)
partial_fixpoint
def grown_L3 (x : (List S65) × Int × Int × Int × Int × Bool × (List Int) × Int × Int × Int) : Option (Int × Int × Bool × (List Int) × (List S36) × Int) :=
  if (!x.2.2.2.2.2.1) = true then
    (sub' x.2.2.2.2.2.2.1 0 (minI (x.2.2.2.2.2.2.1.length : Int) 300)) >>= fun y2 =>
    (app' 1 [] y2) >>= fun y3 =>
    if y2.length = 0 then
      grown_L4 ((IntKind.i64.wrap (x.2.1 + 1)), x.2.2.2.2.2.2.2.2.1, x.2.2.2.2.2.2.2.2.2, x.2.2.2.2.2.1, [])
    else
      grown_L4 ((IntKind.i64.wrap (x.2.1 + 1)), x.2.2.2.2.2.2.2.2.1, x.2.2.2.2.2.2.2.2.2, x.2.2.2.2.2.1, y3)
  else
    grown_L5 (x.1, x.2.2.1, (IntKind.i64.wrap (x.2.1 + 1)), 0, x.2.2.2.1, x.2.2.2.2.1, x.2.2.2.2.2.1, x.2.2.2.2.2.2.1, x.2.2.2.2.2.2.2.1, x.2.2.2.2.2.2.2.2.1, x.2.2.2.2.2.2.2.2.2, [])
partial_fixpoint
end
theorem grown_L6_grp : (∀ (x : (List S65) × Int × Int × Int × Bool × Int × Int × Bool × (List Int) × Int × Int × Int × (List S36)) (r : Int × Int × Bool × (List Int) × (List S36) × Int), grown_L6 x = some r → ∀ (W0 w0 : World) (S : Own), Std W0 w0 S 0 → H Tryd.prog w0 S 102 (cR (cL (cL (cL (cR (cL (cR (cR (cR (cR (cR (cR (cR (cB Tryd.f45)))))))))))))) (mkS [(0, ls 5 false enc65 x.1), (2, .int .i64 x.2.1), (6, .pointer (some ⟨0, 0, none⟩)), (8, .pointer (some ⟨1, 0, none⟩)), (9, .pointer (some ⟨2, 0, none⟩)), (10, .int .i64 x.2.2.1), (11, .int .i64 x.2.2.2.1), (83, .bool x.2.2.2.2.1)] [(0, .cells [.int .u8 0, .int .u32 0, .bool false, .slice none 0 0, .slice none 0 0] 36 5), (1, .cells [.int .u8 x.2.2.2.2.2.1, .int .u32 x.2.2.2.2.2.2.1, .bool x.2.2.2.2.2.2.2.1, ls 1 false (encI .u8) x.2.2.2.2.2.2.2.2.1, .int .u8 x.2.2.2.2.2.2.2.2.2.1] 65 5), (2, .cells [.int .u8 x.2.2.2.2.2.2.2.2.2.2.1, .int .u32 x.2.2.2.2.2.2.2.2.2.2.2.1, .bool x.2.2.2.2.2.2.2.1, .slice none 0 0, tl 5 3 enc36 x.2.2.2.2.2.2.2.2.2.2.2.2] 36 5)] 4 [3]) (Kseq Tryd.prog w0 S 102 (cR (cL (cL (cR (cL (cR (cR (cR (cR (cR (cR (cR (cB Tryd.f45))))))))))))) (Kloop Tryd.prog w0 S 102 (cL (cL (cR (cL (cR (cR (cR (cR (cR (cR (cR (cB Tryd.f45)))))))))))) (Kblock 0 (Kseq Tryd.prog w0 S 102 (cR (cR (cR (cR (cR (cR (cR (cR (cB Tryd.f45))))))))) (KEnd Tryd.prog Tryd.f45 (PEnd w0 S (.returned (.tuple #[.agg #[.int .u8 r.1, .int .u32 r.2.1, .bool r.2.2.1, ls 1 false (encI .u8) r.2.2.2.1, ls 5 false enc36 r.2.2.2.2.1], .int .i64 r.2.2.2.2.2]))))))))) ∧
  (∀ (x : (List S65) × Int × Int × Int × Int × Int × Bool × (List Int) × Int × Int × Int × (List S36)) (r : Int × Int × Bool × (List Int) × (List S36) × Int), grown_L5 x = some r → ∀ (W0 w0 : World) (S : Own), Std W0 w0 S 0 → HL Tryd.prog w0 S 102 (cL (cL (cR (cL (cR (cR (cR (cR (cR (cR (cR (cB Tryd.f45)))))))))))) (mkS [(0, ls 5 false enc65 x.1), (2, .int .i64 x.2.1), (6, .pointer (some ⟨0, 0, none⟩)), (8, .pointer (some ⟨1, 0, none⟩)), (9, .pointer (some ⟨2, 0, none⟩)), (10, .int .i64 x.2.2.1), (11, .int .i64 x.2.2.2.1)] [(0, .cells [.int .u8 0, .int .u32 0, .bool false, .slice none 0 0, .slice none 0 0] 36 5), (1, .cells [.int .u8 x.2.2.2.2.1, .int .u32 x.2.2.2.2.2.1, .bool x.2.2.2.2.2.2.1, ls 1 false (encI .u8) x.2.2.2.2.2.2.2.1, .int .u8 x.2.2.2.2.2.2.2.2.1] 65 5), (2, .cells [.int .u8 x.2.2.2.2.2.2.2.2.2.1, .int .u32 x.2.2.2.2.2.2.2.2.2.2.1, .bool x.2.2.2.2.2.2.1, .slice none 0 0, tl 5 3 enc36 x.2.2.2.2.2.2.2.2.2.2.2] 36 5)] 4 [3]) (Kblock 0 (Kseq Tryd.prog w0 S 102 (cR (cR (cR (cR (cR (cR (cR (cR (cB Tryd.f45))))))))) (KEnd Tryd.prog Tryd.f45 (PEnd w0 S (.returned (.tuple #[.agg #[.int .u8 r.1, .int .u32 r.2.1, .bool r.2.2.1, ls 1 false (encI .u8) r.2.2.2.1, ls 5 false enc36 r.2.2.2.2.1], .int .i64 r.2.2.2.2.2]))))))) ∧
  (∀ (x : (List S65) × Int × Int) (r : Int × Int × Bool × (List Int) × (List S36) × Int), grown x = some r → ∀ W0 : World, PTo Tryd.prog W0 45 #[ls 5 false enc65 x.1, .int .i64 x.2.1, .int .i64 x.2.2] (.returned (.tuple #[.agg #[.int .u8 r.1, .int .u32 r.2.1, .bool r.2.2.1, ls 1 false (encI .u8) r.2.2.2.1, ls 5 false enc36 r.2.2.2.2.1], .int .i64 r.2.2.2.2.2]))) ∧
  (∀ (x : (List S65) × Int × Int × Bool) (r : Int × Int × Bool × (List Int) × (List S36) × Int), grown_L1 x = some r → ∀ (W0 w0 : World) (S : Own), Std W0 w0 S 0 → H Tryd.prog w0 S 102 (cR (cL (cR (cB Tryd.f45)))) (mkS [(0, ls 5 false enc65 x.1), (1, .int .i64 x.2.1), (2, .int .i64 x.2.2.1), (6, .pointer (some ⟨0, 0, none⟩)), (20, .bool x.2.2.2)] [(0, .cells [.int .u8 0, .int .u32 0, .bool false, .slice none 0 0, .slice none 0 0] 36 5)] 1 []) (Kseq Tryd.prog w0 S 102 (cR (cR (cB Tryd.f45))) (KEnd Tryd.prog Tryd.f45 (PEnd w0 S (.returned (.tuple #[.agg #[.int .u8 r.1, .int .u32 r.2.1, .bool r.2.2.1, ls 1 false (encI .u8) r.2.2.2.1, ls 5 false enc36 r.2.2.2.2.1], .int .i64 r.2.2.2.2.2])))))) ∧
  (∀ (x : (List S65) × Int × Int × Bool × Int × Int × Bool × (List Int) × Int × Int × Int) (r : Int × Int × Bool × (List Int) × (List S36) × Int), grown_L2 x = some r → ∀ (W0 w0 : World) (S : Own), Std W0 w0 S 0 → H Tryd.prog w0 S 102 (cR (cL (cR (cR (cR (cR (cB Tryd.f45))))))) (mkS [(0, ls 5 false enc65 x.1), (1, .int .i64 x.2.1), (2, .int .i64 x.2.2.1), (6, .pointer (some ⟨0, 0, none⟩)), (8, .pointer (some ⟨1, 0, none⟩)), (9, .pointer (some ⟨2, 0, none⟩)), (45, .bool x.2.2.2.1)] [(0, .cells [.int .u8 0, .int .u32 0, .bool false, .slice none 0 0, .slice none 0 0] 36 5), (1, .cells [.int .u8 x.2.2.2.2.1, .int .u32 x.2.2.2.2.2.1, .bool x.2.2.2.2.2.2.1, ls 1 false (encI .u8) x.2.2.2.2.2.2.2.1, .int .u8 x.2.2.2.2.2.2.2.2.1] 65 5), (2, .cells [.int .u8 x.2.2.2.2.2.2.2.2.2.1, .int .u32 x.2.2.2.2.2.2.2.2.2.2, .bool x.2.2.2.2.2.2.1, .slice none 0 0, .slice none 0 0] 36 5)] 3 []) (Kseq Tryd.prog w0 S 102 (cR (cR (cR (cR (cR (cB Tryd.f45)))))) (KEnd Tryd.prog Tryd.f45 (PEnd w0 S (.returned (.tuple #[.agg #[.int .u8 r.1, .int .u32 r.2.1, .bool r.2.2.1, ls 1 false (encI .u8) r.2.2.2.1, ls 5 false enc36 r.2.2.2.2.1], .int .i64 r.2.2.2.2.2])))))) ∧
  (∀ (x : (List S65) × Int × Int × Int × Int × Bool × (List Int) × Int × Int × Int) (r : Int × Int × Bool × (List Int) × (List S36) × Int), grown_L3 x = some r → ∀ (W0 w0 : World) (S : Own), Std W0 w0 S 0 → H Tryd.prog w0 S 102 (cR (cR (cR (cR (cR (cB Tryd.f45)))))) (mkS [(0, ls 5 false enc65 x.1), (1, .int .i64 x.2.1), (2, .int .i64 x.2.2.1), (6, .pointer (some ⟨0, 0, none⟩)), (8, .pointer (some ⟨1, 0, none⟩)), (9, .pointer (some ⟨2, 0, none⟩))] [(0, .cells [.int .u8 0, .int .u32 0, .bool false, .slice none 0 0, .slice none 0 0] 36 5), (1, .cells [.int .u8 x.2.2.2.1, .int .u32 x.2.2.2.2.1, .bool x.2.2.2.2.2.1, ls 1 false (encI .u8) x.2.2.2.2.2.2.1, .int .u8 x.2.2.2.2.2.2.2.1] 65 5), (2, .cells [.int .u8 x.2.2.2.2.2.2.2.2.1, .int .u32 x.2.2.2.2.2.2.2.2.2, .bool x.2.2.2.2.2.1, .slice none 0 0, .slice none 0 0] 36 5)] 3 []) (KEnd Tryd.prog Tryd.f45 (PEnd w0 S (.returned (.tuple #[.agg #[.int .u8 r.1, .int .u32 r.2.1, .bool r.2.2.1, ls 1 false (encI .u8) r.2.2.2.1, ls 5 false enc36 r.2.2.2.2.1], .int .i64 r.2.2.2.2.2]))))) := by
  refine grown_L6.mutual_partial_correctness (fun (x : (List S65) × Int × Int × Int × Bool × Int × Int × Bool × (List Int) × Int × Int × Int × (List S36)) (r : Int × Int × Bool × (List Int) × (List S36) × Int) => ∀ (W0 w0 : World) (S : Own), Std W0 w0 S 0 → H Tryd.prog w0 S 102 (cR (cL (cL (cL (cR (cL (cR (cR (cR (cR (cR (cR (cR (cB Tryd.f45)))))))))))))) (mkS [(0, ls 5 false enc65 x.1), (2, .int .i64 x.2.1), (6, .pointer (some ⟨0, 0, none⟩)), (8, .pointer (some ⟨1, 0, none⟩)), (9, .pointer (some ⟨2, 0, none⟩)), (10, .int .i64 x.2.2.1), (11, .int .i64 x.2.2.2.1), (83, .bool x.2.2.2.2.1)] [(0, .cells [.int .u8 0, .int .u32 0, .bool false, .slice none 0 0, .slice none 0 0] 36 5), (1, .cells [.int .u8 x.2.2.2.2.2.1, .int .u32 x.2.2.2.2.2.2.1, .bool x.2.2.2.2.2.2.2.1, ls 1 false (encI .u8) x.2.2.2.2.2.2.2.2.1, .int .u8 x.2.2.2.2.2.2.2.2.2.1] 65 5), (2, .cells [.int .u8 x.2.2.2.2.2.2.2.2.2.2.1, .int .u32 x.2.2.2.2.2.2.2.2.2.2.2.1, .bool x.2.2.2.2.2.2.2.1, .slice none 0 0, tl 5 3 enc36 x.2.2.2.2.2.2.2.2.2.2.2.2] 36 5)] 4 [3]) (Kseq Tryd.prog w0 S 102 (cR (cL (cL (cR (cL (cR (cR (cR (cR (cR (cR (cR (cB Tryd.f45))))))))))))) (Kloop Tryd.prog w0 S 102 (cL (cL (cR (cL (cR (cR (cR (cR (cR (cR (cR (cB Tryd.f45)))))))))))) (Kblock 0 (Kseq Tryd.prog w0 S 102 (cR (cR (cR (cR (cR (cR (cR (cR (cB Tryd.f45))))))))) (KEnd Tryd.prog Tryd.f45 (PEnd w0 S (.returned (.tuple #[.agg #[.int .u8 r.1, .int .u32 r.2.1, .bool r.2.2.1, ls 1 false (encI .u8) r.2.2.2.1, ls 5 false enc36 r.2.2.2.2.1], .int .i64 r.2.2.2.2.2]))))))))) (fun (x : (List S65) × Int × Int × Int × Int × Int × Bool × (List Int) × Int × Int × Int × (List S36)) (r : Int × Int × Bool × (List Int) × (List S36) × Int) => ∀ (W0 w0 : World) (S : Own), Std W0 w0 S 0 → HL Tryd.prog w0 S 102 (cL (cL (cR (cL (cR (cR (cR (cR (cR (cR (cR (cB Tryd.f45)))))))))))) (mkS [(0, ls 5 false enc65 x.1), (2, .int .i64 x.2.1), (6, .pointer (some ⟨0, 0, none⟩)), (8, .pointer (some ⟨1, 0, none⟩)), (9, .pointer (some ⟨2, 0, none⟩)), (10, .int .i64 x.2.2.1), (11, .int .i64 x.2.2.2.1)] [(0, .cells [.int .u8 0, .int .u32 0, .bool false, .slice none 0 0, .slice none 0 0] 36 5), (1, .cells [.int .u8 x.2.2.2.2.1, .int .u32 x.2.2.2.2.2.1, .bool x.2.2.2.2.2.2.1, ls 1 false (encI .u8) x.2.2.2.2.2.2.2.1, .int .u8 x.2.2.2.2.2.2.2.2.1] 65 5), (2, .cells [.int .u8 x.2.2.2.2.2.2.2.2.2.1, .int .u32 x.2.2.2.2.2.2.2.2.2.2.1, .bool x.2.2.2.2.2.2.1, .slice none 0 0, tl 5 3 enc36 x.2.2.2.2.2.2.2.2.2.2.2] 36 5)] 4 [3]) (Kblock 0 (Kseq Tryd.prog w0 S 102 (cR (cR (cR (cR (cR (cR (cR (cR (cB Tryd.f45))))))))) (KEnd Tryd.prog Tryd.f45 (PEnd w0 S (.returned (.tuple #[.agg #[.int .u8 r.1, .int .u32 r.2.1, .bool r.2.2.1, ls 1 false (encI .u8) r.2.2.2.1, ls 5 false enc36 r.2.2.2.2.1], .int .i64 r.2.2.2.2.2]))))))) (fun (x : (List S65) × Int × Int) (r : Int × Int × Bool × (List Int) × (List S36) × Int) => ∀ W0 : World, PTo Tryd.prog W0 45 #[ls 5 false enc65 x.1, .int .i64 x.2.1, .int .i64 x.2.2] (.returned (.tuple #[.agg #[.int .u8 r.1, .int .u32 r.2.1, .bool r.2.2.1, ls 1 false (encI .u8) r.2.2.2.1, ls 5 false enc36 r.2.2.2.2.1], .int .i64 r.2.2.2.2.2]))) (fun (x : (List S65) × Int × Int × Bool) (r : Int × Int × Bool × (List Int) × (List S36) × Int) => ∀ (W0 w0 : World) (S : Own), Std W0 w0 S 0 → H Tryd.prog w0 S 102 (cR (cL (cR (cB Tryd.f45)))) (mkS [(0, ls 5 false enc65 x.1), (1, .int .i64 x.2.1), (2, .int .i64 x.2.2.1), (6, .pointer (some ⟨0, 0, none⟩)), (20, .bool x.2.2.2)] [(0, .cells [.int .u8 0, .int .u32 0, .bool false, .slice none 0 0, .slice none 0 0] 36 5)] 1 []) (Kseq Tryd.prog w0 S 102 (cR (cR (cB Tryd.f45))) (KEnd Tryd.prog Tryd.f45 (PEnd w0 S (.returned (.tuple #[.agg #[.int .u8 r.1, .int .u32 r.2.1, .bool r.2.2.1, ls 1 false (encI .u8) r.2.2.2.1, ls 5 false enc36 r.2.2.2.2.1], .int .i64 r.2.2.2.2.2])))))) (fun (x : (List S65) × Int × Int × Bool × Int × Int × Bool × (List Int) × Int × Int × Int) (r : Int × Int × Bool × (List Int) × (List S36) × Int) => ∀ (W0 w0 : World) (S : Own), Std W0 w0 S 0 → H Tryd.prog w0 S 102 (cR (cL (cR (cR (cR (cR (cB Tryd.f45))))))) (mkS [(0, ls 5 false enc65 x.1), (1, .int .i64 x.2.1), (2, .int .i64 x.2.2.1), (6, .pointer (some ⟨0, 0, none⟩)), (8, .pointer (some ⟨1, 0, none⟩)), (9, .pointer (some ⟨2, 0, none⟩)), (45, .bool x.2.2.2.1)] [(0, .cells [.int .u8 0, .int .u32 0, .bool false, .slice none 0 0, .slice none 0 0] 36 5), (1, .cells [.int .u8 x.2.2.2.2.1, .int .u32 x.2.2.2.2.2.1, .bool x.2.2.2.2.2.2.1, ls 1 false (encI .u8) x.2.2.2.2.2.2.2.1, .int .u8 x.2.2.2.2.2.2.2.2.1] 65 5), (2, .cells [.int .u8 x.2.2.2.2.2.2.2.2.2.1, .int .u32 x.2.2.2.2.2.2.2.2.2.2, .bool x.2.2.2.2.2.2.1, .slice none 0 0, .slice none 0 0] 36 5)] 3 []) (Kseq Tryd.prog w0 S 102 (cR (cR (cR (cR (cR (cB Tryd.f45)))))) (KEnd Tryd.prog Tryd.f45 (PEnd w0 S (.returned (.tuple #[.agg #[.int .u8 r.1, .int .u32 r.2.1, .bool r.2.2.1, ls 1 false (encI .u8) r.2.2.2.1, ls 5 false enc36 r.2.2.2.2.1], .int .i64 r.2.2.2.2.2])))))) (fun (x : (List S65) × Int × Int × Int × Int × Bool × (List Int) × Int × Int × Int) (r : Int × Int × Bool × (List Int) × (List S36) × Int) => ∀ (W0 w0 : World) (S : Own), Std W0 w0 S 0 → H Tryd.prog w0 S 102 (cR (cR (cR (cR (cR (cB Tryd.f45)))))) (mkS [(0, ls 5 false enc65 x.1), (1, .int .i64 x.2.1), (2, .int .i64 x.2.2.1), (6, .pointer (some ⟨0, 0, none⟩)), (8, .pointer (some ⟨1, 0, none⟩)), (9, .pointer (some ⟨2, 0, none⟩))] [(0, .cells [.int .u8 0, .int .u32 0, .bool false, .slice none 0 0, .slice none 0 0] 36 5), (1, .cells [.int .u8 x.2.2.2.1, .int .u32 x.2.2.2.2.1, .bool x.2.2.2.2.2.1, ls 1 false (encI .u8) x.2.2.2.2.2.2.1, .int .u8 x.2.2.2.2.2.2.2.1] 65 5), (2, .cells [.int .u8 x.2.2.2.2.2.2.2.2.1, .int .u32 x.2.2.2.2.2.2.2.2.2, .bool x.2.2.2.2.2.1, .slice none 0 0, .slice none 0 0] 36 5)] 3 []) (KEnd Tryd.prog Tryd.f45 (PEnd w0 S (.returned (.tuple #[.agg #[.int .u8 r.1, .int .u32 r.2.1, .bool r.2.2.1, ls 1 false (encI .u8) r.2.2.2.1, ls 5 false enc36 r.2.2.2.2.1], .int .i64 r.2.2.2.2.2]))))) ?_ ?_ ?_ ?_ ?_ ?_
  · intro g_grown_L5 g_grown ih_grown_L5 ih_grown x r h
    intro W0 w0 S hS
    haveI := hS.noEx Tryd.prog
    refine H.condS (b := x.2.2.2.2.1) (by kernel_rfl) (by kernel_rfl) (fun hb => ?_) (fun hb => ?_)
    · rw [if_pos hb] at h
      refine H.skipP (by kernel_rfl) ?_
      refine Kseq_norm ?_
      refine H.seqP (by kernel_rfl) ?_
      refine H.blockI 1 (by kernel_rfl) ?_
      refine H.seqP (by kernel_rfl) ?_
      refine H.regP (by kernel_rfl) ?_
      refine HO.goP 1 (by kernel_rfl) ?_
      refine HO.done (by kernel_rfl) ?_
      refine Kseq_norm ?_
      refine H.seqP (by kernel_rfl) ?_
      refine H.regP (by kernel_rfl) ?_
      refine HO.goP 4 (by kernel_rfl) ?_
      obtain ⟨y4, hy, h⟩ := bindS h
      refine HO.callW hS [.list 5 false, .keep, .keep] (ih_grown (x.1, x.2.2.1, (IntKind.i64.wrap (x.2.1 + 1))) y4 hy W0) (by kernel_rfl) (by kernel_rfl) ?_
      refine HO.goP 5 (by kernel_rfl) ?_
      refine HO.done (by kernel_rfl) ?_
      refine Kseq_norm ?_
      refine H.regP (by kernel_rfl) ?_
      refine HO.goP 4 (by kernel_rfl) ?_
      obtain ⟨y5, hy, h⟩ := bindS h
      refine HO.effA (app1_aop (enc := enc36) (k := 5) true 1 [.int .u8 y4.1, .int .u32 y4.2.1, .bool y4.2.2.1, ls 1 false (encI .u8) y4.2.2.2.1, ls 5 false enc36 y4.2.2.2.2.1] [] hy (by kernel_rfl) (by kernel_rfl) (by simp only [List.map_cons, List.map_nil, enc36_eq]; kernel_rfl)) ?_
      refine HO.goP 2 (by kernel_rfl) ?_
      refine HO.done (by kernel_rfl) ?_
      refine Kblock_norm ?_
      refine Kseq_norm ?_
      refine H.regP (by kernel_rfl) ?_
      refine HO.goP 3 (by kernel_rfl) ?_
      refine HO.done (by kernel_rfl) ?_
      refine Kloop_norm ?_
      exact HL.ren hS [0, 1, 2, 6] _ _ _ (by kernel_rfl) (ih_grown_L5 (x.1, x.2.1, y4.2.2.2.2.2, (IntKind.i64.wrap (x.2.2.2.1 + 1)), x.2.2.2.2.2.1, x.2.2.2.2.2.2.1, x.2.2.2.2.2.2.2.1, x.2.2.2.2.2.2.2.2.1, x.2.2.2.2.2.2.2.2.2.1, x.2.2.2.2.2.2.2.2.2.2.1, x.2.2.2.2.2.2.2.2.2.2.2.1, y5) r h W0 w0 S hS)
    · rw [if_neg (ne_true hb)] at h
      refine H.exitI 0 (by kernel_rfl) ?_
      refine Kseq_exit ?_
      refine Kloop_exit ?_
      refine Kblock_hit ?_
      refine Kseq_norm ?_
      refine H.seqP (by kernel_rfl) ?_
      refine H.regP (by kernel_rfl) ?_
      refine HO.goP 4 (by kernel_rfl) ?_
      refine HO.done (by kernel_rfl) ?_
      refine Kseq_norm ?_
      refine H.retP (by kernel_rfl) ?_
      obtain rfl := Option.some.inj h
      exact KEnd.retW (v := .tuple #[.agg #[.int .u8 x.2.2.2.2.2.2.2.2.2.2.1, .int .u32 x.2.2.2.2.2.2.2.2.2.2.2.1, .bool x.2.2.2.2.2.2.2.1, .slice none 0 0, tl 5 3 enc36 x.2.2.2.2.2.2.2.2.2.2.2.2], .int .i64 x.2.2.1]) (.tuple [.agg [.keep, .keep, .keep, .list 1 false, .list 5 false], .keep]) (by kernel_rfl) (by kernel_rfl) (by kernel_rfl) (by kernel_rfl)
  · intro g_grown_L6 ih_grown_L6 x r h
    intro W0 w0 S hS
    haveI := hS.noEx Tryd.prog
    refine HL.round ?_
    refine H.seqP (by kernel_rfl) ?_
    refine H.seqP (by kernel_rfl) ?_
    refine H.regP (by kernel_rfl) ?_
    refine HO.goP 6 (by kernel_rfl) ?_
    refine HO.boolP (decide (x.2.2.2.1 < (IntKind.i64.wrap (remI .u8 x.2.2.2.2.2.2.2.2.1 4)))) (by kernel_rfl) (by kernel_rfl) (fun hb => ?_) (fun hb => ?_)
    · rw [if_pos (of_decide_eq_true hb)] at h
      refine HO.goP 3 (by kernel_rfl) ?_
      refine HO.boolP (decide (x.2.1 < 10)) (by kernel_rfl) (by kernel_rfl) (fun hb => ?_) (fun hb => ?_)
      · rw [if_pos (of_decide_eq_true hb)] at h
        refine HO.goP 2 (by kernel_rfl) ?_
        refine HO.len (by kernel_rfl) (by kernel_rfl) (ls_size enc65 x.1) ?_
        refine HO.goP 2 (by kernel_rfl) ?_
        refine HO.boolP (decide (x.2.2.1 < (x.1.length : Int))) (by kernel_rfl) (by kernel_rfl) (fun hb => ?_) (fun hb => ?_)
        · rw [if_pos (of_decide_eq_true hb)] at h
          refine HO.goP 3 (by kernel_rfl) ?_
          refine HO.done (by kernel_rfl) ?_
          refine Kseq_norm ?_
          exact H.ren hS [0, 1, 2, 3] _ _ _ (by kernel_rfl) (ih_grown_L6 (x.1, x.2.1, x.2.2.1, x.2.2.2.1, (decide (x.2.2.1 < 40)), x.2.2.2.2.1, x.2.2.2.2.2.1, x.2.2.2.2.2.2.1, x.2.2.2.2.2.2.2.1, x.2.2.2.2.2.2.2.2.1, x.2.2.2.2.2.2.2.2.2.1, x.2.2.2.2.2.2.2.2.2.2.1, x.2.2.2.2.2.2.2.2.2.2.2) r h W0 w0 S hS)
        · rw [if_neg (of_decide_eq_false hb)] at h
          refine HO.goP 3 (by kernel_rfl) ?_
          refine HO.done (by kernel_rfl) ?_
          refine Kseq_norm ?_
          exact H.ren hS [0, 1, 2, 3] _ _ _ (by kernel_rfl) (ih_grown_L6 (x.1, x.2.1, x.2.2.1, x.2.2.2.1, false, x.2.2.2.2.1, x.2.2.2.2.2.1, x.2.2.2.2.2.2.1, x.2.2.2.2.2.2.2.1, x.2.2.2.2.2.2.2.2.1, x.2.2.2.2.2.2.2.2.2.1, x.2.2.2.2.2.2.2.2.2.2.1, x.2.2.2.2.2.2.2.2.2.2.2) r h W0 w0 S hS)
      · rw [if_neg (of_decide_eq_false hb)] at h
        refine HO.goP 9 (by kernel_rfl) ?_
        refine HO.done (by kernel_rfl) ?_
        refine Kseq_norm ?_
        exact H.ren hS [0, 1, 2, 3] _ _ _ (by kernel_rfl) (ih_grown_L6 (x.1, x.2.1, x.2.2.1, x.2.2.2.1, false, x.2.2.2.2.1, x.2.2.2.2.2.1, x.2.2.2.2.2.2.1, x.2.2.2.2.2.2.2.1, x.2.2.2.2.2.2.2.2.1, x.2.2.2.2.2.2.2.2.2.1, x.2.2.2.2.2.2.2.2.2.2.1, x.2.2.2.2.2.2.2.2.2.2.2) r h W0 w0 S hS)
    · rw [if_neg (of_decide_eq_false hb)] at h
      refine HO.goP 13 (by kernel_rfl) ?_
      refine HO.done (by kernel_rfl) ?_
      refine Kseq_norm ?_
      exact H.ren hS [0, 1, 2, 3] _ _ _ (by kernel_rfl) (ih_grown_L6 (x.1, x.2.1, x.2.2.1, x.2.2.2.1, false, x.2.2.2.2.1, x.2.2.2.2.2.1, x.2.2.2.2.2.2.1, x.2.2.2.2.2.2.2.1, x.2.2.2.2.2.2.2.2.1, x.2.2.2.2.2.2.2.2.2.1, x.2.2.2.2.2.2.2.2.2.2.1, x.2.2.2.2.2.2.2.2.2.2.2) r h W0 w0 S hS)
  · intro g_grown_L1 ih_grown_L1 x r h
    intro W0
    refine PTo.of_body (fn := Tryd.f45) (code := cB Tryd.f45) Tryd.func45 rfl rfl ?_
    intro w0 S hS
    haveI := hS.noEx Tryd.prog
    refine H.seqP (by kernel_rfl) ?_
    refine H.regP (by kernel_rfl) ?_
    refine HO.goP 2 (by kernel_rfl) ?_
    refine HO.done (by kernel_rfl) ?_
    refine Kseq_norm ?_
    refine H.seqP (by kernel_rfl) ?_
    refine H.seqP (by kernel_rfl) ?_
    refine H.regP (by kernel_rfl) ?_
    refine HO.goP 2 (by kernel_rfl) ?_
    refine HO.len (by kernel_rfl) (by kernel_rfl) (ls_size enc65 x.1) ?_
    refine HO.goP 1 (by kernel_rfl) ?_
    refine HO.boolP (decide ((x.1.length : Int) ≤ x.2.1)) (by kernel_rfl) (by kernel_rfl) (fun hb => ?_) (fun hb => ?_)
    · rw [if_pos (of_decide_eq_true hb)] at h
      refine HO.goP 3 (by kernel_rfl) ?_
      refine HO.done (by kernel_rfl) ?_
      refine Kseq_norm ?_
      exact H.ren hS [0] _ _ _ (by kernel_rfl) (ih_grown_L1 (x.1, x.2.1, x.2.2, true) r h W0 w0 S hS)
    · rw [if_neg (of_decide_eq_false hb)] at h
      refine HO.goP 3 (by kernel_rfl) ?_
      refine HO.done (by kernel_rfl) ?_
      refine Kseq_norm ?_
      exact H.ren hS [0] _ _ _ (by kernel_rfl) (ih_grown_L1 (x.1, x.2.1, x.2.2, (decide (40 ≤ x.2.1))) r h W0 w0 S hS)
  · intro g_grown_L2 ih_grown_L2 x r h
    intro W0 w0 S hS
    haveI := hS.noEx Tryd.prog
    refine H.condS (b := x.2.2.2) (by kernel_rfl) (by kernel_rfl) (fun hb => ?_) (fun hb => ?_)
    · rw [if_pos hb] at h
      refine H.seqP (by kernel_rfl) ?_
      refine H.regP (by kernel_rfl) ?_
      refine HO.goP 6 (by kernel_rfl) ?_
      refine HO.done (by kernel_rfl) ?_
      refine Kseq_norm ?_
      refine H.retP (by kernel_rfl) ?_
      refine Kseq_ret ?_
      obtain rfl := Option.some.inj h
      exact KEnd.of (v := .tuple #[.agg #[.int .u8 3, .int .u32 1, .bool false, .slice (some ⟨1, 0, none⟩) 0 0, .slice none 0 0], .int .i64 (IntKind.i64.wrap (x.2.1 + 1))]) (by kernel_rfl) (by kernel_rfl) (PEnd.frz 1 0 0 1 5 true ([].map (encI .u8)).toArray [] (by kernel_rfl) (PEnd.wk (v1 := .tuple #[.agg #[.int .u8 3, .int .u32 1, .bool false, ls 1 false (encI .u8) [], ls 5 false enc36 []], .int .i64 (IntKind.i64.wrap (x.2.1 + 1))]) (.tuple [.agg [.keep, .keep, .keep, .list 1 false, .list 5 false], .keep]) (by kernel_rfl) (PEnd.fin (by kernel_rfl))))
    · rw [if_neg (ne_true hb)] at h
      refine H.skipP (by kernel_rfl) ?_
      refine Kseq_norm ?_
      refine H.seqP (by kernel_rfl) ?_
      refine H.regP (by kernel_rfl) ?_
      refine HO.goP 2 (by kernel_rfl) ?_
      obtain ⟨y1, hy, h⟩ := bindS h
      refine HO.idx (.agg #[.int .u8 y1.c0, .int .u32 y1.c1, .bool y1.c2, ls 1 false (encI .u8) y1.c3, .int .u8 y1.c4]) hy (enc65_eq y1) (by kernel_rfl) ?_
      refine HO.goP 3 (by kernel_rfl) ?_
      refine HO.done (by kernel_rfl) ?_
      refine Kseq_norm ?_
      refine H.seqP (by kernel_rfl) ?_
      refine H.regP (by kernel_rfl) ?_
      refine HO.goP 11 (by kernel_rfl) ?_
      refine HO.done (by kernel_rfl) ?_
      refine Kseq_norm ?_
      refine H.seqP (by kernel_rfl) ?_
      refine H.seqP (by kernel_rfl) ?_
      refine H.regP (by kernel_rfl) ?_
      refine HO.goP 3 (by kernel_rfl) ?_
      refine HO.boolP (decide ((remI .u8 y1.c0 4) = 0)) (by kernel_rfl) (by kernel_rfl) (fun hb => ?_) (fun hb => ?_)
      · rw [if_pos (of_decide_eq_true hb)] at h
        refine HO.goP 4 (by kernel_rfl) ?_
        refine HO.done (by kernel_rfl) ?_
        refine Kseq_norm ?_
        exact H.ren hS [0, 1, 2] _ _ _ (by kernel_rfl) (ih_grown_L2 (x.1, x.2.1, x.2.2.1, (decide ((remI .u32 y1.c1 2097152) = 0)), y1.c0, y1.c1, y1.c2, y1.c3, y1.c4, (remI .u8 y1.c0 4), (remI .u32 y1.c1 2097152)) r h W0 w0 S hS)
      · rw [if_neg (of_decide_eq_false hb)] at h
        refine HO.goP 4 (by kernel_rfl) ?_
        refine HO.done (by kernel_rfl) ?_
        refine Kseq_norm ?_
        exact H.ren hS [0, 1, 2] _ _ _ (by kernel_rfl) (ih_grown_L2 (x.1, x.2.1, x.2.2.1, false, y1.c0, y1.c1, y1.c2, y1.c3, y1.c4, (remI .u8 y1.c0 4), (remI .u32 y1.c1 2097152)) r h W0 w0 S hS)
  · intro g_grown_L3 ih_grown_L3 x r h
    intro W0 w0 S hS
    haveI := hS.noEx Tryd.prog
    refine H.condS (b := x.2.2.2.1) (by kernel_rfl) (by kernel_rfl) (fun hb => ?_) (fun hb => ?_)
    · rw [if_pos hb] at h
      refine H.regP (by kernel_rfl) ?_
      refine HO.goP 2 (by kernel_rfl) ?_
      refine HO.done (by kernel_rfl) ?_
      refine Kseq_norm ?_
      exact H.ren hS [0, 1, 2] _ _ _ (by kernel_rfl) (ih_grown_L3 (x.1, x.2.1, x.2.2.1, x.2.2.2.2.1, x.2.2.2.2.2.1, x.2.2.2.2.2.2.1, x.2.2.2.2.2.2.2.1, x.2.2.2.2.2.2.2.2.1, x.2.2.2.2.2.2.2.2.2.1, 2) r h W0 w0 S hS)
    · rw [if_neg (ne_true hb)] at h
      refine H.skipP (by kernel_rfl) ?_
      refine Kseq_norm ?_
      exact H.ren hS [0, 1, 2] _ _ _ (by kernel_rfl) (ih_grown_L3 (x.1, x.2.1, x.2.2.1, x.2.2.2.2.1, x.2.2.2.2.2.1, x.2.2.2.2.2.2.1, x.2.2.2.2.2.2.2.1, x.2.2.2.2.2.2.2.2.1, x.2.2.2.2.2.2.2.2.2.1, x.2.2.2.2.2.2.2.2.2.2) r h W0 w0 S hS)
  · intro g_grown_L5 ih_grown_L5 x r h
    intro W0 w0 S hS
    haveI := hS.noEx Tryd.prog
    refine H.seqP (by kernel_rfl) ?_
    refine H.regP (by kernel_rfl) ?_
    refine HO.goP 3 (by kernel_rfl) ?_
    refine HO.done (by kernel_rfl) ?_
    refine Kseq_norm ?_
    refine H.seqP (by kernel_rfl) ?_
    refine H.seqP (by kernel_rfl) ?_
    refine H.regP (by kernel_rfl) ?_
    refine HO.goP 3 (by kernel_rfl) ?_
    refine HO.done (by kernel_rfl) ?_
    refine Kseq_norm ?_
    refine H.condS (b := !x.2.2.2.2.2.1) (by kernel_rfl) (by kernel_rfl) (fun hb => ?_) (fun hb => ?_)
    · rw [if_pos hb] at h
      refine H.seqP (by kernel_rfl) ?_
      refine H.regP (by kernel_rfl) ?_
      refine HO.goP 5 (by kernel_rfl) ?_
      refine HO.len (by kernel_rfl) (by kernel_rfl) (ls_size (encI .u8) x.2.2.2.2.2.2.1) ?_
      refine HO.goP 1 (by kernel_rfl) ?_
      obtain ⟨y2, hy, h⟩ := bindS h
      refine HO.valA (sl2_aop (enc := (encI .u8)) (k := 1) (j := .i64) hy (by kernel_rfl)) ?_
      refine HO.tkz [52] 3 0 0 1 5 ([].map (encI .u8)).toArray [] (by kernel_rfl) ?_
      obtain ⟨y3, hy, h⟩ := bindS h
      by_cases hb : y2.length = 0
      · rw [if_pos hb] at h
        refine HO.valA (appN_aop (ag := false) [] (encI_ok .u8) hy hb (by kernel_rfl)) ?_
        refine HO.goP 2 (by kernel_rfl) ?_
        refine HO.done (by kernel_rfl) ?_
        refine Kseq_norm ?_
        exact H.ren hS [0, 2, 4] _ _ _ (by kernel_rfl) (grown_L4_ok ((IntKind.i64.wrap (x.2.1 + 1)), x.2.2.2.2.2.2.2.2.1, x.2.2.2.2.2.2.2.2.2, x.2.2.2.2.2.1, []) r h W0 w0 S hS)
      · rw [if_neg hb] at h
        refine HO.effA (appL_aop (ag := false) [] (encI_ok .u8) hy hb (by kernel_rfl)) ?_
        refine HO.goP 2 (by kernel_rfl) ?_
        refine HO.done (by kernel_rfl) ?_
        refine Kseq_norm ?_
        exact H.ren hS [0, 2, 5] _ _ _ (by kernel_rfl) (grown_L4_ok ((IntKind.i64.wrap (x.2.1 + 1)), x.2.2.2.2.2.2.2.2.1, x.2.2.2.2.2.2.2.2.2, x.2.2.2.2.2.1, y3) r h W0 w0 S hS)
    · rw [if_neg (ne_true hb)] at h
      refine H.skipP (by kernel_rfl) ?_
      refine Kseq_norm ?_
      refine H.seqP (by kernel_rfl) ?_
      refine H.seqP (by kernel_rfl) ?_
      refine H.regP (by kernel_rfl) ?_
      refine HO.goP 1 (by kernel_rfl) ?_
      refine HO.done (by kernel_rfl) ?_
      refine Kseq_norm ?_
      refine H.blockI 0 (by kernel_rfl) ?_
      refine H.loopP (by kernel_rfl) ?_
      refine HL.tkc 2 36 5 4 5 [.int .u8 x.2.2.2.2.2.2.2.2.1, .int .u32 x.2.2.2.2.2.2.2.2.2, .bool x.2.2.2.2.2.1, .slice none 0 0, .slice none 0 0] (.slice none 0 0) #[] (by kernel_rfl) ?_
      exact HL.ren hS [0, 1, 2, 3] _ _ _ (by kernel_rfl) (ih_grown_L5 (x.1, x.2.2.1, (IntKind.i64.wrap (x.2.1 + 1)), 0, x.2.2.2.1, x.2.2.2.2.1, x.2.2.2.2.2.1, x.2.2.2.2.2.2.1, x.2.2.2.2.2.2.2.1, x.2.2.2.2.2.2.2.2.1, x.2.2.2.2.2.2.2.2.2, []) r h W0 w0 S hS)
theorem grown_L6_ok : ∀ (x : (List S65) × Int × Int × Int × Bool × Int × Int × Bool × (List Int) × Int × Int × Int × (List S36)) (r : Int × Int × Bool × (List Int) × (List S36) × Int), grown_L6 x = some r → ∀ (W0 w0 : World) (S : Own), Std W0 w0 S 0 → H Tryd.prog w0 S 102 (cR (cL (cL (cL (cR (cL (cR (cR (cR (cR (cR (cR (cR (cB Tryd.f45)))))))))))))) (mkS [(0, ls 5 false enc65 x.1), (2, .int .i64 x.2.1), (6, .pointer (some ⟨0, 0, none⟩)), (8, .pointer (some ⟨1, 0, none⟩)), (9, .pointer (some ⟨2, 0, none⟩)), (10, .int .i64 x.2.2.1), (11, .int .i64 x.2.2.2.1), (83, .bool x.2.2.2.2.1)] [(0, .cells [.int .u8 0, .int .u32 0, .bool false, .slice none 0 0, .slice none 0 0] 36 5), (1, .cells [.int .u8 x.2.2.2.2.2.1, .int .u32 x.2.2.2.2.2.2.1, .bool x.2.2.2.2.2.2.2.1, ls 1 false (encI .u8) x.2.2.2.2.2.2.2.2.1, .int .u8 x.2.2.2.2.2.2.2.2.2.1] 65 5), (2, .cells [.int .u8 x.2.2.2.2.2.2.2.2.2.2.1, .int .u32 x.2.2.2.2.2.2.2.2.2.2.2.1, .bool x.2.2.2.2.2.2.2.1, .slice none 0 0, tl 5 3 enc36 x.2.2.2.2.2.2.2.2.2.2.2.2] 36 5)] 4 [3]) (Kseq Tryd.prog w0 S 102 (cR (cL (cL (cR (cL (cR (cR (cR (cR (cR (cR (cR (cB Tryd.f45))))))))))))) (Kloop Tryd.prog w0 S 102 (cL (cL (cR (cL (cR (cR (cR (cR (cR (cR (cR (cB Tryd.f45)))))))))))) (Kblock 0 (Kseq Tryd.prog w0 S 102 (cR (cR (cR (cR (cR (cR (cR (cR (cB Tryd.f45))))))))) (KEnd Tryd.prog Tryd.f45 (PEnd w0 S (.returned (.tuple #[.agg #[.int .u8 r.1, .int .u32 r.2.1, .bool r.2.2.1, ls 1 false (encI .u8) r.2.2.2.1, ls 5 false enc36 r.2.2.2.2.1], .int .i64 r.2.2.2.2.2])))))))) := grown_L6_grp.1
theorem grown_L5_ok : ∀ (x : (List S65) × Int × Int × Int × Int × Int × Bool × (List Int) × Int × Int × Int × (List S36)) (r : Int × Int × Bool × (List Int) × (List S36) × Int), grown_L5 x = some r → ∀ (W0 w0 : World) (S : Own), Std W0 w0 S 0 → HL Tryd.prog w0 S 102 (cL (cL (cR (cL (cR (cR (cR (cR (cR (cR (cR (cB Tryd.f45)))))))))))) (mkS [(0, ls 5 false enc65 x.1), (2, .int .i64 x.2.1), (6, .pointer (some ⟨0, 0, none⟩)), (8, .pointer (some ⟨1, 0, none⟩)), (9, .pointer (some ⟨2, 0, none⟩)), (10, .int .i64 x.2.2.1), (11, .int .i64 x.2.2.2.1)] [(0, .cells [.int .u8 0, .int .u32 0, .bool false, .slice none 0 0, .slice none 0 0] 36 5), (1, .cells [.int .u8 x.2.2.2.2.1, .int .u32 x.2.2.2.2.2.1, .bool x.2.2.2.2.2.2.1, ls 1 false (encI .u8) x.2.2.2.2.2.2.2.1, .int .u8 x.2.2.2.2.2.2.2.2.1] 65 5), (2, .cells [.int .u8 x.2.2.2.2.2.2.2.2.2.1, .int .u32 x.2.2.2.2.2.2.2.2.2.2.1, .bool x.2.2.2.2.2.2.1, .slice none 0 0, tl 5 3 enc36 x.2.2.2.2.2.2.2.2.2.2.2] 36 5)] 4 [3]) (Kblock 0 (Kseq Tryd.prog w0 S 102 (cR (cR (cR (cR (cR (cR (cR (cR (cB Tryd.f45))))))))) (KEnd Tryd.prog Tryd.f45 (PEnd w0 S (.returned (.tuple #[.agg #[.int .u8 r.1, .int .u32 r.2.1, .bool r.2.2.1, ls 1 false (encI .u8) r.2.2.2.1, ls 5 false enc36 r.2.2.2.2.1], .int .i64 r.2.2.2.2.2])))))) := grown_L6_grp.2.1
theorem grown_ok : ∀ (x : (List S65) × Int × Int) (r : Int × Int × Bool × (List Int) × (List S36) × Int), grown x = some r → ∀ W0 : World, PTo Tryd.prog W0 45 #[ls 5 false enc65 x.1, .int .i64 x.2.1, .int .i64 x.2.2] (.returned (.tuple #[.agg #[.int .u8 r.1, .int .u32 r.2.1, .bool r.2.2.1, ls 1 false (encI .u8) r.2.2.2.1, ls 5 false enc36 r.2.2.2.2.1], .int .i64 r.2.2.2.2.2])) := grown_L6_grp.2.2.1
theorem grown_L1_ok : ∀ (x : (List S65) × Int × Int × Bool) (r : Int × Int × Bool × (List Int) × (List S36) × Int), grown_L1 x = some r → ∀ (W0 w0 : World) (S : Own), Std W0 w0 S 0 → H Tryd.prog w0 S 102 (cR (cL (cR (cB Tryd.f45)))) (mkS [(0, ls 5 false enc65 x.1), (1, .int .i64 x.2.1), (2, .int .i64 x.2.2.1), (6, .pointer (some ⟨0, 0, none⟩)), (20, .bool x.2.2.2)] [(0, .cells [.int .u8 0, .int .u32 0, .bool false, .slice none 0 0, .slice none 0 0] 36 5)] 1 []) (Kseq Tryd.prog w0 S 102 (cR (cR (cB Tryd.f45))) (KEnd Tryd.prog Tryd.f45 (PEnd w0 S (.returned (.tuple #[.agg #[.int .u8 r.1, .int .u32 r.2.1, .bool r.2.2.1, ls 1 false (encI .u8) r.2.2.2.1, ls 5 false enc36 r.2.2.2.2.1], .int .i64 r.2.2.2.2.2]))))) := grown_L6_grp.2.2.2.1
theorem grown_L2_ok : ∀ (x : (List S65) × Int × Int × Bool × Int × Int × Bool × (List Int) × Int × Int × Int) (r : Int × Int × Bool × (List Int) × (List S36) × Int), grown_L2 x = some r → ∀ (W0 w0 : World) (S : Own), Std W0 w0 S 0 → H Tryd.prog w0 S 102 (cR (cL (cR (cR (cR (cR (cB Tryd.f45))))))) (mkS [(0, ls 5 false enc65 x.1), (1, .int .i64 x.2.1), (2, .int .i64 x.2.2.1), (6, .pointer (some ⟨0, 0, none⟩)), (8, .pointer (some ⟨1, 0, none⟩)), (9, .pointer (some ⟨2, 0, none⟩)), (45, .bool x.2.2.2.1)] [(0, .cells [.int .u8 0, .int .u32 0, .bool false, .slice none 0 0, .slice none 0 0] 36 5), (1, .cells [.int .u8 x.2.2.2.2.1, .int .u32 x.2.2.2.2.2.1, .bool x.2.2.2.2.2.2.1, ls 1 false (encI .u8) x.2.2.2.2.2.2.2.1, .int .u8 x.2.2.2.2.2.2.2.2.1] 65 5), (2, .cells [.int .u8 x.2.2.2.2.2.2.2.2.2.1, .int .u32 x.2.2.2.2.2.2.2.2.2.2, .bool x.2.2.2.2.2.2.1, .slice none 0 0, .slice none 0 0] 36 5)] 3 []) (Kseq Tryd.prog w0 S 102 (cR (cR (cR (cR (cR (cB Tryd.f45)))))) (KEnd Tryd.prog Tryd.f45 (PEnd w0 S (.returned (.tuple #[.agg #[.int .u8 r.1, .int .u32 r.2.1, .bool r.2.2.1, ls 1 false (encI .u8) r.2.2.2.1, ls 5 false enc36 r.2.2.2.2.1], .int .i64 r.2.2.2.2.2]))))) := grown_L6_grp.2.2.2.2.1
theorem grown_L3_ok : ∀ (x : (List S65) × Int × Int × Int × Int × Bool × (List Int) × Int × Int × Int) (r : Int × Int × Bool × (List Int) × (List S36) × Int), grown_L3 x = some r → ∀ (W0 w0 : World) (S : Own), Std W0 w0 S 0 → H Tryd.prog w0 S 102 (cR (cR (cR (cR (cR (cB Tryd.f45)))))) (mkS [(0, ls 5 false enc65 x.1), (1, .int .i64 x.2.1), (2, .int .i64 x.2.2.1), (6, .pointer (some ⟨0, 0, none⟩)), (8, .pointer (some ⟨1, 0, none⟩)), (9, .pointer (some ⟨2, 0, none⟩))] [(0, .cells [.int .u8 0, .int .u32 0, .bool false, .slice none 0 0, .slice none 0 0] 36 5), (1, .cells [.int .u8 x.2.2.2.1, .int .u32 x.2.2.2.2.1, .bool x.2.2.2.2.2.1, ls 1 false (encI .u8) x.2.2.2.2.2.2.1, .int .u8 x.2.2.2.2.2.2.2.1] 65 5), (2, .cells [.int .u8 x.2.2.2.2.2.2.2.2.1, .int .u32 x.2.2.2.2.2.2.2.2.2, .bool x.2.2.2.2.2.1, .slice none 0 0, .slice none 0 0] 36 5)] 3 []) (KEnd Tryd.prog Tryd.f45 (PEnd w0 S (.returned (.tuple #[.agg #[.int .u8 r.1, .int .u32 r.2.1, .bool r.2.2.1, ls 1 false (encI .u8) r.2.2.2.1, ls 5 false enc36 r.2.2.2.2.1], .int .i64 r.2.2.2.2.2])))) := grown_L6_grp.2.2.2.2.2
def tOf (x : (List S65)) : Option (Int × Int × Bool × (List Int) × (List S36)) :=
  (grown (x, 0, 1)) >>= fun y1 =>
  some (y1.1, y1.2.1, y1.2.2.1, y1.2.2.2.1, y1.2.2.2.2.1)
theorem tOf_ok : ∀ (x : (List S65)) (r : Int × Int × Bool × (List Int) × (List S36)), tOf x = some r → ∀ W0 : World, PTo Tryd.prog W0 15 #[ls 5 false enc65 x] (.returned (.agg #[.int .u8 r.1, .int .u32 r.2.1, .bool r.2.2.1, ls 1 false (encI .u8) r.2.2.2.1, ls 5 false enc36 r.2.2.2.2])) := by
  intro x r h
  unfold tOf at h
  intro W0
  refine PTo.of_body (fn := Tryd.f15) (code := cB Tryd.f15) Tryd.func15 rfl rfl ?_
  intro w0 S hS
  haveI := hS.noEx Tryd.prog
  refine H.seqP (by kernel_rfl) ?_
  refine H.regP (by kernel_rfl) ?_
  refine HO.goP 1 (by kernel_rfl) ?_
  refine HO.done (by kernel_rfl) ?_
  refine Kseq_norm ?_
  refine H.seqP (by kernel_rfl) ?_
  refine H.regP (by kernel_rfl) ?_
  refine HO.goP 1 (by kernel_rfl) ?_
  obtain ⟨y1, hy, h⟩ := bindS h
  refine HO.callW hS [.list 5 false, .keep, .keep] (grown_ok (x, 0, 1) y1 hy W0) (by kernel_rfl) (by kernel_rfl) ?_
  refine HO.goP 6 (by kernel_rfl) ?_
  refine HO.done (by kernel_rfl) ?_
  refine Kseq_norm ?_
  refine H.seqP (by kernel_rfl) ?_
  refine H.regP (by kernel_rfl) ?_
  refine HO.goP 2 (by kernel_rfl) ?_
  refine HO.done (by kernel_rfl) ?_
  refine Kseq_norm ?_
  refine H.retP (by kernel_rfl) ?_
  obtain rfl := Option.some.inj h
  exact KEnd.retW (v := .agg #[.int .u8 y1.1, .int .u32 y1.2.1, .bool y1.2.2.1, ls 1 false (encI .u8) y1.2.2.2.1, ls 5 false enc36 y1.2.2.2.2.1]) (.agg [.keep, .keep, .keep, .list 1 false, .list 5 false]) (by kernel_rfl) (by kernel_rfl) (by kernel_rfl) (by kernel_rfl)
def findF_L1 (x : Bool × Int × Int) : Option (Bool × Int × Int) :=
  some (x.1, x.2.1, x.2.2)
theorem findF_L1_ok : ∀ (x : Bool × Int × Int) (r : Bool × Int × Int), findF_L1 x = some r → ∀ (W0 w0 : World) (S : Own), Std W0 w0 S 2 → H Tryd.prog w0 S 15 (cR (cR (cB Tryd.f62))) (mkS [(4, .bool x.1)] [(0, .cells [.int .u8 x.2.1] 5 1), (1, .cells [.int .u32 x.2.2] 33 1)] 2 []) (KEnd Tryd.prog Tryd.f62 (FEnd w0 S (.returned (.bool r.1)) (mkW 2 [] [(0, .cells [.int .u8 r.2.1] 5 1), (1, .cells [.int .u32 r.2.2] 33 1)]))) := by
  intro x r h
  unfold findF_L1 at h
  intro W0 w0 S hS
  haveI := hS.noEx Tryd.prog
  refine H.retP (by kernel_rfl) ?_
  obtain rfl := Option.some.inj h
  exact KEnd.of (v := .bool x.1) (by kernel_rfl) (by kernel_rfl) (FEnd.ren hS [0, 1] _ _ (by kernel_rfl))
def findF (x : Int × Int × Bool × (List Int) × (List S36) × Int × Int) : Option (Bool × Int × Int) :=
  if x.1 = x.2.2.2.2.2.1 then
    findF_L1 ((decide (x.2.1 = x.2.2.2.2.2.2)), x.2.2.2.2.2.1, x.2.2.2.2.2.2)
  else
    findF_L1 (false, x.2.2.2.2.2.1, x.2.2.2.2.2.2)
theorem findF_ok : ∀ (x : Int × Int × Bool × (List Int) × (List S36) × Int × Int) (r : Bool × Int × Int), findF x = some r → ∀ W0 : World, FTo Tryd.prog W0 62 #[.agg #[.int .u8 x.1, .int .u32 x.2.1, .bool x.2.2.1, ls 1 false (encI .u8) x.2.2.2.1, ls 5 false enc36 x.2.2.2.2.1], .pointer (some ⟨0, 0, none⟩), .pointer (some ⟨1, 0, none⟩)] (mkW 2 [] [(0, .cells [.int .u8 x.2.2.2.2.2.1] 5 1), (1, .cells [.int .u32 x.2.2.2.2.2.2] 33 1)]) (.returned (.bool r.1)) (mkW 2 [] [(0, .cells [.int .u8 r.2.1] 5 1), (1, .cells [.int .u32 r.2.2] 33 1)]) := by
  intro x r h
  unfold findF at h
  intro W0
  refine FTo.of_body (fn := Tryd.f62) (code := cB Tryd.f62) Tryd.func62 rfl rfl ?_
  intro w0 S hS
  haveI := hS.noEx Tryd.prog
  refine H.seqP (by kernel_rfl) ?_
  refine H.regP (by kernel_rfl) ?_
  refine HO.goP 2 (by kernel_rfl) ?_
  refine HO.done (by kernel_rfl) ?_
  refine Kseq_norm ?_
  refine H.seqP (by kernel_rfl) ?_
  refine H.regP (by kernel_rfl) ?_
  refine HO.goP 4 (by kernel_rfl) ?_
  refine HO.boolP (decide (x.1 = x.2.2.2.2.2.1)) (by kernel_rfl) (by kernel_rfl) (fun hb => ?_) (fun hb => ?_)
  · rw [if_pos (of_decide_eq_true hb)] at h
    refine HO.goP 6 (by kernel_rfl) ?_
    refine HO.done (by kernel_rfl) ?_
    refine Kseq_norm ?_
    exact H.ren hS [0, 1] _ _ _ (by kernel_rfl) (findF_L1_ok ((decide (x.2.1 = x.2.2.2.2.2.2)), x.2.2.2.2.2.1, x.2.2.2.2.2.2) r h W0 w0 S hS)
  · rw [if_neg (of_decide_eq_false hb)] at h
    refine HO.goP 6 (by kernel_rfl) ?_
    refine HO.done (by kernel_rfl) ?_
    refine Kseq_norm ?_
    exact H.ren hS [0, 1] _ _ _ (by kernel_rfl) (findF_L1_ok (false, x.2.2.2.2.2.1, x.2.2.2.2.2.2) r h W0 w0 S hS)
def indexF_L1 (x : (List S36) × Int × Int × Int × Int) : Option (Int × Int × Int) :=
  if x.2.2.1 < x.2.1 then
    (at' x.1 x.2.2.1) >>= fun y1 =>
    (findF (y1.c0, y1.c1, y1.c2, y1.c3, y1.c4, x.2.2.2.1, x.2.2.2.2)) >>= fun y2 =>
    if y2.1 = true then
      some (x.2.2.1, y2.2.1, y2.2.2)
    else
      indexF_L1 (x.1, x.2.1, (IntKind.i64.wrap (x.2.2.1 + 1)), y2.2.1, y2.2.2)
  else
    some ((-1), x.2.2.2.1, x.2.2.2.2)
partial_fixpoint
theorem indexF_L1_ok : ∀ (x : (List S36) × Int × Int × Int × Int) (r : Int × Int × Int), indexF_L1 x = some r → ∀ (W0 w0 : World) (S : Own), Std W0 w0 S 2 → HL Tryd.prog w0 S 19 (cL (cL (cR (cL (cR (cB Tryd.f61)))))) (mkS [(0, ls 5 false enc36 x.1), (1, .func (.func 62) #[] #[.pointer (some ⟨0, 0, none⟩), .pointer (some ⟨1, 0, none⟩)]), (7, .int .i64 x.2.1), (8, .int .i64 x.2.2.1)] [(0, .cells [.int .u8 x.2.2.2.1] 5 1), (1, .cells [.int .u32 x.2.2.2.2] 33 1)] 2 []) (Kblock 0 (Kseq Tryd.prog w0 S 19 (cR (cR (cB Tryd.f61))) (KEnd Tryd.prog Tryd.f61 (FEnd w0 S (.returned (.int .i64 r.1)) (mkW 2 [] [(0, .cells [.int .u8 r.2.1] 5 1), (1, .cells [.int .u32 r.2.2] 33 1)]))))) := by
  refine indexF_L1.partial_correctness (fun (x : (List S36) × Int × Int × Int × Int) (r : Int × Int × Int) => ∀ (W0 w0 : World) (S : Own), Std W0 w0 S 2 → HL Tryd.prog w0 S 19 (cL (cL (cR (cL (cR (cB Tryd.f61)))))) (mkS [(0, ls 5 false enc36 x.1), (1, .func (.func 62) #[] #[.pointer (some ⟨0, 0, none⟩), .pointer (some ⟨1, 0, none⟩)]), (7, .int .i64 x.2.1), (8, .int .i64 x.2.2.1)] [(0, .cells [.int .u8 x.2.2.2.1] 5 1), (1, .cells [.int .u32 x.2.2.2.2] 33 1)] 2 []) (Kblock 0 (Kseq Tryd.prog w0 S 19 (cR (cR (cB Tryd.f61))) (KEnd Tryd.prog Tryd.f61 (FEnd w0 S (.returned (.int .i64 r.1)) (mkW 2 [] [(0, .cells [.int .u8 r.2.1] 5 1), (1, .cells [.int .u32 r.2.2] 33 1)])))))) ?_
  intro self ih_indexF_L1 x r h
  intro W0 w0 S hS
  haveI := hS.noEx Tryd.prog
  refine HL.round ?_
  refine H.seqP (by kernel_rfl) ?_
  refine H.regP (by kernel_rfl) ?_
  refine HO.goP 1 (by kernel_rfl) ?_
  refine HO.done (by kernel_rfl) ?_
  refine Kseq_norm ?_
  refine H.seqP (by kernel_rfl) ?_
  refine H.condS (b := decide (x.2.2.1 < x.2.1)) (by kernel_rfl) (by kernel_rfl) (fun hb => ?_) (fun hb => ?_)
  · rw [if_pos (of_decide_eq_true hb)] at h
    refine H.skipP (by kernel_rfl) ?_
    refine Kseq_norm ?_
    refine H.seqP (by kernel_rfl) ?_
    refine H.blockI 1 (by kernel_rfl) ?_
    refine H.seqP (by kernel_rfl) ?_
    refine H.regP (by kernel_rfl) ?_
    refine HO.goP 2 (by kernel_rfl) ?_
    refine HO.done (by kernel_rfl) ?_
    refine Kseq_norm ?_
    refine H.seqP (by kernel_rfl) ?_
    refine H.regP (by kernel_rfl) ?_
    refine HO.goP 3 (by kernel_rfl) ?_
    obtain ⟨y1, hy, h⟩ := bindS h
    refine HO.idx (.agg #[.int .u8 y1.c0, .int .u32 y1.c1, .bool y1.c2, ls 1 false (encI .u8) y1.c3, ls 5 false enc36 y1.c4]) hy (enc36_eq y1) (by kernel_rfl) ?_
    refine HO.goP 1 (by kernel_rfl) ?_
    obtain ⟨y2, hy, h⟩ := bindS h
    refine HO.callFW hS (.bool y2.1) 2 [] [(0, .cells [.int .u8 y2.2.1] 5 1), (1, .cells [.int .u32 y2.2.2] 33 1)] [0, 1] [.agg [.keep, .keep, .keep, .list 1 false, .list 5 false], .keep, .keep] (findF_ok (y1.c0, y1.c1, y1.c2, y1.c3, y1.c4, x.2.2.2.1, x.2.2.2.2) y2 hy W0) (by kernel_rfl) (by kernel_rfl) ?_
    refine HO.done (by kernel_rfl) ?_
    refine Kseq_norm ?_
    refine H.condS (b := y2.1) (by kernel_rfl) (by kernel_rfl) (fun hb => ?_) (fun hb => ?_)
    · rw [if_pos hb] at h
      refine H.seqP (by kernel_rfl) ?_
      refine H.regP (by kernel_rfl) ?_
      refine HO.goP 2 (by kernel_rfl) ?_
      refine HO.done (by kernel_rfl) ?_
      refine Kseq_norm ?_
      refine H.retP (by kernel_rfl) ?_
      refine Kblock_ret ?_
      refine Kseq_ret ?_
      refine Kloop_ret ?_
      refine Kblock_ret ?_
      refine Kseq_ret ?_
      obtain rfl := Option.some.inj h
      exact KEnd.of (v := .int .i64 x.2.2.1) (by kernel_rfl) (by kernel_rfl) (FEnd.ren hS [0, 1] _ _ (by kernel_rfl))
    · rw [if_neg (ne_true hb)] at h
      refine H.skipP (by kernel_rfl) ?_
      refine Kblock_norm ?_
      refine Kseq_norm ?_
      refine H.regP (by kernel_rfl) ?_
      refine HO.goP 2 (by kernel_rfl) ?_
      refine HO.done (by kernel_rfl) ?_
      refine Kloop_norm ?_
      exact HL.ren hS [0, 1] _ _ _ (by kernel_rfl) (ih_indexF_L1 (x.1, x.2.1, (IntKind.i64.wrap (x.2.2.1 + 1)), y2.2.1, y2.2.2) r h W0 w0 S hS)
  · rw [if_neg (of_decide_eq_false hb)] at h
    refine H.exitI 0 (by kernel_rfl) ?_
    refine Kseq_exit ?_
    refine Kloop_exit ?_
    refine Kblock_hit ?_
    refine Kseq_norm ?_
    refine H.seqP (by kernel_rfl) ?_
    refine H.regP (by kernel_rfl) ?_
    refine HO.goP 1 (by kernel_rfl) ?_
    refine HO.done (by kernel_rfl) ?_
    refine Kseq_norm ?_
    refine H.retP (by kernel_rfl) ?_
    obtain rfl := Option.some.inj h
    exact KEnd.of (v := .int .i64 (-1)) (by kernel_rfl) (by kernel_rfl) (FEnd.ren hS [0, 1] _ _ (by kernel_rfl))
def indexF (x : (List S36) × Int × Int) : Option (Int × Int × Int) :=
  indexF_L1 (x.1, (x.1.length : Int), 0, x.2.1, x.2.2)
theorem indexF_ok : ∀ (x : (List S36) × Int × Int) (r : Int × Int × Int), indexF x = some r → ∀ W0 : World, FTo Tryd.prog W0 61 #[ls 5 false enc36 x.1, .func (.func 62) #[] #[.pointer (some ⟨0, 0, none⟩), .pointer (some ⟨1, 0, none⟩)]] (mkW 2 [] [(0, .cells [.int .u8 x.2.1] 5 1), (1, .cells [.int .u32 x.2.2] 33 1)]) (.returned (.int .i64 r.1)) (mkW 2 [] [(0, .cells [.int .u8 r.2.1] 5 1), (1, .cells [.int .u32 r.2.2] 33 1)]) := by
  intro x r h
  unfold indexF at h
  intro W0
  refine FTo.of_body (fn := Tryd.f61) (code := cB Tryd.f61) Tryd.func61 rfl rfl ?_
  intro w0 S hS
  haveI := hS.noEx Tryd.prog
  refine H.seqP (by kernel_rfl) ?_
  refine H.regP (by kernel_rfl) ?_
  refine HO.goP 1 (by kernel_rfl) ?_
  refine HO.done (by kernel_rfl) ?_
  refine Kseq_norm ?_
  refine H.seqP (by kernel_rfl) ?_
  refine H.seqP (by kernel_rfl) ?_
  refine H.regP (by kernel_rfl) ?_
  refine HO.goP 1 (by kernel_rfl) ?_
  refine HO.len (by kernel_rfl) (by kernel_rfl) (ls_size enc36 x.1) ?_
  refine HO.goP 1 (by kernel_rfl) ?_
  refine HO.done (by kernel_rfl) ?_
  refine Kseq_norm ?_
  refine H.blockI 0 (by kernel_rfl) ?_
  refine H.loopP (by kernel_rfl) ?_
  exact HL.ren hS [0, 1] _ _ _ (by kernel_rfl) (indexF_L1_ok (x.1, (x.1.length : Int), 0, x.2.1, x.2.2) r h W0 w0 S hS)
def find (x : Int × Int × Bool × (List Int) × (List S36) × Int × Int) : Option (Int × Int × Bool × (List Int) × (List S36) × Bool) :=
  (indexF (x.2.2.2.2.1, x.2.2.2.2.2.1, x.2.2.2.2.2.2)) >>= fun y1 =>
  if y1.1 < 0 then
    some (0, 0, false, [], [], false)
  else
    (at' x.2.2.2.2.1 y1.1) >>= fun y2 =>
    some (y2.c0, y2.c1, y2.c2, y2.c3, y2.c4, true)
theorem find_ok : ∀ (x : Int × Int × Bool × (List Int) × (List S36) × Int × Int) (r : Int × Int × Bool × (List Int) × (List S36) × Bool), find x = some r → ∀ W0 : World, PTo Tryd.prog W0 28 #[.agg #[.int .u8 x.1, .int .u32 x.2.1, .bool x.2.2.1, ls 1 false (encI .u8) x.2.2.2.1, ls 5 false enc36 x.2.2.2.2.1], .int .u8 x.2.2.2.2.2.1, .int .u32 x.2.2.2.2.2.2] (.returned (.tuple #[.agg #[.int .u8 r.1, .int .u32 r.2.1, .bool r.2.2.1, ls 1 false (encI .u8) r.2.2.2.1, ls 5 false enc36 r.2.2.2.2.1], .bool r.2.2.2.2.2])) := by
  intro x r h
  unfold find at h
  intro W0
  refine PTo.of_body (fn := Tryd.f28) (code := cB Tryd.f28) Tryd.func28 rfl rfl ?_
  intro w0 S hS
  haveI := hS.noEx Tryd.prog
  refine H.seqP (by kernel_rfl) ?_
  refine H.regP (by kernel_rfl) ?_
  refine HO.goP 5 (by kernel_rfl) ?_
  refine HO.done (by kernel_rfl) ?_
  refine Kseq_norm ?_
  refine H.seqP (by kernel_rfl) ?_
  refine H.regP (by kernel_rfl) ?_
  refine HO.goP 3 (by kernel_rfl) ?_
  obtain ⟨y1, hy, h⟩ := bindS h
  refine HO.callFW hS (.int .i64 y1.1) 4 [] [(0, .cells [.int .u8 x.1, .int .u32 x.2.1, .bool x.2.2.1, ls 1 false (encI .u8) x.2.2.2.1, ls 5 false enc36 x.2.2.2.2.1] 36 5), (1, .cells [.int .u8 y1.2.1] 5 1), (2, .cells [.int .u32 y1.2.2] 33 1), (3, .cells [.int .u8 0, .int .u32 0, .bool false, .slice none 0 0, .slice none 0 0] 36 5)] [1, 2] [.list 5 false, .keep] (indexF_ok (x.2.2.2.2.1, x.2.2.2.2.2.1, x.2.2.2.2.2.2) y1 hy W0) (by kernel_rfl) (by kernel_rfl) ?_
  refine HO.goP 1 (by kernel_rfl) ?_
  refine HO.done (by kernel_rfl) ?_
  refine Kseq_norm ?_
  refine H.seqP (by kernel_rfl) ?_
  refine H.seqP (by kernel_rfl) ?_
  refine H.regP (by kernel_rfl) ?_
  refine HO.goP 2 (by kernel_rfl) ?_
  refine HO.done (by kernel_rfl) ?_
  refine Kseq_norm ?_
  refine H.condS (b := decide (y1.1 < 0)) (by kernel_rfl) (by kernel_rfl) (fun hb => ?_) (fun hb => ?_)
  · rw [if_pos (of_decide_eq_true hb)] at h
    refine H.seqP (by kernel_rfl) ?_
    refine H.regP (by kernel_rfl) ?_
    refine HO.goP 3 (by kernel_rfl) ?_
    refine HO.done (by kernel_rfl) ?_
    refine Kseq_norm ?_
    refine H.retP (by kernel_rfl) ?_
    refine Kseq_ret ?_
    obtain rfl := Option.some.inj h
    exact KEnd.retW (v := .tuple #[.agg #[.int .u8 0, .int .u32 0, .bool false, .slice none 0 0, .slice none 0 0], .bool false]) (.tuple [.agg [.keep, .keep, .keep, .list 1 false, .list 5 false], .keep]) (by kernel_rfl) (by kernel_rfl) (by kernel_rfl) (by kernel_rfl)
  · rw [if_neg (of_decide_eq_false hb)] at h
    refine H.skipP (by kernel_rfl) ?_
    refine Kseq_norm ?_
    refine H.seqP (by kernel_rfl) ?_
    refine H.regP (by kernel_rfl) ?_
    refine HO.goP 3 (by kernel_rfl) ?_
    obtain ⟨y2, hy, h⟩ := bindS h
    refine HO.idx (.agg #[.int .u8 y2.c0, .int .u32 y2.c1, .bool y2.c2, ls 1 false (encI .u8) y2.c3, ls 5 false enc36 y2.c4]) hy (enc36_eq y2) (by kernel_rfl) ?_
    refine HO.goP 3 (by kernel_rfl) ?_
    refine HO.done (by kernel_rfl) ?_
    refine Kseq_norm ?_
    refine H.retP (by kernel_rfl) ?_
    obtain rfl := Option.some.inj h
    exact KEnd.retW (v := .tuple #[.agg #[.int .u8 y2.c0, .int .u32 y2.c1, .bool y2.c2, ls 1 false (encI .u8) y2.c3, ls 5 false enc36 y2.c4], .bool true]) (.tuple [.agg [.keep, .keep, .keep, .list 1 false, .list 5 false], .keep]) (by kernel_rfl) (by kernel_rfl) (by kernel_rfl) (by kernel_rfl)
mutual
def measure_L2 (x : Int × (List S36) × Int × Int × Int) : Option (Bool × Int) :=
  if x.2.2.2.1 < x.2.2.1 then
    (at' x.2.1 x.2.2.2.1) >>= fun y1 =>
    (measure (y1.c0, y1.c1, y1.c2, y1.c3, y1.c4, (IntKind.i64.wrap (x.1 + 1)), x.2.2.2.2)) >>= fun y2 =>
    if (!y2.1) = true then
      some (false, y2.2)
    else
      measure_L2 (x.1, x.2.1, x.2.2.1, (IntKind.i64.wrap (x.2.2.2.1 + 1)), y2.2)
  else
    some (true, x.2.2.2.2)
partial_fixpoint
def measure (x : Int × Int × Bool × (List Int) × (List S36) × Int × Int) : Option (Bool × Int) :=
  if 16 < x.2.2.2.2.2.1 then
    measure_L1 (x.2.2.2.2.2.1, true, (IntKind.i64.wrap (x.2.2.2.2.2.2 + 1)), x.1, x.2.1, x.2.2.1, x.2.2.2.1, x.2.2.2.2.1)
  else
    measure_L1 (x.2.2.2.2.2.1, (decide (1024 < (IntKind.i64.wrap (x.2.2.2.2.2.2 + 1)))), (IntKind.i64.wrap (x.2.2.2.2.2.2 + 1)), x.1, x.2.1, x.2.2.1, x.2.2.2.1, x.2.2.2.2.1)
partial_fixpoint
def measure_L1 (x : Int × Bool × Int × Int × Int × Bool × (List Int) × (List S36)) : Option (Bool × Int) :=
  if x.2.1 = true then
    some (false, x.2.2.1)
  else
    measure_L2 (x.1, x.2.2.2.2.2.2.2, (x.2.2.2.2.2.2.2.length : Int), 0, x.2.2.1)
partial_fixpoint
end
theorem measure_L2_grp : (∀ (x : Int × (List S36) × Int × Int × Int) (r : Bool × Int), measure_L2 x = some r → ∀ (W0 w0 : World) (S : Own), Std W0 w0 S 1 → HL Tryd.prog w0 S 36 (cL (cL (cR (cL (cR (cR (cR (cB Tryd.f53)))))))) (mkS [(1, .int .i64 x.1), (2, .pointer (some ⟨0, 0, none⟩)), (23, ls 5 false enc36 x.2.1), (24, .int .i64 x.2.2.1), (25, .int .i64 x.2.2.2.1)] [(0, .cells [.int .i64 x.2.2.2.2] 3 1)] 1 []) (Kblock 0 (Kseq Tryd.prog w0 S 36 (cR (cR (cR (cR (cB Tryd.f53))))) (KEnd Tryd.prog Tryd.f53 (FEnd w0 S (.returned (.bool r.1)) (mkW 1 [] [(0, .cells [.int .i64 r.2] 3 1)])))))) ∧
  (∀ (x : Int × Int × Bool × (List Int) × (List S36) × Int × Int) (r : Bool × Int), measure x = some r → ∀ W0 : World, FTo Tryd.prog W0 53 #[.agg #[.int .u8 x.1, .int .u32 x.2.1, .bool x.2.2.1, ls 1 false (encI .u8) x.2.2.2.1, ls 5 false enc36 x.2.2.2.2.1], .int .i64 x.2.2.2.2.2.1, .pointer (some ⟨0, 0, none⟩)] (mkW 1 [] [(0, .cells [.int .i64 x.2.2.2.2.2.2] 3 1)]) (.returned (.bool r.1)) (mkW 1 [] [(0, .cells [.int .i64 r.2] 3 1)])) ∧
  (∀ (x : Int × Bool × Int × Int × Int × Bool × (List Int) × (List S36)) (r : Bool × Int), measure_L1 x = some r → ∀ (W0 w0 : World) (S : Own), Std W0 w0 S 1 → H Tryd.prog w0 S 36 (cR (cL (cR (cR (cB Tryd.f53))))) (mkS [(1, .int .i64 x.1), (2, .pointer (some ⟨0, 0, none⟩)), (3, .pointer (some ⟨1, 0, none⟩)), (21, .bool x.2.1)] [(0, .cells [.int .i64 x.2.2.1] 3 1), (1, .cells [.int .u8 x.2.2.2.1, .int .u32 x.2.2.2.2.1, .bool x.2.2.2.2.2.1, ls 1 false (encI .u8) x.2.2.2.2.2.2.1, ls 5 false enc36 x.2.2.2.2.2.2.2] 36 5)] 2 []) (Kseq Tryd.prog w0 S 36 (cR (cR (cR (cB Tryd.f53)))) (KEnd Tryd.prog Tryd.f53 (FEnd w0 S (.returned (.bool r.1)) (mkW 1 [] [(0, .cells [.int .i64 r.2] 3 1)]))))) := by
  refine measure_L2.mutual_partial_correctness (fun (x : Int × (List S36) × Int × Int × Int) (r : Bool × Int) => ∀ (W0 w0 : World) (S : Own), Std W0 w0 S 1 → HL Tryd.prog w0 S 36 (cL (cL (cR (cL (cR (cR (cR (cB Tryd.f53)))))))) (mkS [(1, .int .i64 x.1), (2, .pointer (some ⟨0, 0, none⟩)), (23, ls 5 false enc36 x.2.1), (24, .int .i64 x.2.2.1), (25, .int .i64 x.2.2.2.1)] [(0, .cells [.int .i64 x.2.2.2.2] 3 1)] 1 []) (Kblock 0 (Kseq Tryd.prog w0 S 36 (cR (cR (cR (cR (cB Tryd.f53))))) (KEnd Tryd.prog Tryd.f53 (FEnd w0 S (.returned (.bool r.1)) (mkW 1 [] [(0, .cells [.int .i64 r.2] 3 1)])))))) (fun (x : Int × Int × Bool × (List Int) × (List S36) × Int × Int) (r : Bool × Int) => ∀ W0 : World, FTo Tryd.prog W0 53 #[.agg #[.int .u8 x.1, .int .u32 x.2.1, .bool x.2.2.1, ls 1 false (encI .u8) x.2.2.2.1, ls 5 false enc36 x.2.2.2.2.1], .int .i64 x.2.2.2.2.2.1, .pointer (some ⟨0, 0, none⟩)] (mkW 1 [] [(0, .cells [.int .i64 x.2.2.2.2.2.2] 3 1)]) (.returned (.bool r.1)) (mkW 1 [] [(0, .cells [.int .i64 r.2] 3 1)])) (fun (x : Int × Bool × Int × Int × Int × Bool × (List Int) × (List S36)) (r : Bool × Int) => ∀ (W0 w0 : World) (S : Own), Std W0 w0 S 1 → H Tryd.prog w0 S 36 (cR (cL (cR (cR (cB Tryd.f53))))) (mkS [(1, .int .i64 x.1), (2, .pointer (some ⟨0, 0, none⟩)), (3, .pointer (some ⟨1, 0, none⟩)), (21, .bool x.2.1)] [(0, .cells [.int .i64 x.2.2.1] 3 1), (1, .cells [.int .u8 x.2.2.2.1, .int .u32 x.2.2.2.2.1, .bool x.2.2.2.2.2.1, ls 1 false (encI .u8) x.2.2.2.2.2.2.1, ls 5 false enc36 x.2.2.2.2.2.2.2] 36 5)] 2 []) (Kseq Tryd.prog w0 S 36 (cR (cR (cR (cB Tryd.f53)))) (KEnd Tryd.prog Tryd.f53 (FEnd w0 S (.returned (.bool r.1)) (mkW 1 [] [(0, .cells [.int .i64 r.2] 3 1)]))))) ?_ ?_ ?_
  · intro g_measure_L2 g_measure ih_measure_L2 ih_measure x r h
    intro W0 w0 S hS
    haveI := hS.noEx Tryd.prog
    refine HL.round ?_
    refine H.seqP (by kernel_rfl) ?_
    refine H.regP (by kernel_rfl) ?_
    refine HO.goP 1 (by kernel_rfl) ?_
    refine HO.done (by kernel_rfl) ?_
    refine Kseq_norm ?_
    refine H.seqP (by kernel_rfl) ?_
    refine H.condS (b := decide (x.2.2.2.1 < x.2.2.1)) (by kernel_rfl) (by kernel_rfl) (fun hb => ?_) (fun hb => ?_)
    · rw [if_pos (of_decide_eq_true hb)] at h
      refine H.skipP (by kernel_rfl) ?_
      refine Kseq_norm ?_
      refine H.seqP (by kernel_rfl) ?_
      refine H.blockI 1 (by kernel_rfl) ?_
      refine H.seqP (by kernel_rfl) ?_
      refine H.regP (by kernel_rfl) ?_
      obtain ⟨y1, hy, h⟩ := bindS h
      refine HO.idx (.agg #[.int .u8 y1.c0, .int .u32 y1.c1, .bool y1.c2, ls 1 false (encI .u8) y1.c3, ls 5 false enc36 y1.c4]) hy (enc36_eq y1) (by kernel_rfl) ?_
      refine HO.goP 3 (by kernel_rfl) ?_
      refine HO.done (by kernel_rfl) ?_
      refine Kseq_norm ?_
      refine H.seqP (by kernel_rfl) ?_
      refine H.regP (by kernel_rfl) ?_
      refine HO.goP 4 (by kernel_rfl) ?_
      obtain ⟨y2, hy, h⟩ := bindS h
      refine HO.callFW hS (.bool y2.1) 2 [] [(0, .cells [.int .i64 y2.2] 3 1), (1, .cells [.int .u8 y1.c0, .int .u32 y1.c1, .bool y1.c2, ls 1 false (encI .u8) y1.c3, ls 5 false enc36 y1.c4] 36 5)] [0] [.agg [.keep, .keep, .keep, .list 1 false, .list 5 false], .keep, .keep] (ih_measure (y1.c0, y1.c1, y1.c2, y1.c3, y1.c4, (IntKind.i64.wrap (x.1 + 1)), x.2.2.2.2) y2 hy W0) (by kernel_rfl) (by kernel_rfl) ?_
      refine HO.goP 1 (by kernel_rfl) ?_
      refine HO.done (by kernel_rfl) ?_
      refine Kseq_norm ?_
      refine H.condS (b := !y2.1) (by kernel_rfl) (by kernel_rfl) (fun hb => ?_) (fun hb => ?_)
      · rw [if_pos hb] at h
        refine H.seqP (by kernel_rfl) ?_
        refine H.regP (by kernel_rfl) ?_
        refine HO.goP 1 (by kernel_rfl) ?_
        refine HO.done (by kernel_rfl) ?_
        refine Kseq_norm ?_
        refine H.retP (by kernel_rfl) ?_
        refine Kblock_ret ?_
        refine Kseq_ret ?_
        refine Kloop_ret ?_
        refine Kblock_ret ?_
        refine Kseq_ret ?_
        obtain rfl := Option.some.inj h
        exact KEnd.of (v := .bool false) (by kernel_rfl) (by kernel_rfl) (FEnd.ren hS [0] _ _ (by kernel_rfl))
      · rw [if_neg (ne_true hb)] at h
        refine H.skipP (by kernel_rfl) ?_
        refine Kblock_norm ?_
        refine Kseq_norm ?_
        refine H.regP (by kernel_rfl) ?_
        refine HO.goP 2 (by kernel_rfl) ?_
        refine HO.done (by kernel_rfl) ?_
        refine Kloop_norm ?_
        exact HL.ren hS [0] _ _ _ (by kernel_rfl) (ih_measure_L2 (x.1, x.2.1, x.2.2.1, (IntKind.i64.wrap (x.2.2.2.1 + 1)), y2.2) r h W0 w0 S hS)
    · rw [if_neg (of_decide_eq_false hb)] at h
      refine H.exitI 0 (by kernel_rfl) ?_
      refine Kseq_exit ?_
      refine Kloop_exit ?_
      refine Kblock_hit ?_
      refine Kseq_norm ?_
      refine H.seqP (by kernel_rfl) ?_
      refine H.regP (by kernel_rfl) ?_
      refine HO.goP 1 (by kernel_rfl) ?_
      refine HO.done (by kernel_rfl) ?_
      refine Kseq_norm ?_
      refine H.retP (by kernel_rfl) ?_
      obtain rfl := Option.some.inj h
      exact KEnd.of (v := .bool true) (by kernel_rfl) (by kernel_rfl) (FEnd.ren hS [0] _ _ (by kernel_rfl))
  · intro g_measure_L1 ih_measure_L1 x r h
    intro W0
    refine FTo.of_body (fn := Tryd.f53) (code := cB Tryd.f53) Tryd.func53 rfl rfl ?_
    intro w0 S hS
    haveI := hS.noEx Tryd.prog
    refine H.seqP (by kernel_rfl) ?_
    refine H.regP (by kernel_rfl) ?_
    refine HO.goP 2 (by kernel_rfl) ?_
    refine HO.done (by kernel_rfl) ?_
    refine Kseq_norm ?_
    refine H.seqP (by kernel_rfl) ?_
    refine H.regP (by kernel_rfl) ?_
    refine HO.goP 6 (by kernel_rfl) ?_
    refine HO.done (by kernel_rfl) ?_
    refine Kseq_norm ?_
    refine H.seqP (by kernel_rfl) ?_
    refine H.seqP (by kernel_rfl) ?_
    refine H.regP (by kernel_rfl) ?_
    refine HO.goP 2 (by kernel_rfl) ?_
    refine HO.boolP (decide (16 < x.2.2.2.2.2.1)) (by kernel_rfl) (by kernel_rfl) (fun hb => ?_) (fun hb => ?_)
    · rw [if_pos (of_decide_eq_true hb)] at h
      refine HO.goP 5 (by kernel_rfl) ?_
      refine HO.done (by kernel_rfl) ?_
      refine Kseq_norm ?_
      exact H.ren hS [0, 1] _ _ _ (by kernel_rfl) (ih_measure_L1 (x.2.2.2.2.2.1, true, (IntKind.i64.wrap (x.2.2.2.2.2.2 + 1)), x.1, x.2.1, x.2.2.1, x.2.2.2.1, x.2.2.2.2.1) r h W0 w0 S hS)
    · rw [if_neg (of_decide_eq_false hb)] at h
      refine HO.goP 5 (by kernel_rfl) ?_
      refine HO.done (by kernel_rfl) ?_
      refine Kseq_norm ?_
      exact H.ren hS [0, 1] _ _ _ (by kernel_rfl) (ih_measure_L1 (x.2.2.2.2.2.1, (decide (1024 < (IntKind.i64.wrap (x.2.2.2.2.2.2 + 1)))), (IntKind.i64.wrap (x.2.2.2.2.2.2 + 1)), x.1, x.2.1, x.2.2.1, x.2.2.2.1, x.2.2.2.2.1) r h W0 w0 S hS)
  · intro g_measure_L2 ih_measure_L2 x r h
    intro W0 w0 S hS
    haveI := hS.noEx Tryd.prog
    refine H.condS (b := x.2.1) (by kernel_rfl) (by kernel_rfl) (fun hb => ?_) (fun hb => ?_)
    · rw [if_pos hb] at h
      refine H.seqP (by kernel_rfl) ?_
      refine H.regP (by kernel_rfl) ?_
      refine HO.goP 1 (by kernel_rfl) ?_
      refine HO.done (by kernel_rfl) ?_
      refine Kseq_norm ?_
      refine H.retP (by kernel_rfl) ?_
      refine Kseq_ret ?_
      obtain rfl := Option.some.inj h
      exact KEnd.of (v := .bool false) (by kernel_rfl) (by kernel_rfl) (FEnd.ren hS [0] _ _ (by kernel_rfl))
    · rw [if_neg (ne_true hb)] at h
      refine H.skipP (by kernel_rfl) ?_
      refine Kseq_norm ?_
      refine H.seqP (by kernel_rfl) ?_
      refine H.seqP (by kernel_rfl) ?_
      refine H.regP (by kernel_rfl) ?_
      refine HO.goP 2 (by kernel_rfl) ?_
      refine HO.len (by kernel_rfl) (by kernel_rfl) (ls_size enc36 x.2.2.2.2.2.2.2) ?_
      refine HO.goP 1 (by kernel_rfl) ?_
      refine HO.done (by kernel_rfl) ?_
      refine Kseq_norm ?_
      refine H.blockI 0 (by kernel_rfl) ?_
      refine H.loopP (by kernel_rfl) ?_
      exact HL.ren hS [0] _ _ _ (by kernel_rfl) (ih_measure_L2 (x.1, x.2.2.2.2.2.2.2, (x.2.2.2.2.2.2.2.length : Int), 0, x.2.2.1) r h W0 w0 S hS)
theorem measure_L2_ok : ∀ (x : Int × (List S36) × Int × Int × Int) (r : Bool × Int), measure_L2 x = some r → ∀ (W0 w0 : World) (S : Own), Std W0 w0 S 1 → HL Tryd.prog w0 S 36 (cL (cL (cR (cL (cR (cR (cR (cB Tryd.f53)))))))) (mkS [(1, .int .i64 x.1), (2, .pointer (some ⟨0, 0, none⟩)), (23, ls 5 false enc36 x.2.1), (24, .int .i64 x.2.2.1), (25, .int .i64 x.2.2.2.1)] [(0, .cells [.int .i64 x.2.2.2.2] 3 1)] 1 []) (Kblock 0 (Kseq Tryd.prog w0 S 36 (cR (cR (cR (cR (cB Tryd.f53))))) (KEnd Tryd.prog Tryd.f53 (FEnd w0 S (.returned (.bool r.1)) (mkW 1 [] [(0, .cells [.int .i64 r.2] 3 1)]))))) := measure_L2_grp.1
theorem measure_ok : ∀ (x : Int × Int × Bool × (List Int) × (List S36) × Int × Int) (r : Bool × Int), measure x = some r → ∀ W0 : World, FTo Tryd.prog W0 53 #[.agg #[.int .u8 x.1, .int .u32 x.2.1, .bool x.2.2.1, ls 1 false (encI .u8) x.2.2.2.1, ls 5 false enc36 x.2.2.2.2.1], .int .i64 x.2.2.2.2.2.1, .pointer (some ⟨0, 0, none⟩)] (mkW 1 [] [(0, .cells [.int .i64 x.2.2.2.2.2.2] 3 1)]) (.returned (.bool r.1)) (mkW 1 [] [(0, .cells [.int .i64 r.2] 3 1)]) := measure_L2_grp.2.1
theorem measure_L1_ok : ∀ (x : Int × Bool × Int × Int × Int × Bool × (List Int) × (List S36)) (r : Bool × Int), measure_L1 x = some r → ∀ (W0 w0 : World) (S : Own), Std W0 w0 S 1 → H Tryd.prog w0 S 36 (cR (cL (cR (cR (cB Tryd.f53))))) (mkS [(1, .int .i64 x.1), (2, .pointer (some ⟨0, 0, none⟩)), (3, .pointer (some ⟨1, 0, none⟩)), (21, .bool x.2.1)] [(0, .cells [.int .i64 x.2.2.1] 3 1), (1, .cells [.int .u8 x.2.2.2.1, .int .u32 x.2.2.2.2.1, .bool x.2.2.2.2.2.1, ls 1 false (encI .u8) x.2.2.2.2.2.2.1, ls 5 false enc36 x.2.2.2.2.2.2.2] 36 5)] 2 []) (Kseq Tryd.prog w0 S 36 (cR (cR (cR (cB Tryd.f53)))) (KEnd Tryd.prog Tryd.f53 (FEnd w0 S (.returned (.bool r.1)) (mkW 1 [] [(0, .cells [.int .i64 r.2] 3 1)])))) := measure_L2_grp.2.2
mutual
def indexF_1_L1 (x : (List S36) × Int × Int) : Option (Int) :=
  if x.2.2 < x.2.1 then
    (at' x.1 x.2.2) >>= fun y1 =>
    (plainF (y1.c0, y1.c1, y1.c2, y1.c3, y1.c4)) >>= fun y2 =>
    if y2 = true then
      some x.2.2
    else
      indexF_1_L1 (x.1, x.2.1, (IntKind.i64.wrap (x.2.2 + 1)))
  else
    some (-1)
partial_fixpoint
def plainF (x : Int × Int × Bool × (List Int) × (List S36)) : Option (Bool) :=
  (plain (x.1, x.2.1, x.2.2.1, x.2.2.2.1, x.2.2.2.2)) >>= fun y1 =>
  some (!y1)
partial_fixpoint
def plain (x : Int × Int × Bool × (List Int) × (List S36)) : Option (Bool) :=
  if 3 < x.1 then
    plain_L1 (true, x.1, x.2.1, x.2.2.1, x.2.2.2.1, x.2.2.2.2)
  else
    if 2097151 < x.2.1 then
      plain_L1 (true, x.1, x.2.1, x.2.2.1, x.2.2.2.1, x.2.2.2.2)
    else
      if x.1 = 0 then
        plain_L1 ((decide (x.2.1 = 0)), x.1, x.2.1, x.2.2.1, x.2.2.2.1, x.2.2.2.2)
      else
        plain_L1 (false, x.1, x.2.1, x.2.2.1, x.2.2.2.1, x.2.2.2.2)
partial_fixpoint
def plain_L1 (x : Bool × Int × Int × Bool × (List Int) × (List S36)) : Option (Bool) :=
  if x.1 = true then
    some false
  else
    if x.2.2.2.1 = true then
      if 0 < (x.2.2.2.2.1.length : Int) then
        plain_L2 (true, x.2.1, x.2.2.1, x.2.2.2.1, x.2.2.2.2.1, x.2.2.2.2.2)
      else
        if (!x.2.2.2.1) = true then
          plain_L2 ((decide (0 < (x.2.2.2.2.2.length : Int))), x.2.1, x.2.2.1, x.2.2.2.1, x.2.2.2.2.1, x.2.2.2.2.2)
        else
          plain_L2 (false, x.2.1, x.2.2.1, x.2.2.2.1, x.2.2.2.2.1, x.2.2.2.2.2)
    else
      if (!x.2.2.2.1) = true then
        plain_L2 ((decide (0 < (x.2.2.2.2.2.length : Int))), x.2.1, x.2.2.1, x.2.2.2.1, x.2.2.2.2.1, x.2.2.2.2.2)
      else
        plain_L2 (false, x.2.1, x.2.2.1, x.2.2.2.1, x.2.2.2.2.1, x.2.2.2.2.2)
partial_fixpoint
def plain_L2 (x : Bool × Int × Int × Bool × (List Int) × (List S36)) : Option (Bool) :=
  if x.1 = true then
    some false
  else
    (containsF x.2.2.2.2.2) >>= fun y1 =>
    some (!y1)
partial_fixpoint
def containsF (x : (List S36)) : Option (Bool) :=
  (indexF_1 x) >>= fun y1 =>
  some (decide (0 ≤ y1))
partial_fixpoint
def indexF_1 (x : (List S36)) : Option (Int) :=
  indexF_1_L1 (x, (x.length : Int), 0)
partial_fixpoint
end
theorem indexF_1_L1_grp : (∀ (x : (List S36) × Int × Int) (r : Int), indexF_1_L1 x = some r → ∀ (W0 w0 : World) (S : Own), Std W0 w0 S 0 → HL Tryd.prog w0 S 19 (cL (cL (cR (cL (cR (cB Tryd.f61)))))) (mkS [(0, ls 5 false enc36 x.1), (1, .func (.func 78) #[] #[]), (7, .int .i64 x.2.1), (8, .int .i64 x.2.2)] [] 0 []) (Kblock 0 (Kseq Tryd.prog w0 S 19 (cR (cR (cB Tryd.f61))) (KEnd Tryd.prog Tryd.f61 (PEnd w0 S (.returned (.int .i64 r))))))) ∧
  (∀ (x : Int × Int × Bool × (List Int) × (List S36)) (r : Bool), plainF x = some r → ∀ W0 : World, PTo Tryd.prog W0 78 #[.agg #[.int .u8 x.1, .int .u32 x.2.1, .bool x.2.2.1, ls 1 false (encI .u8) x.2.2.2.1, ls 5 false enc36 x.2.2.2.2]] (.returned (.bool r))) ∧
  (∀ (x : Int × Int × Bool × (List Int) × (List S36)) (r : Bool), plain x = some r → ∀ W0 : World, PTo Tryd.prog W0 54 #[.agg #[.int .u8 x.1, .int .u32 x.2.1, .bool x.2.2.1, ls 1 false (encI .u8) x.2.2.2.1, ls 5 false enc36 x.2.2.2.2]] (.returned (.bool r))) ∧
  (∀ (x : Bool × Int × Int × Bool × (List Int) × (List S36)) (r : Bool), plain_L1 x = some r → ∀ (W0 w0 : World) (S : Own), Std W0 w0 S 0 → H Tryd.prog w0 S 44 (cR (cL (cR (cB Tryd.f54)))) (mkS [(1, .pointer (some ⟨0, 0, none⟩)), (20, .bool x.1)] [(0, .cells [.int .u8 x.2.1, .int .u32 x.2.2.1, .bool x.2.2.2.1, ls 1 false (encI .u8) x.2.2.2.2.1, ls 5 false enc36 x.2.2.2.2.2] 36 5)] 1 []) (Kseq Tryd.prog w0 S 44 (cR (cR (cB Tryd.f54))) (KEnd Tryd.prog Tryd.f54 (PEnd w0 S (.returned (.bool r)))))) ∧
  (∀ (x : Bool × Int × Int × Bool × (List Int) × (List S36)) (r : Bool), plain_L2 x = some r → ∀ (W0 w0 : World) (S : Own), Std W0 w0 S 0 → H Tryd.prog w0 S 44 (cR (cL (cR (cR (cB Tryd.f54))))) (mkS [(1, .pointer (some ⟨0, 0, none⟩)), (39, .bool x.1)] [(0, .cells [.int .u8 x.2.1, .int .u32 x.2.2.1, .bool x.2.2.2.1, ls 1 false (encI .u8) x.2.2.2.2.1, ls 5 false enc36 x.2.2.2.2.2] 36 5)] 1 []) (Kseq Tryd.prog w0 S 44 (cR (cR (cR (cB Tryd.f54)))) (KEnd Tryd.prog Tryd.f54 (PEnd w0 S (.returned (.bool r)))))) ∧
  (∀ (x : (List S36)) (r : Bool), containsF x = some r → ∀ W0 : World, PTo Tryd.prog W0 77 #[ls 5 false enc36 x, .func (.func 78) #[] #[]] (.returned (.bool r))) ∧
  (∀ (x : (List S36)) (r : Int), indexF_1 x = some r → ∀ W0 : World, PTo Tryd.prog W0 61 #[ls 5 false enc36 x, .func (.func 78) #[] #[]] (.returned (.int .i64 r))) := by
  refine indexF_1_L1.mutual_partial_correctness (fun (x : (List S36) × Int × Int) (r : Int) => ∀ (W0 w0 : World) (S : Own), Std W0 w0 S 0 → HL Tryd.prog w0 S 19 (cL (cL (cR (cL (cR (cB Tryd.f61)))))) (mkS [(0, ls 5 false enc36 x.1), (1, .func (.func 78) #[] #[]), (7, .int .i64 x.2.1), (8, .int .i64 x.2.2)] [] 0 []) (Kblock 0 (Kseq Tryd.prog w0 S 19 (cR (cR (cB Tryd.f61))) (KEnd Tryd.prog Tryd.f61 (PEnd w0 S (.returned (.int .i64 r))))))) (fun (x : Int × Int × Bool × (List Int) × (List S36)) (r : Bool) => ∀ W0 : World, PTo Tryd.prog W0 78 #[.agg #[.int .u8 x.1, .int .u32 x.2.1, .bool x.2.2.1, ls 1 false (encI .u8) x.2.2.2.1, ls 5 false enc36 x.2.2.2.2]] (.returned (.bool r))) (fun (x : Int × Int × Bool × (List Int) × (List S36)) (r : Bool) => ∀ W0 : World, PTo Tryd.prog W0 54 #[.agg #[.int .u8 x.1, .int .u32 x.2.1, .bool x.2.2.1, ls 1 false (encI .u8) x.2.2.2.1, ls 5 false enc36 x.2.2.2.2]] (.returned (.bool r))) (fun (x : Bool × Int × Int × Bool × (List Int) × (List S36)) (r : Bool) => ∀ (W0 w0 : World) (S : Own), Std W0 w0 S 0 → H Tryd.prog w0 S 44 (cR (cL (cR (cB Tryd.f54)))) (mkS [(1, .pointer (some ⟨0, 0, none⟩)), (20, .bool x.1)] [(0, .cells [.int .u8 x.2.1, .int .u32 x.2.2.1, .bool x.2.2.2.1, ls 1 false (encI .u8) x.2.2.2.2.1, ls 5 false enc36 x.2.2.2.2.2] 36 5)] 1 []) (Kseq Tryd.prog w0 S 44 (cR (cR (cB Tryd.f54))) (KEnd Tryd.prog Tryd.f54 (PEnd w0 S (.returned (.bool r)))))) (fun (x : Bool × Int × Int × Bool × (List Int) × (List S36)) (r : Bool) => ∀ (W0 w0 : World) (S : Own), Std W0 w0 S 0 → H Tryd.prog w0 S 44 (cR (cL (cR (cR (cB Tryd.f54))))) (mkS [(1, .pointer (some ⟨0, 0, none⟩)), (39, .bool x.1)] [(0, .cells [.int .u8 x.2.1, .int .u32 x.2.2.1, .bool x.2.2.2.1, ls 1 false (encI .u8) x.2.2.2.2.1, ls 5 false enc36 x.2.2.2.2.2] 36 5)] 1 []) (Kseq Tryd.prog w0 S 44 (cR (cR (cR (cB Tryd.f54)))) (KEnd Tryd.prog Tryd.f54 (PEnd w0 S (.returned (.bool r)))))) (fun (x : (List S36)) (r : Bool) => ∀ W0 : World, PTo Tryd.prog W0 77 #[ls 5 false enc36 x, .func (.func 78) #[] #[]] (.returned (.bool r))) (fun (x : (List S36)) (r : Int) => ∀ W0 : World, PTo Tryd.prog W0 61 #[ls 5 false enc36 x, .func (.func 78) #[] #[]] (.returned (.int .i64 r))) ?_ ?_ ?_ ?_ ?_ ?_ ?_
  · intro g_indexF_1_L1 g_plainF ih_indexF_1_L1 ih_plainF x r h
    intro W0 w0 S hS
    haveI := hS.noEx Tryd.prog
    refine HL.round ?_
    refine H.seqP (by kernel_rfl) ?_
    refine H.regP (by kernel_rfl) ?_
    refine HO.goP 1 (by kernel_rfl) ?_
    refine HO.done (by kernel_rfl) ?_
    refine Kseq_norm ?_
    refine H.seqP (by kernel_rfl) ?_
    refine H.condS (b := decide (x.2.2 < x.2.1)) (by kernel_rfl) (by kernel_rfl) (fun hb => ?_) (fun hb => ?_)
    · rw [if_pos (of_decide_eq_true hb)] at h
      refine H.skipP (by kernel_rfl) ?_
      refine Kseq_norm ?_
      refine H.seqP (by kernel_rfl) ?_
      refine H.blockI 1 (by kernel_rfl) ?_
      refine H.seqP (by kernel_rfl) ?_
      refine H.regP (by kernel_rfl) ?_
      refine HO.goP 2 (by kernel_rfl) ?_
      refine HO.done (by kernel_rfl) ?_
      refine Kseq_norm ?_
      refine H.seqP (by kernel_rfl) ?_
      refine H.regP (by kernel_rfl) ?_
      refine HO.goP 3 (by kernel_rfl) ?_
      obtain ⟨y1, hy, h⟩ := bindS h
      refine HO.idx (.agg #[.int .u8 y1.c0, .int .u32 y1.c1, .bool y1.c2, ls 1 false (encI .u8) y1.c3, ls 5 false enc36 y1.c4]) hy (enc36_eq y1) (by kernel_rfl) ?_
      refine HO.goP 1 (by kernel_rfl) ?_
      obtain ⟨y2, hy, h⟩ := bindS h
      refine HO.callW hS [.agg [.keep, .keep, .keep, .list 1 false, .list 5 false]] (ih_plainF (y1.c0, y1.c1, y1.c2, y1.c3, y1.c4) y2 hy W0) (by kernel_rfl) (by kernel_rfl) ?_
      refine HO.done (by kernel_rfl) ?_
      refine Kseq_norm ?_
      refine H.condS (b := y2) (by kernel_rfl) (by kernel_rfl) (fun hb => ?_) (fun hb => ?_)
      · rw [if_pos hb] at h
        refine H.seqP (by kernel_rfl) ?_
        refine H.regP (by kernel_rfl) ?_
        refine HO.goP 2 (by kernel_rfl) ?_
        refine HO.done (by kernel_rfl) ?_
        refine Kseq_norm ?_
        refine H.retP (by kernel_rfl) ?_
        refine Kblock_ret ?_
        refine Kseq_ret ?_
        refine Kloop_ret ?_
        refine Kblock_ret ?_
        refine Kseq_ret ?_
        obtain rfl := Option.some.inj h
        exact KEnd.ret (by kernel_rfl) (by kernel_rfl) (by kernel_rfl)
      · rw [if_neg (ne_true hb)] at h
        refine H.skipP (by kernel_rfl) ?_
        refine Kblock_norm ?_
        refine Kseq_norm ?_
        refine H.regP (by kernel_rfl) ?_
        refine HO.goP 2 (by kernel_rfl) ?_
        refine HO.done (by kernel_rfl) ?_
        refine Kloop_norm ?_
        exact HL.ren hS [] _ _ _ (by kernel_rfl) (ih_indexF_1_L1 (x.1, x.2.1, (IntKind.i64.wrap (x.2.2 + 1))) r h W0 w0 S hS)
    · rw [if_neg (of_decide_eq_false hb)] at h
      refine H.exitI 0 (by kernel_rfl) ?_
      refine Kseq_exit ?_
      refine Kloop_exit ?_
      refine Kblock_hit ?_
      refine Kseq_norm ?_
      refine H.seqP (by kernel_rfl) ?_
      refine H.regP (by kernel_rfl) ?_
      refine HO.goP 1 (by kernel_rfl) ?_
      refine HO.done (by kernel_rfl) ?_
      refine Kseq_norm ?_
      refine H.retP (by kernel_rfl) ?_
      obtain rfl := Option.some.inj h
      exact KEnd.ret (by kernel_rfl) (by kernel_rfl) (by kernel_rfl)
  · intro g_plain ih_plain x r h
    intro W0
    refine PTo.of_body (fn := Tryd.f78) (code := cB Tryd.f78) Tryd.func78 rfl rfl ?_
    intro w0 S hS
    haveI := hS.noEx Tryd.prog
    refine H.seqP (by kernel_rfl) ?_
    refine H.regP (by kernel_rfl) ?_
    refine HO.goP 2 (by kernel_rfl) ?_
    refine HO.done (by kernel_rfl) ?_
    refine Kseq_norm ?_
    refine H.seqP (by kernel_rfl) ?_
    refine H.regP (by kernel_rfl) ?_
    refine HO.goP 1 (by kernel_rfl) ?_
    obtain ⟨y1, hy, h⟩ := bindS h
    refine HO.callW hS [.agg [.keep, .keep, .keep, .list 1 false, .list 5 false]] (ih_plain (x.1, x.2.1, x.2.2.1, x.2.2.2.1, x.2.2.2.2) y1 hy W0) (by kernel_rfl) (by kernel_rfl) ?_
    refine HO.goP 2 (by kernel_rfl) ?_
    refine HO.done (by kernel_rfl) ?_
    refine Kseq_norm ?_
    refine H.retP (by kernel_rfl) ?_
    obtain rfl := Option.some.inj h
    exact KEnd.ret (by kernel_rfl) (by kernel_rfl) (by kernel_rfl)
  · intro g_plain_L1 ih_plain_L1 x r h
    intro W0
    refine PTo.of_body (fn := Tryd.f54) (code := cB Tryd.f54) Tryd.func54 rfl rfl ?_
    intro w0 S hS
    haveI := hS.noEx Tryd.prog
    refine H.seqP (by kernel_rfl) ?_
    refine H.regP (by kernel_rfl) ?_
    refine HO.goP 2 (by kernel_rfl) ?_
    refine HO.done (by kernel_rfl) ?_
    refine Kseq_norm ?_
    refine H.seqP (by kernel_rfl) ?_
    refine H.seqP (by kernel_rfl) ?_
    refine H.regP (by kernel_rfl) ?_
    refine HO.goP 3 (by kernel_rfl) ?_
    refine HO.boolP (decide (3 < x.1)) (by kernel_rfl) (by kernel_rfl) (fun hb => ?_) (fun hb => ?_)
    · rw [if_pos (of_decide_eq_true hb)] at h
      refine HO.goP 14 (by kernel_rfl) ?_
      refine HO.done (by kernel_rfl) ?_
      refine Kseq_norm ?_
      exact H.ren hS [0] _ _ _ (by kernel_rfl) (ih_plain_L1 (true, x.1, x.2.1, x.2.2.1, x.2.2.2.1, x.2.2.2.2) r h W0 w0 S hS)
    · rw [if_neg (of_decide_eq_false hb)] at h
      refine HO.goP 4 (by kernel_rfl) ?_
      refine HO.boolP (decide (2097151 < x.2.1)) (by kernel_rfl) (by kernel_rfl) (fun hb => ?_) (fun hb => ?_)
      · rw [if_pos (of_decide_eq_true hb)] at h
        refine HO.goP 9 (by kernel_rfl) ?_
        refine HO.done (by kernel_rfl) ?_
        refine Kseq_norm ?_
        exact H.ren hS [0] _ _ _ (by kernel_rfl) (ih_plain_L1 (true, x.1, x.2.1, x.2.2.1, x.2.2.2.1, x.2.2.2.2) r h W0 w0 S hS)
      · rw [if_neg (of_decide_eq_false hb)] at h
        refine HO.goP 3 (by kernel_rfl) ?_
        refine HO.boolP (decide (x.1 = 0)) (by kernel_rfl) (by kernel_rfl) (fun hb => ?_) (fun hb => ?_)
        · rw [if_pos (of_decide_eq_true hb)] at h
          refine HO.goP 5 (by kernel_rfl) ?_
          refine HO.done (by kernel_rfl) ?_
          refine Kseq_norm ?_
          exact H.ren hS [0] _ _ _ (by kernel_rfl) (ih_plain_L1 ((decide (x.2.1 = 0)), x.1, x.2.1, x.2.2.1, x.2.2.2.1, x.2.2.2.2) r h W0 w0 S hS)
        · rw [if_neg (of_decide_eq_false hb)] at h
          refine HO.goP 5 (by kernel_rfl) ?_
          refine HO.done (by kernel_rfl) ?_
          refine Kseq_norm ?_
          exact H.ren hS [0] _ _ _ (by kernel_rfl) (ih_plain_L1 (false, x.1, x.2.1, x.2.2.1, x.2.2.2.1, x.2.2.2.2) r h W0 w0 S hS)
  · intro g_plain_L2 ih_plain_L2 x r h
    intro W0 w0 S hS
    haveI := hS.noEx Tryd.prog
    refine H.condS (b := x.1) (by kernel_rfl) (by kernel_rfl) (fun hb => ?_) (fun hb => ?_)
    · rw [if_pos hb] at h
      refine H.seqP (by kernel_rfl) ?_
      refine H.regP (by kernel_rfl) ?_
      refine HO.goP 1 (by kernel_rfl) ?_
      refine HO.done (by kernel_rfl) ?_
      refine Kseq_norm ?_
      refine H.retP (by kernel_rfl) ?_
      refine Kseq_ret ?_
      obtain rfl := Option.some.inj h
      exact KEnd.ret (by kernel_rfl) (by kernel_rfl) (by kernel_rfl)
    · rw [if_neg (ne_true hb)] at h
      refine H.skipP (by kernel_rfl) ?_
      refine Kseq_norm ?_
      refine H.seqP (by kernel_rfl) ?_
      refine H.seqP (by kernel_rfl) ?_
      refine H.regP (by kernel_rfl) ?_
      refine HO.goP 2 (by kernel_rfl) ?_
      refine HO.boolP x.2.2.2.1 (by kernel_rfl) (by kernel_rfl) (fun hb => ?_) (fun hb => ?_)
      · rw [if_pos hb] at h
        refine HO.goP 2 (by kernel_rfl) ?_
        refine HO.len (by kernel_rfl) (by kernel_rfl) (ls_size (encI .u8) x.2.2.2.2.1) ?_
        refine HO.goP 2 (by kernel_rfl) ?_
        refine HO.boolP (decide (0 < (x.2.2.2.2.1.length : Int))) (by kernel_rfl) (by kernel_rfl) (fun hb => ?_) (fun hb => ?_)
        · rw [if_pos (of_decide_eq_true hb)] at h
          refine HO.goP 10 (by kernel_rfl) ?_
          refine HO.done (by kernel_rfl) ?_
          refine Kseq_norm ?_
          exact H.ren hS [0] _ _ _ (by kernel_rfl) (ih_plain_L2 (true, x.2.1, x.2.2.1, x.2.2.2.1, x.2.2.2.2.1, x.2.2.2.2.2) r h W0 w0 S hS)
        · rw [if_neg (of_decide_eq_false hb)] at h
          refine HO.goP 3 (by kernel_rfl) ?_
          refine HO.boolP (!x.2.2.2.1) (by kernel_rfl) (by kernel_rfl) (fun hb => ?_) (fun hb => ?_)
          · rw [if_pos hb] at h
            refine HO.goP 2 (by kernel_rfl) ?_
            refine HO.len (by kernel_rfl) (by kernel_rfl) (ls_size enc36 x.2.2.2.2.2) ?_
            refine HO.goP 3 (by kernel_rfl) ?_
            refine HO.done (by kernel_rfl) ?_
            refine Kseq_norm ?_
            exact H.ren hS [0] _ _ _ (by kernel_rfl) (ih_plain_L2 ((decide (0 < (x.2.2.2.2.2.length : Int))), x.2.1, x.2.2.1, x.2.2.2.1, x.2.2.2.2.1, x.2.2.2.2.2) r h W0 w0 S hS)
          · rw [if_neg (ne_true hb)] at h
            refine HO.goP 6 (by kernel_rfl) ?_
            refine HO.done (by kernel_rfl) ?_
            refine Kseq_norm ?_
            exact H.ren hS [0] _ _ _ (by kernel_rfl) (ih_plain_L2 (false, x.2.1, x.2.2.1, x.2.2.2.1, x.2.2.2.2.1, x.2.2.2.2.2) r h W0 w0 S hS)
      · rw [if_neg (ne_true hb)] at h
        refine HO.goP 9 (by kernel_rfl) ?_
        refine HO.boolP (!x.2.2.2.1) (by kernel_rfl) (by kernel_rfl) (fun hb => ?_) (fun hb => ?_)
        · rw [if_pos hb] at h
          refine HO.goP 2 (by kernel_rfl) ?_
          refine HO.len (by kernel_rfl) (by kernel_rfl) (ls_size enc36 x.2.2.2.2.2) ?_
          refine HO.goP 3 (by kernel_rfl) ?_
          refine HO.done (by kernel_rfl) ?_
          refine Kseq_norm ?_
          exact H.ren hS [0] _ _ _ (by kernel_rfl) (ih_plain_L2 ((decide (0 < (x.2.2.2.2.2.length : Int))), x.2.1, x.2.2.1, x.2.2.2.1, x.2.2.2.2.1, x.2.2.2.2.2) r h W0 w0 S hS)
        · rw [if_neg (ne_true hb)] at h
          refine HO.goP 6 (by kernel_rfl) ?_
          refine HO.done (by kernel_rfl) ?_
          refine Kseq_norm ?_
          exact H.ren hS [0] _ _ _ (by kernel_rfl) (ih_plain_L2 (false, x.2.1, x.2.2.1, x.2.2.2.1, x.2.2.2.2.1, x.2.2.2.2.2) r h W0 w0 S hS)
  · intro g_containsF ih_containsF x r h
    intro W0 w0 S hS
    haveI := hS.noEx Tryd.prog
    refine H.condS (b := x.1) (by kernel_rfl) (by kernel_rfl) (fun hb => ?_) (fun hb => ?_)
    · rw [if_pos hb] at h
      refine H.seqP (by kernel_rfl) ?_
      refine H.regP (by kernel_rfl) ?_
      refine HO.goP 1 (by kernel_rfl) ?_
      refine HO.done (by kernel_rfl) ?_
      refine Kseq_norm ?_
      refine H.retP (by kernel_rfl) ?_
      refine Kseq_ret ?_
      obtain rfl := Option.some.inj h
      exact KEnd.ret (by kernel_rfl) (by kernel_rfl) (by kernel_rfl)
    · rw [if_neg (ne_true hb)] at h
      refine H.skipP (by kernel_rfl) ?_
      refine Kseq_norm ?_
      refine H.seqP (by kernel_rfl) ?_
      refine H.regP (by kernel_rfl) ?_
      refine HO.goP 2 (by kernel_rfl) ?_
      obtain ⟨y1, hy, h⟩ := bindS h
      refine HO.callW hS [.list 5 false, .keep] (ih_containsF x.2.2.2.2.2 y1 hy W0) (by kernel_rfl) (by kernel_rfl) ?_
      refine HO.goP 2 (by kernel_rfl) ?_
      refine HO.done (by kernel_rfl) ?_
      refine Kseq_norm ?_
      refine H.retP (by kernel_rfl) ?_
      obtain rfl := Option.some.inj h
      exact KEnd.ret (by kernel_rfl) (by kernel_rfl) (by kernel_rfl)
  · intro g_indexF_1 ih_indexF_1 x r h
    intro W0
    refine PTo.of_body (fn := Tryd.f77) (code := cB Tryd.f77) Tryd.func77 rfl rfl ?_
    intro w0 S hS
    haveI := hS.noEx Tryd.prog
    refine H.seqP (by kernel_rfl) ?_
    refine H.regP (by kernel_rfl) ?_
    refine HO.goP 1 (by kernel_rfl) ?_
    refine HO.done (by kernel_rfl) ?_
    refine Kseq_norm ?_
    refine H.seqP (by kernel_rfl) ?_
    refine H.regP (by kernel_rfl) ?_
    refine HO.goP 2 (by kernel_rfl) ?_
    obtain ⟨y1, hy, h⟩ := bindS h
    refine HO.callW hS [.list 5 false, .keep] (ih_indexF_1 x y1 hy W0) (by kernel_rfl) (by kernel_rfl) ?_
    refine HO.goP 2 (by kernel_rfl) ?_
    refine HO.done (by kernel_rfl) ?_
    refine Kseq_norm ?_
    refine H.retP (by kernel_rfl) ?_
    obtain rfl := Option.some.inj h
    exact KEnd.ret (by kernel_rfl) (by kernel_rfl) (by kernel_rfl)
  · intro g_indexF_1_L1 ih_indexF_1_L1 x r h
    intro W0
    refine PTo.of_body (fn := Tryd.f61) (code := cB Tryd.f61) Tryd.func61 rfl rfl ?_
    intro w0 S hS
    haveI := hS.noEx Tryd.prog
    refine H.seqP (by kernel_rfl) ?_
    refine H.regP (by kernel_rfl) ?_
    refine HO.goP 1 (by kernel_rfl) ?_
    refine HO.done (by kernel_rfl) ?_
    refine Kseq_norm ?_
    refine H.seqP (by kernel_rfl) ?_
    refine H.seqP (by kernel_rfl) ?_
    refine H.regP (by kernel_rfl) ?_
    refine HO.goP 1 (by kernel_rfl) ?_
    refine HO.len (by kernel_rfl) (by kernel_rfl) (ls_size enc36 x) ?_
    refine HO.goP 1 (by kernel_rfl) ?_
    refine HO.done (by kernel_rfl) ?_
    refine Kseq_norm ?_
    refine H.blockI 0 (by kernel_rfl) ?_
    refine H.loopP (by kernel_rfl) ?_
    exact HL.ren hS [] _ _ _ (by kernel_rfl) (ih_indexF_1_L1 (x, (x.length : Int), 0) r h W0 w0 S hS)
theorem indexF_1_L1_ok : ∀ (x : (List S36) × Int × Int) (r : Int), indexF_1_L1 x = some r → ∀ (W0 w0 : World) (S : Own), Std W0 w0 S 0 → HL Tryd.prog w0 S 19 (cL (cL (cR (cL (cR (cB Tryd.f61)))))) (mkS [(0, ls 5 false enc36 x.1), (1, .func (.func 78) #[] #[]), (7, .int .i64 x.2.1), (8, .int .i64 x.2.2)] [] 0 []) (Kblock 0 (Kseq Tryd.prog w0 S 19 (cR (cR (cB Tryd.f61))) (KEnd Tryd.prog Tryd.f61 (PEnd w0 S (.returned (.int .i64 r)))))) := indexF_1_L1_grp.1
theorem plainF_ok : ∀ (x : Int × Int × Bool × (List Int) × (List S36)) (r : Bool), plainF x = some r → ∀ W0 : World, PTo Tryd.prog W0 78 #[.agg #[.int .u8 x.1, .int .u32 x.2.1, .bool x.2.2.1, ls 1 false (encI .u8) x.2.2.2.1, ls 5 false enc36 x.2.2.2.2]] (.returned (.bool r)) := indexF_1_L1_grp.2.1
theorem plain_ok : ∀ (x : Int × Int × Bool × (List Int) × (List S36)) (r : Bool), plain x = some r → ∀ W0 : World, PTo Tryd.prog W0 54 #[.agg #[.int .u8 x.1, .int .u32 x.2.1, .bool x.2.2.1, ls 1 false (encI .u8) x.2.2.2.1, ls 5 false enc36 x.2.2.2.2]] (.returned (.bool r)) := indexF_1_L1_grp.2.2.1
theorem plain_L1_ok : ∀ (x : Bool × Int × Int × Bool × (List Int) × (List S36)) (r : Bool), plain_L1 x = some r → ∀ (W0 w0 : World) (S : Own), Std W0 w0 S 0 → H Tryd.prog w0 S 44 (cR (cL (cR (cB Tryd.f54)))) (mkS [(1, .pointer (some ⟨0, 0, none⟩)), (20, .bool x.1)] [(0, .cells [.int .u8 x.2.1, .int .u32 x.2.2.1, .bool x.2.2.2.1, ls 1 false (encI .u8) x.2.2.2.2.1, ls 5 false enc36 x.2.2.2.2.2] 36 5)] 1 []) (Kseq Tryd.prog w0 S 44 (cR (cR (cB Tryd.f54))) (KEnd Tryd.prog Tryd.f54 (PEnd w0 S (.returned (.bool r))))) := indexF_1_L1_grp.2.2.2.1
theorem plain_L2_ok : ∀ (x : Bool × Int × Int × Bool × (List Int) × (List S36)) (r : Bool), plain_L2 x = some r → ∀ (W0 w0 : World) (S : Own), Std W0 w0 S 0 → H Tryd.prog w0 S 44 (cR (cL (cR (cR (cB Tryd.f54))))) (mkS [(1, .pointer (some ⟨0, 0, none⟩)), (39, .bool x.1)] [(0, .cells [.int .u8 x.2.1, .int .u32 x.2.2.1, .bool x.2.2.2.1, ls 1 false (encI .u8) x.2.2.2.2.1, ls 5 false enc36 x.2.2.2.2.2] 36 5)] 1 []) (Kseq Tryd.prog w0 S 44 (cR (cR (cR (cB Tryd.f54)))) (KEnd Tryd.prog Tryd.f54 (PEnd w0 S (.returned (.bool r))))) := indexF_1_L1_grp.2.2.2.2.1
theorem containsF_ok : ∀ (x : (List S36)) (r : Bool), containsF x = some r → ∀ W0 : World, PTo Tryd.prog W0 77 #[ls 5 false enc36 x, .func (.func 78) #[] #[]] (.returned (.bool r)) := indexF_1_L1_grp.2.2.2.2.2.1
theorem indexF_1_ok : ∀ (x : (List S36)) (r : Int), indexF_1 x = some r → ∀ W0 : World, PTo Tryd.prog W0 61 #[ls 5 false enc36 x, .func (.func 78) #[] #[]] (.returned (.int .i64 r)) := indexF_1_L1_grp.2.2.2.2.2.2
def check (x : Int × Int × Bool × (List Int) × (List S36)) : Option (Int) :=
  (measure (x.1, x.2.1, x.2.2.1, x.2.2.2.1, x.2.2.2.2, 1, 0)) >>= fun y1 =>
  if (!y1.1) = true then
    some 3
  else
    (plain (x.1, x.2.1, x.2.2.1, x.2.2.2.1, x.2.2.2.2)) >>= fun y2 =>
    if (!y2) = true then
      some 1
    else
      some 0
theorem check_ok : ∀ (x : Int × Int × Bool × (List Int) × (List S36)) (r : Int), check x = some r → ∀ W0 : World, PTo Tryd.prog W0 21 #[.agg #[.int .u8 x.1, .int .u32 x.2.1, .bool x.2.2.1, ls 1 false (encI .u8) x.2.2.2.1, ls 5 false enc36 x.2.2.2.2]] (.returned (.int .i64 r)) := by
  intro x r h
  unfold check at h
  intro W0
  refine PTo.of_body (fn := Tryd.f21) (code := cB Tryd.f21) Tryd.func21 rfl rfl ?_
  intro w0 S hS
  haveI := hS.noEx Tryd.prog
  refine H.seqP (by kernel_rfl) ?_
  refine H.regP (by kernel_rfl) ?_
  refine HO.goP 2 (by kernel_rfl) ?_
  refine HO.done (by kernel_rfl) ?_
  refine Kseq_norm ?_
  refine H.seqP (by kernel_rfl) ?_
  refine H.regP (by kernel_rfl) ?_
  refine HO.goP 2 (by kernel_rfl) ?_
  refine HO.done (by kernel_rfl) ?_
  refine Kseq_norm ?_
  refine H.seqP (by kernel_rfl) ?_
  refine H.blockI 0 (by kernel_rfl) ?_
  refine H.seqP (by kernel_rfl) ?_
  refine H.regP (by kernel_rfl) ?_
  refine HO.goP 1 (by kernel_rfl) ?_
  obtain ⟨y1, hy, h⟩ := bindS h
  refine HO.callFW hS (.bool y1.1) 2 [] [(0, .cells [.int .u8 x.1, .int .u32 x.2.1, .bool x.2.2.1, ls 1 false (encI .u8) x.2.2.2.1, ls 5 false enc36 x.2.2.2.2] 36 5), (1, .cells [.int .i64 y1.2] 3 1)] [1] [.agg [.keep, .keep, .keep, .list 1 false, .list 5 false], .keep, .keep] (measure_ok (x.1, x.2.1, x.2.2.1, x.2.2.2.1, x.2.2.2.2, 1, 0) y1 hy W0) (by kernel_rfl) (by kernel_rfl) ?_
  refine HO.goP 2 (by kernel_rfl) ?_
  refine HO.done (by kernel_rfl) ?_
  refine Kseq_norm ?_
  refine H.condS (b := !y1.1) (by kernel_rfl) (by kernel_rfl) (fun hb => ?_) (fun hb => ?_)
  · rw [if_pos hb] at h
    refine H.seqP (by kernel_rfl) ?_
    refine H.regP (by kernel_rfl) ?_
    refine HO.goP 1 (by kernel_rfl) ?_
    refine HO.done (by kernel_rfl) ?_
    refine Kseq_norm ?_
    refine H.retP (by kernel_rfl) ?_
    refine Kblock_ret ?_
    refine Kseq_ret ?_
    obtain rfl := Option.some.inj h
    exact KEnd.ret (by kernel_rfl) (by kernel_rfl) (by kernel_rfl)
  · rw [if_neg (ne_true hb)] at h
    refine H.seqP (by kernel_rfl) ?_
    refine H.regP (by kernel_rfl) ?_
    refine HO.goP 1 (by kernel_rfl) ?_
    obtain ⟨y2, hy, h⟩ := bindS h
    refine HO.callW hS [.agg [.keep, .keep, .keep, .list 1 false, .list 5 false]] (plain_ok (x.1, x.2.1, x.2.2.1, x.2.2.2.1, x.2.2.2.2) y2 hy W0) (by kernel_rfl) (by kernel_rfl) ?_
    refine HO.goP 2 (by kernel_rfl) ?_
    refine HO.done (by kernel_rfl) ?_
    refine Kseq_norm ?_
    refine H.condS (b := !y2) (by kernel_rfl) (by kernel_rfl) (fun hb => ?_) (fun hb => ?_)
    · rw [if_pos hb] at h
      refine H.seqP (by kernel_rfl) ?_
      refine H.regP (by kernel_rfl) ?_
      refine HO.goP 1 (by kernel_rfl) ?_
      refine HO.done (by kernel_rfl) ?_
      refine Kseq_norm ?_
      refine H.retP (by kernel_rfl) ?_
      refine Kblock_ret ?_
      refine Kseq_ret ?_
      obtain rfl := Option.some.inj h
      exact KEnd.ret (by kernel_rfl) (by kernel_rfl) (by kernel_rfl)
    · rw [if_neg (ne_true hb)] at h
      refine H.skipP (by kernel_rfl) ?_
      refine Kblock_norm ?_
      refine Kseq_norm ?_
      refine H.seqP (by kernel_rfl) ?_
      refine H.regP (by kernel_rfl) ?_
      refine HO.goP 1 (by kernel_rfl) ?_
      refine HO.done (by kernel_rfl) ?_
      refine Kseq_norm ?_
      refine H.retP (by kernel_rfl) ?_
      obtain rfl := Option.some.inj h
      exact KEnd.ret (by kernel_rfl) (by kernel_rfl) (by kernel_rfl)
def bytesEqual (x : (List Int) × (List Int)) : Option (Bool) :=
  some (strEq (bytesU x.1) (bytesU x.2))
theorem bytesEqual_ok : ∀ (x : (List Int) × (List Int)) (r : Bool), bytesEqual x = some r → ∀ W0 : World, PTo Tryd.prog W0 60 #[ls 1 false (encI .u8) x.1, ls 1 false (encI .u8) x.2] (.returned (.bool r)) := by
  intro x r h
  unfold bytesEqual at h
  intro W0
  refine PTo.of_body (fn := Tryd.f60) (code := cB Tryd.f60) Tryd.func60 rfl rfl ?_
  intro w0 S hS
  haveI := hS.noEx Tryd.prog
  refine H.seqP (by kernel_rfl) ?_
  refine H.regP (by kernel_rfl) ?_
  refine HO.goP 1 (by kernel_rfl) ?_
  refine HO.done (by kernel_rfl) ?_
  refine Kseq_norm ?_
  refine H.seqP (by kernel_rfl) ?_
  refine H.regP (by kernel_rfl) ?_
  refine HO.goP 1 (by kernel_rfl) ?_
  refine HO.valA (str_aop x.1 (by kernel_rfl)) ?_
  refine HO.goP 1 (by kernel_rfl) ?_
  refine HO.valA (str_aop x.2 (by kernel_rfl)) ?_
  refine HO.goP 2 (by kernel_rfl) ?_
  refine HO.done (by kernel_rfl) ?_
  refine Kseq_norm ?_
  refine H.retP (by kernel_rfl) ?_
  obtain rfl := Option.some.inj h
  exact KEnd.ret (by kernel_rfl) (by kernel_rfl) (by kernel_rfl)
def sameI_L1 (x : Bool) : Option (Bool) :=
  some x
theorem sameI_L1_ok : ∀ (x : Bool) (r : Bool), sameI_L1 x = some r → ∀ (W0 w0 : World) (S : Own), Std W0 w0 S 0 → H Tryd.prog w0 S 38 (cR (cR (cB Tryd.f52))) (mkS [(4, .bool x)] [] 0 []) (KEnd Tryd.prog Tryd.f52 (PEnd w0 S (.returned (.bool r)))) := by
  intro x r h
  unfold sameI_L1 at h
  intro W0 w0 S hS
  haveI := hS.noEx Tryd.prog
  refine H.retP (by kernel_rfl) ?_
  obtain rfl := Option.some.inj h
  exact KEnd.ret (by kernel_rfl) (by kernel_rfl) (by kernel_rfl)
mutual
def sameI (x : Int × Int × Bool × (List Int) × (List S36) × Int × Int × Bool × (List Int) × (List S36)) : Option (Bool) :=
  if x.1 = x.2.2.2.2.2.1 then
    if x.2.1 = x.2.2.2.2.2.2.1 then
      if (x.2.2.1 == x.2.2.2.2.2.2.2.1) = true then
        (bytesEqual (x.2.2.2.1, x.2.2.2.2.2.2.2.2.1)) >>= fun y1 =>
        if y1 = true then
          (equalFunc (x.2.2.2.2.1, x.2.2.2.2.2.2.2.2.2)) >>= fun y2 =>
          sameI_L1 y2
        else
          sameI_L1 false
      else
        sameI_L1 false
    else
      sameI_L1 false
  else
    sameI_L1 false
partial_fixpoint
def equalFunc (x : (List S36) × (List S36)) : Option (Bool) :=
  if (!decide ((x.1.length : Int) = (x.2.length : Int))) = true then
    some false
  else
    equalFunc_L1 (x.2, x.1, (x.1.length : Int), 0)
partial_fixpoint
def equalFunc_L1 (x : (List S36) × (List S36) × Int × Int) : Option (Bool) :=
  if x.2.2.2 < x.2.2.1 then
    (at' x.2.1 x.2.2.2) >>= fun y1 =>
    (at' x.1 x.2.2.2) >>= fun y2 =>
    (sameI (y1.c0, y1.c1, y1.c2, y1.c3, y1.c4, y2.c0, y2.c1, y2.c2, y2.c3, y2.c4)) >>= fun y3 =>
    if (!y3) = true then
      some false
    else
      equalFunc_L1 (x.1, x.2.1, x.2.2.1, (IntKind.i64.wrap (x.2.2.2 + 1)))
  else
    some true
partial_fixpoint
end
theorem sameI_grp : (∀ (x : Int × Int × Bool × (List Int) × (List S36) × Int × Int × Bool × (List Int) × (List S36)) (r : Bool), sameI x = some r → ∀ W0 : World, PTo Tryd.prog W0 52 #[.agg #[.int .u8 x.1, .int .u32 x.2.1, .bool x.2.2.1, ls 1 false (encI .u8) x.2.2.2.1, ls 5 false enc36 x.2.2.2.2.1], .agg #[.int .u8 x.2.2.2.2.2.1, .int .u32 x.2.2.2.2.2.2.1, .bool x.2.2.2.2.2.2.2.1, ls 1 false (encI .u8) x.2.2.2.2.2.2.2.2.1, ls 5 false enc36 x.2.2.2.2.2.2.2.2.2]] (.returned (.bool r))) ∧
  (∀ (x : (List S36) × (List S36)) (r : Bool), equalFunc x = some r → ∀ W0 : World, PTo Tryd.prog W0 76 #[ls 5 false enc36 x.1, ls 5 false enc36 x.2, .func (.func 52) #[] #[]] (.returned (.bool r))) ∧
  (∀ (x : (List S36) × (List S36) × Int × Int) (r : Bool), equalFunc_L1 x = some r → ∀ (W0 w0 : World) (S : Own), Std W0 w0 S 0 → HL Tryd.prog w0 S 32 (cL (cL (cR (cL (cR (cR (cB Tryd.f76))))))) (mkS [(1, ls 5 false enc36 x.1), (2, .func (.func 52) #[] #[]), (15, ls 5 false enc36 x.2.1), (16, .int .i64 x.2.2.1), (17, .int .i64 x.2.2.2)] [] 0 []) (Kblock 0 (Kseq Tryd.prog w0 S 32 (cR (cR (cR (cB Tryd.f76)))) (KEnd Tryd.prog Tryd.f76 (PEnd w0 S (.returned (.bool r))))))) := by
  refine sameI.mutual_partial_correctness (fun (x : Int × Int × Bool × (List Int) × (List S36) × Int × Int × Bool × (List Int) × (List S36)) (r : Bool) => ∀ W0 : World, PTo Tryd.prog W0 52 #[.agg #[.int .u8 x.1, .int .u32 x.2.1, .bool x.2.2.1, ls 1 false (encI .u8) x.2.2.2.1, ls 5 false enc36 x.2.2.2.2.1], .agg #[.int .u8 x.2.2.2.2.2.1, .int .u32 x.2.2.2.2.2.2.1, .bool x.2.2.2.2.2.2.2.1, ls 1 false (encI .u8) x.2.2.2.2.2.2.2.2.1, ls 5 false enc36 x.2.2.2.2.2.2.2.2.2]] (.returned (.bool r))) (fun (x : (List S36) × (List S36)) (r : Bool) => ∀ W0 : World, PTo Tryd.prog W0 76 #[ls 5 false enc36 x.1, ls 5 false enc36 x.2, .func (.func 52) #[] #[]] (.returned (.bool r))) (fun (x : (List S36) × (List S36) × Int × Int) (r : Bool) => ∀ (W0 w0 : World) (S : Own), Std W0 w0 S 0 → HL Tryd.prog w0 S 32 (cL (cL (cR (cL (cR (cR (cB Tryd.f76))))))) (mkS [(1, ls 5 false enc36 x.1), (2, .func (.func 52) #[] #[]), (15, ls 5 false enc36 x.2.1), (16, .int .i64 x.2.2.1), (17, .int .i64 x.2.2.2)] [] 0 []) (Kblock 0 (Kseq Tryd.prog w0 S 32 (cR (cR (cR (cB Tryd.f76)))) (KEnd Tryd.prog Tryd.f76 (PEnd w0 S (.returned (.bool r))))))) ?_ ?_ ?_
  · intro g_equalFunc ih_equalFunc x r h
    intro W0
    refine PTo.of_body (fn := Tryd.f52) (code := cB Tryd.f52) Tryd.func52 rfl rfl ?_
    intro w0 S hS
    haveI := hS.noEx Tryd.prog
    refine H.seqP (by kernel_rfl) ?_
    refine H.regP (by kernel_rfl) ?_
    refine HO.goP 3 (by kernel_rfl) ?_
    refine HO.done (by kernel_rfl) ?_
    refine Kseq_norm ?_
    refine H.seqP (by kernel_rfl) ?_
    refine H.regP (by kernel_rfl) ?_
    refine HO.goP 5 (by kernel_rfl) ?_
    refine HO.boolP (decide (x.1 = x.2.2.2.2.2.1)) (by kernel_rfl) (by kernel_rfl) (fun hb => ?_) (fun hb => ?_)
    · rw [if_pos (of_decide_eq_true hb)] at h
      refine HO.goP 6 (by kernel_rfl) ?_
      refine HO.boolP (decide (x.2.1 = x.2.2.2.2.2.2.1)) (by kernel_rfl) (by kernel_rfl) (fun hb => ?_) (fun hb => ?_)
      · rw [if_pos (of_decide_eq_true hb)] at h
        refine HO.goP 6 (by kernel_rfl) ?_
        refine HO.boolP (x.2.2.1 == x.2.2.2.2.2.2.2.1) (by kernel_rfl) (by kernel_rfl) (fun hb => ?_) (fun hb => ?_)
        · rw [if_pos hb] at h
          refine HO.goP 4 (by kernel_rfl) ?_
          obtain ⟨y1, hy, h⟩ := bindS h
          refine HO.callW hS [.list 1 false, .list 1 false] (bytesEqual_ok (x.2.2.2.1, x.2.2.2.2.2.2.2.2.1) y1 hy W0) (by kernel_rfl) (by kernel_rfl) ?_
          refine HO.goP 1 (by kernel_rfl) ?_
          refine HO.boolP y1 (by kernel_rfl) (by kernel_rfl) (fun hb => ?_) (fun hb => ?_)
          · rw [if_pos hb] at h
            refine HO.goP 4 (by kernel_rfl) ?_
            obtain ⟨y2, hy, h⟩ := bindS h
            refine HO.callW hS [.list 5 false, .list 5 false, .keep] (ih_equalFunc (x.2.2.2.2.1, x.2.2.2.2.2.2.2.2.2) y2 hy W0) (by kernel_rfl) (by kernel_rfl) ?_
            refine HO.goP 2 (by kernel_rfl) ?_
            refine HO.done (by kernel_rfl) ?_
            refine Kseq_norm ?_
            exact H.ren hS [] _ _ _ (by kernel_rfl) (sameI_L1_ok y2 r h W0 w0 S hS)
          · rw [if_neg (ne_true hb)] at h
            refine HO.goP 7 (by kernel_rfl) ?_
            refine HO.done (by kernel_rfl) ?_
            refine Kseq_norm ?_
            exact H.ren hS [] _ _ _ (by kernel_rfl) (sameI_L1_ok false r h W0 w0 S hS)
        · rw [if_neg (ne_true hb)] at h
          refine HO.goP 14 (by kernel_rfl) ?_
          refine HO.done (by kernel_rfl) ?_
          refine Kseq_norm ?_
          exact H.ren hS [] _ _ _ (by kernel_rfl) (sameI_L1_ok false r h W0 w0 S hS)
      · rw [if_neg (of_decide_eq_false hb)] at h
        refine HO.goP 21 (by kernel_rfl) ?_
        refine HO.done (by kernel_rfl) ?_
        refine Kseq_norm ?_
        exact H.ren hS [] _ _ _ (by kernel_rfl) (sameI_L1_ok false r h W0 w0 S hS)
    · rw [if_neg (of_decide_eq_false hb)] at h
      refine HO.goP 28 (by kernel_rfl) ?_
      refine HO.done (by kernel_rfl) ?_
      refine Kseq_norm ?_
      exact H.ren hS [] _ _ _ (by kernel_rfl) (sameI_L1_ok false r h W0 w0 S hS)
  · intro g_equalFunc_L1 ih_equalFunc_L1 x r h
    intro W0
    refine PTo.of_body (fn := Tryd.f76) (code := cB Tryd.f76) Tryd.func76 rfl rfl ?_
    intro w0 S hS
    haveI := hS.noEx Tryd.prog
    refine H.seqP (by kernel_rfl) ?_
    refine H.regP (by kernel_rfl) ?_
    refine HO.goP 1 (by kernel_rfl) ?_
    refine HO.done (by kernel_rfl) ?_
    refine Kseq_norm ?_
    refine H.seqP (by kernel_rfl) ?_
    refine H.seqP (by kernel_rfl) ?_
    refine H.regP (by kernel_rfl) ?_
    refine HO.goP 1 (by kernel_rfl) ?_
    refine HO.len (by kernel_rfl) (by kernel_rfl) (ls_size enc36 x.1) ?_
    refine HO.goP 1 (by kernel_rfl) ?_
    refine HO.len (by kernel_rfl) (by kernel_rfl) (ls_size enc36 x.2) ?_
    refine HO.goP 1 (by kernel_rfl) ?_
    refine HO.done (by kernel_rfl) ?_
    refine Kseq_norm ?_
    refine H.condS (b := !decide ((x.1.length : Int) = (x.2.length : Int))) (by kernel_rfl) (by kernel_rfl) (fun hb => ?_) (fun hb => ?_)
    · rw [if_pos hb] at h
      refine H.seqP (by kernel_rfl) ?_
      refine H.regP (by kernel_rfl) ?_
      refine HO.goP 1 (by kernel_rfl) ?_
      refine HO.done (by kernel_rfl) ?_
      refine Kseq_norm ?_
      refine H.retP (by kernel_rfl) ?_
      refine Kseq_ret ?_
      obtain rfl := Option.some.inj h
      exact KEnd.ret (by kernel_rfl) (by kernel_rfl) (by kernel_rfl)
    · rw [if_neg (ne_true hb)] at h
      refine H.skipP (by kernel_rfl) ?_
      refine Kseq_norm ?_
      refine H.seqP (by kernel_rfl) ?_
      refine H.seqP (by kernel_rfl) ?_
      refine H.regP (by kernel_rfl) ?_
      refine HO.goP 1 (by kernel_rfl) ?_
      refine HO.len (by kernel_rfl) (by kernel_rfl) (ls_size enc36 x.1) ?_
      refine HO.goP 1 (by kernel_rfl) ?_
      refine HO.done (by kernel_rfl) ?_
      refine Kseq_norm ?_
      refine H.blockI 0 (by kernel_rfl) ?_
      refine H.loopP (by kernel_rfl) ?_
      exact HL.ren hS [] _ _ _ (by kernel_rfl) (ih_equalFunc_L1 (x.2, x.1, (x.1.length : Int), 0) r h W0 w0 S hS)
  · intro g_sameI g_equalFunc_L1 ih_sameI ih_equalFunc_L1 x r h
    intro W0 w0 S hS
    haveI := hS.noEx Tryd.prog
    refine HL.round ?_
    refine H.seqP (by kernel_rfl) ?_
    refine H.regP (by kernel_rfl) ?_
    refine HO.goP 1 (by kernel_rfl) ?_
    refine HO.done (by kernel_rfl) ?_
    refine Kseq_norm ?_
    refine H.seqP (by kernel_rfl) ?_
    refine H.condS (b := decide (x.2.2.2 < x.2.2.1)) (by kernel_rfl) (by kernel_rfl) (fun hb => ?_) (fun hb => ?_)
    · rw [if_pos (of_decide_eq_true hb)] at h
      refine H.skipP (by kernel_rfl) ?_
      refine Kseq_norm ?_
      refine H.seqP (by kernel_rfl) ?_
      refine H.blockI 1 (by kernel_rfl) ?_
      refine H.seqP (by kernel_rfl) ?_
      refine H.regP (by kernel_rfl) ?_
      refine HO.goP 1 (by kernel_rfl) ?_
      obtain ⟨y1, hy, h⟩ := bindS h
      refine HO.idx (.agg #[.int .u8 y1.c0, .int .u32 y1.c1, .bool y1.c2, ls 1 false (encI .u8) y1.c3, ls 5 false enc36 y1.c4]) hy (enc36_eq y1) (by kernel_rfl) ?_
      refine HO.goP 4 (by kernel_rfl) ?_
      refine HO.done (by kernel_rfl) ?_
      refine Kseq_norm ?_
      refine H.seqP (by kernel_rfl) ?_
      refine H.regP (by kernel_rfl) ?_
      refine HO.goP 2 (by kernel_rfl) ?_
      obtain ⟨y2, hy, h⟩ := bindS h
      refine HO.idx (.agg #[.int .u8 y2.c0, .int .u32 y2.c1, .bool y2.c2, ls 1 false (encI .u8) y2.c3, ls 5 false enc36 y2.c4]) hy (enc36_eq y2) (by kernel_rfl) ?_
      refine HO.goP 3 (by kernel_rfl) ?_
      refine HO.done (by kernel_rfl) ?_
      refine Kseq_norm ?_
      refine H.seqP (by kernel_rfl) ?_
      refine H.regP (by kernel_rfl) ?_
      refine HO.goP 3 (by kernel_rfl) ?_
      obtain ⟨y3, hy, h⟩ := bindS h
      refine HO.callW hS [.agg [.keep, .keep, .keep, .list 1 false, .list 5 false], .agg [.keep, .keep, .keep, .list 1 false, .list 5 false]] (ih_sameI (y1.c0, y1.c1, y1.c2, y1.c3, y1.c4, y2.c0, y2.c1, y2.c2, y2.c3, y2.c4) y3 hy W0) (by kernel_rfl) (by kernel_rfl) ?_
      refine HO.goP 1 (by kernel_rfl) ?_
      refine HO.done (by kernel_rfl) ?_
      refine Kseq_norm ?_
      refine H.condS (b := !y3) (by kernel_rfl) (by kernel_rfl) (fun hb => ?_) (fun hb => ?_)
      · rw [if_pos hb] at h
        refine H.seqP (by kernel_rfl) ?_
        refine H.regP (by kernel_rfl) ?_
        refine HO.goP 1 (by kernel_rfl) ?_
        refine HO.done (by kernel_rfl) ?_
        refine Kseq_norm ?_
        refine H.retP (by kernel_rfl) ?_
        refine Kblock_ret ?_
        refine Kseq_ret ?_
        refine Kloop_ret ?_
        refine Kblock_ret ?_
        refine Kseq_ret ?_
        obtain rfl := Option.some.inj h
        exact KEnd.ret (by kernel_rfl) (by kernel_rfl) (by kernel_rfl)
      · rw [if_neg (ne_true hb)] at h
        refine H.skipP (by kernel_rfl) ?_
        refine Kblock_norm ?_
        refine Kseq_norm ?_
        refine H.regP (by kernel_rfl) ?_
        refine HO.goP 2 (by kernel_rfl) ?_
        refine HO.done (by kernel_rfl) ?_
        refine Kloop_norm ?_
        exact HL.ren hS [] _ _ _ (by kernel_rfl) (ih_equalFunc_L1 (x.1, x.2.1, x.2.2.1, (IntKind.i64.wrap (x.2.2.2 + 1))) r h W0 w0 S hS)
    · rw [if_neg (of_decide_eq_false hb)] at h
      refine H.exitI 0 (by kernel_rfl) ?_
      refine Kseq_exit ?_
      refine Kloop_exit ?_
      refine Kblock_hit ?_
      refine Kseq_norm ?_
      refine H.seqP (by kernel_rfl) ?_
      refine H.regP (by kernel_rfl) ?_
      refine HO.goP 1 (by kernel_rfl) ?_
      refine HO.done (by kernel_rfl) ?_
      refine Kseq_norm ?_
      refine H.retP (by kernel_rfl) ?_
      obtain rfl := Option.some.inj h
      exact KEnd.ret (by kernel_rfl) (by kernel_rfl) (by kernel_rfl)
theorem sameI_ok : ∀ (x : Int × Int × Bool × (List Int) × (List S36) × Int × Int × Bool × (List Int) × (List S36)) (r : Bool), sameI x = some r → ∀ W0 : World, PTo Tryd.prog W0 52 #[.agg #[.int .u8 x.1, .int .u32 x.2.1, .bool x.2.2.1, ls 1 false (encI .u8) x.2.2.2.1, ls 5 false enc36 x.2.2.2.2.1], .agg #[.int .u8 x.2.2.2.2.2.1, .int .u32 x.2.2.2.2.2.2.1, .bool x.2.2.2.2.2.2.2.1, ls 1 false (encI .u8) x.2.2.2.2.2.2.2.2.1, ls 5 false enc36 x.2.2.2.2.2.2.2.2.2]] (.returned (.bool r)) := sameI_grp.1
theorem equalFunc_ok : ∀ (x : (List S36) × (List S36)) (r : Bool), equalFunc x = some r → ∀ W0 : World, PTo Tryd.prog W0 76 #[ls 5 false enc36 x.1, ls 5 false enc36 x.2, .func (.func 52) #[] #[]] (.returned (.bool r)) := sameI_grp.2.1
theorem equalFunc_L1_ok : ∀ (x : (List S36) × (List S36) × Int × Int) (r : Bool), equalFunc_L1 x = some r → ∀ (W0 w0 : World) (S : Own), Std W0 w0 S 0 → HL Tryd.prog w0 S 32 (cL (cL (cR (cL (cR (cR (cB Tryd.f76))))))) (mkS [(1, ls 5 false enc36 x.1), (2, .func (.func 52) #[] #[]), (15, ls 5 false enc36 x.2.1), (16, .int .i64 x.2.2.1), (17, .int .i64 x.2.2.2)] [] 0 []) (Kblock 0 (Kseq Tryd.prog w0 S 32 (cR (cR (cR (cB Tryd.f76)))) (KEnd Tryd.prog Tryd.f76 (PEnd w0 S (.returned (.bool r)))))) := sameI_grp.2.2
def sameT_L1 (x : Bool) : Option (Bool) :=
  some x
theorem sameT_L1_ok : ∀ (x : Bool) (r : Bool), sameT_L1 x = some r → ∀ (W0 w0 : World) (S : Own), Std W0 w0 S 0 → H Tryd.prog w0 S 18 (cR (cR (cB Tryd.f20))) (mkS [(4, .bool x)] [] 0 []) (KEnd Tryd.prog Tryd.f20 (PEnd w0 S (.returned (.bool r)))) := by
  intro x r h
  unfold sameT_L1 at h
  intro W0 w0 S hS
  haveI := hS.noEx Tryd.prog
  refine H.retP (by kernel_rfl) ?_
  obtain rfl := Option.some.inj h
  exact KEnd.ret (by kernel_rfl) (by kernel_rfl) (by kernel_rfl)
def sameT (x : Int × Int × Bool × (List Int) × (List S36) × Int × Int × Bool × (List Int) × (List S36)) : Option (Bool) :=
  (check (x.1, x.2.1, x.2.2.1, x.2.2.2.1, x.2.2.2.2.1)) >>= fun y1 =>
  if y1 = 0 then
    (check (x.2.2.2.2.2.1, x.2.2.2.2.2.2.1, x.2.2.2.2.2.2.2.1, x.2.2.2.2.2.2.2.2.1, x.2.2.2.2.2.2.2.2.2)) >>= fun y2 =>
    if y2 = 0 then
      (sameI (x.1, x.2.1, x.2.2.1, x.2.2.2.1, x.2.2.2.2.1, x.2.2.2.2.2.1, x.2.2.2.2.2.2.1, x.2.2.2.2.2.2.2.1, x.2.2.2.2.2.2.2.2.1, x.2.2.2.2.2.2.2.2.2)) >>= fun y3 =>
      sameT_L1 y3
    else
      sameT_L1 false
  else
    sameT_L1 false
theorem sameT_ok : ∀ (x : Int × Int × Bool × (List Int) × (List S36) × Int × Int × Bool × (List Int) × (List S36)) (r : Bool), sameT x = some r → ∀ W0 : World, PTo Tryd.prog W0 20 #[.agg #[.int .u8 x.1, .int .u32 x.2.1, .bool x.2.2.1, ls 1 false (encI .u8) x.2.2.2.1, ls 5 false enc36 x.2.2.2.2.1], .agg #[.int .u8 x.2.2.2.2.2.1, .int .u32 x.2.2.2.2.2.2.1, .bool x.2.2.2.2.2.2.2.1, ls 1 false (encI .u8) x.2.2.2.2.2.2.2.2.1, ls 5 false enc36 x.2.2.2.2.2.2.2.2.2]] (.returned (.bool r)) := by
  intro x r h
  unfold sameT at h
  intro W0
  refine PTo.of_body (fn := Tryd.f20) (code := cB Tryd.f20) Tryd.func20 rfl rfl ?_
  intro w0 S hS
  haveI := hS.noEx Tryd.prog
  refine H.seqP (by kernel_rfl) ?_
  refine H.regP (by kernel_rfl) ?_
  refine HO.goP 3 (by kernel_rfl) ?_
  refine HO.done (by kernel_rfl) ?_
  refine Kseq_norm ?_
  refine H.seqP (by kernel_rfl) ?_
  refine H.regP (by kernel_rfl) ?_
  refine HO.goP 1 (by kernel_rfl) ?_
  obtain ⟨y1, hy, h⟩ := bindS h
  refine HO.callW hS [.agg [.keep, .keep, .keep, .list 1 false, .list 5 false]] (check_ok (x.1, x.2.1, x.2.2.1, x.2.2.2.1, x.2.2.2.2.1) y1 hy W0) (by kernel_rfl) (by kernel_rfl) ?_
  refine HO.goP 1 (by kernel_rfl) ?_
  refine HO.boolP (decide (y1 = 0)) (by kernel_rfl) (by kernel_rfl) (fun hb => ?_) (fun hb => ?_)
  · rw [if_pos (of_decide_eq_true hb)] at h
    refine HO.goP 1 (by kernel_rfl) ?_
    obtain ⟨y2, hy, h⟩ := bindS h
    refine HO.callW hS [.agg [.keep, .keep, .keep, .list 1 false, .list 5 false]] (check_ok (x.2.2.2.2.2.1, x.2.2.2.2.2.2.1, x.2.2.2.2.2.2.2.1, x.2.2.2.2.2.2.2.2.1, x.2.2.2.2.2.2.2.2.2) y2 hy W0) (by kernel_rfl) (by kernel_rfl) ?_
    refine HO.goP 2 (by kernel_rfl) ?_
    refine HO.boolP (decide (y2 = 0)) (by kernel_rfl) (by kernel_rfl) (fun hb => ?_) (fun hb => ?_)
    · rw [if_pos (of_decide_eq_true hb)] at h
      refine HO.goP 2 (by kernel_rfl) ?_
      obtain ⟨y3, hy, h⟩ := bindS h
      refine HO.callW hS [.agg [.keep, .keep, .keep, .list 1 false, .list 5 false], .agg [.keep, .keep, .keep, .list 1 false, .list 5 false]] (sameI_ok (x.1, x.2.1, x.2.2.1, x.2.2.2.1, x.2.2.2.2.1, x.2.2.2.2.2.1, x.2.2.2.2.2.2.1, x.2.2.2.2.2.2.2.1, x.2.2.2.2.2.2.2.2.1, x.2.2.2.2.2.2.2.2.2) y3 hy W0) (by kernel_rfl) (by kernel_rfl) ?_
      refine HO.goP 2 (by kernel_rfl) ?_
      refine HO.done (by kernel_rfl) ?_
      refine Kseq_norm ?_
      exact H.ren hS [] _ _ _ (by kernel_rfl) (sameT_L1_ok y3 r h W0 w0 S hS)
    · rw [if_neg (of_decide_eq_false hb)] at h
      refine HO.goP 5 (by kernel_rfl) ?_
      refine HO.done (by kernel_rfl) ?_
      refine Kseq_norm ?_
      exact H.ren hS [] _ _ _ (by kernel_rfl) (sameT_L1_ok false r h W0 w0 S hS)
  · rw [if_neg (of_decide_eq_false hb)] at h
    refine HO.goP 10 (by kernel_rfl) ?_
    refine HO.done (by kernel_rfl) ?_
    refine Kseq_norm ?_
    exact H.ren hS [] _ _ _ (by kernel_rfl) (sameT_L1_ok false r h W0 w0 S hS)
mutual
def flat_L2 (x : (List S111) × Int × Int × Int × Bool × (List Int) × (List S36)) : Option ((List S111)) :=
  flat_L1 (x.1, (IntKind.i64.wrap (x.2.1 + 1)), x.2.2.1, x.2.2.2.1, x.2.2.2.2.1, x.2.2.2.2.2.1, x.2.2.2.2.2.2)
partial_fixpoint
def flat_L1 (x : (List S111) × Int × Int × Int × Bool × (List Int) × (List S36)) : Option ((List S111)) :=
  if x.2.1 < (x.2.2.2.2.2.2.length : Int) then
    (at' x.2.2.2.2.2.2 x.2.1) >>= fun y1 =>
    (flat (y1.c0, y1.c1, y1.c2, y1.c3, y1.c4)) >>= fun y2 =>
    (app' 48 x.1 y2) >>= fun y3 =>
    if y2.length = 0 then
      flat_L2 (x.1, x.2.1, x.2.2.1, x.2.2.2.1, x.2.2.2.2.1, x.2.2.2.2.2.1, x.2.2.2.2.2.2)
    else
      flat_L2 (y3, x.2.1, x.2.2.1, x.2.2.2.1, x.2.2.2.2.1, x.2.2.2.2.2.1, x.2.2.2.2.2.2)
  else
    some x.1
partial_fixpoint
def flat (x : Int × Int × Bool × (List Int) × (List S36)) : Option ((List S111)) :=
  flat_L1 ([(S111.mk (IntKind.i64.wrap x.1) (IntKind.i64.wrap x.2.1) x.2.2.1 (bytesU x.2.2.2.1) (x.2.2.2.2.length : Int))], 0, x.1, x.2.1, x.2.2.1, x.2.2.2.1, x.2.2.2.2)
partial_fixpoint
end
theorem flat_L2_grp : (∀ (x : (List S111) × Int × Int × Int × Bool × (List Int) × (List S36)) (r : (List S111)), flat_L2 x = some r → ∀ (W0 w0 : World) (S : Own), Std W0 w0 S 0 → H Tryd.prog w0 S 37 (cR (cR (cL (cL (cR (cL (cR (cR (cB Tryd.f19))))))))) (mkS [(1, .pointer (some ⟨0, 0, none⟩)), (3, tl 5 1 enc111 x.1), (4, .int .i64 x.2.1)] [(0, .cells [.int .u8 x.2.2.1, .int .u32 x.2.2.2.1, .bool x.2.2.2.2.1, ls 1 false (encI .u8) x.2.2.2.2.2.1, ls 5 false enc36 x.2.2.2.2.2.2] 36 5)] 2 [1]) (Kloop Tryd.prog w0 S 37 (cL (cL (cR (cL (cR (cR (cB Tryd.f19))))))) (Kblock 0 (Kseq Tryd.prog w0 S 37 (cR (cR (cR (cB Tryd.f19)))) (KEnd Tryd.prog Tryd.f19 (PEnd w0 S (.returned (ls 5 false enc111 r)))))))) ∧
  (∀ (x : (List S111) × Int × Int × Int × Bool × (List Int) × (List S36)) (r : (List S111)), flat_L1 x = some r → ∀ (W0 w0 : World) (S : Own), Std W0 w0 S 0 → HL Tryd.prog w0 S 37 (cL (cL (cR (cL (cR (cR (cB Tryd.f19))))))) (mkS [(1, .pointer (some ⟨0, 0, none⟩)), (3, tl 5 1 enc111 x.1), (4, .int .i64 x.2.1)] [(0, .cells [.int .u8 x.2.2.1, .int .u32 x.2.2.2.1, .bool x.2.2.2.2.1, ls 1 false (encI .u8) x.2.2.2.2.2.1, ls 5 false enc36 x.2.2.2.2.2.2] 36 5)] 2 [1]) (Kblock 0 (Kseq Tryd.prog w0 S 37 (cR (cR (cR (cB Tryd.f19)))) (KEnd Tryd.prog Tryd.f19 (PEnd w0 S (.returned (ls 5 false enc111 r))))))) ∧
  (∀ (x : Int × Int × Bool × (List Int) × (List S36)) (r : (List S111)), flat x = some r → ∀ W0 : World, PTo Tryd.prog W0 19 #[.agg #[.int .u8 x.1, .int .u32 x.2.1, .bool x.2.2.1, ls 1 false (encI .u8) x.2.2.2.1, ls 5 false enc36 x.2.2.2.2]] (.returned (ls 5 false enc111 r))) := by
  refine flat_L2.mutual_partial_correctness (fun (x : (List S111) × Int × Int × Int × Bool × (List Int) × (List S36)) (r : (List S111)) => ∀ (W0 w0 : World) (S : Own), Std W0 w0 S 0 → H Tryd.prog w0 S 37 (cR (cR (cL (cL (cR (cL (cR (cR (cB Tryd.f19))))))))) (mkS [(1, .pointer (some ⟨0, 0, none⟩)), (3, tl 5 1 enc111 x.1), (4, .int .i64 x.2.1)] [(0, .cells [.int .u8 x.2.2.1, .int .u32 x.2.2.2.1, .bool x.2.2.2.2.1, ls 1 false (encI .u8) x.2.2.2.2.2.1, ls 5 false enc36 x.2.2.2.2.2.2] 36 5)] 2 [1]) (Kloop Tryd.prog w0 S 37 (cL (cL (cR (cL (cR (cR (cB Tryd.f19))))))) (Kblock 0 (Kseq Tryd.prog w0 S 37 (cR (cR (cR (cB Tryd.f19)))) (KEnd Tryd.prog Tryd.f19 (PEnd w0 S (.returned (ls 5 false enc111 r)))))))) (fun (x : (List S111) × Int × Int × Int × Bool × (List Int) × (List S36)) (r : (List S111)) => ∀ (W0 w0 : World) (S : Own), Std W0 w0 S 0 → HL Tryd.prog w0 S 37 (cL (cL (cR (cL (cR (cR (cB Tryd.f19))))))) (mkS [(1, .pointer (some ⟨0, 0, none⟩)), (3, tl 5 1 enc111 x.1), (4, .int .i64 x.2.1)] [(0, .cells [.int .u8 x.2.2.1, .int .u32 x.2.2.2.1, .bool x.2.2.2.2.1, ls 1 false (encI .u8) x.2.2.2.2.2.1, ls 5 false enc36 x.2.2.2.2.2.2] 36 5)] 2 [1]) (Kblock 0 (Kseq Tryd.prog w0 S 37 (cR (cR (cR (cB Tryd.f19)))) (KEnd Tryd.prog Tryd.f19 (PEnd w0 S (.returned (ls 5 false enc111 r))))))) (fun (x : Int × Int × Bool × (List Int) × (List S36)) (r : (List S111)) => ∀ W0 : World, PTo Tryd.prog W0 19 #[.agg #[.int .u8 x.1, .int .u32 x.2.1, .bool x.2.2.1, ls 1 false (encI .u8) x.2.2.2.1, ls 5 false enc36 x.2.2.2.2]] (.returned (ls 5 false enc111 r))) ?_ ?_ ?_
  · intro g_flat_L1 ih_flat_L1 x r h
    intro W0 w0 S hS
    haveI := hS.noEx Tryd.prog
    refine H.regP (by kernel_rfl) ?_
    refine HO.goP 3 (by kernel_rfl) ?_
    refine HO.done (by kernel_rfl) ?_
    refine Kloop_norm ?_
    exact HL.ren hS [0, 1] _ _ _ (by kernel_rfl) (ih_flat_L1 (x.1, (IntKind.i64.wrap (x.2.1 + 1)), x.2.2.1, x.2.2.2.1, x.2.2.2.2.1, x.2.2.2.2.2.1, x.2.2.2.2.2.2) r h W0 w0 S hS)
  · intro g_flat_L2 g_flat ih_flat_L2 ih_flat x r h
    intro W0 w0 S hS
    haveI := hS.noEx Tryd.prog
    refine HL.round ?_
    refine H.seqP (by kernel_rfl) ?_
    refine H.seqP (by kernel_rfl) ?_
    refine H.regP (by kernel_rfl) ?_
    refine HO.goP 3 (by kernel_rfl) ?_
    refine HO.len (by kernel_rfl) (by kernel_rfl) (ls_size enc36 x.2.2.2.2.2.2) ?_
    refine HO.goP 1 (by kernel_rfl) ?_
    refine HO.done (by kernel_rfl) ?_
    refine Kseq_norm ?_
    refine H.condS (b := decide (x.2.1 < (x.2.2.2.2.2.2.length : Int))) (by kernel_rfl) (by kernel_rfl) (fun hb => ?_) (fun hb => ?_)
    · rw [if_pos (of_decide_eq_true hb)] at h
      refine H.skipP (by kernel_rfl) ?_
      refine Kseq_norm ?_
      refine H.seqP (by kernel_rfl) ?_
      refine H.blockI 1 (by kernel_rfl) ?_
      refine H.regP (by kernel_rfl) ?_
      refine HO.goP 4 (by kernel_rfl) ?_
      obtain ⟨y1, hy, h⟩ := bindS h
      refine HO.idx (.agg #[.int .u8 y1.c0, .int .u32 y1.c1, .bool y1.c2, ls 1 false (encI .u8) y1.c3, ls 5 false enc36 y1.c4]) hy (enc36_eq y1) (by kernel_rfl) ?_
      refine HO.goP 1 (by kernel_rfl) ?_
      obtain ⟨y2, hy, h⟩ := bindS h
      refine HO.callW hS [.agg [.keep, .keep, .keep, .list 1 false, .list 5 false]] (ih_flat (y1.c0, y1.c1, y1.c2, y1.c3, y1.c4) y2 hy W0) (by kernel_rfl) (by kernel_rfl) ?_
      obtain ⟨y3, hy, h⟩ := bindS h
      by_cases hb : y2.length = 0
      · rw [if_pos hb] at h
        refine HO.valA (appN_aop (ag := true) [] enc111_ok hy hb (by kernel_rfl)) ?_
        refine HO.goP 1 (by kernel_rfl) ?_
        refine HO.done (by kernel_rfl) ?_
        refine Kblock_norm ?_
        refine Kseq_norm ?_
        exact H.ren hS [0, 1] _ _ _ (by kernel_rfl) (ih_flat_L2 (x.1, x.2.1, x.2.2.1, x.2.2.2.1, x.2.2.2.2.1, x.2.2.2.2.2.1, x.2.2.2.2.2.2) r h W0 w0 S hS)
      · rw [if_neg hb] at h
        refine HO.effA (appL_aop (ag := true) [] enc111_ok hy hb (by kernel_rfl)) ?_
        refine HO.goP 1 (by kernel_rfl) ?_
        refine HO.done (by kernel_rfl) ?_
        refine Kblock_norm ?_
        refine Kseq_norm ?_
        exact H.ren hS [0, 2] _ _ _ (by kernel_rfl) (ih_flat_L2 (y3, x.2.1, x.2.2.1, x.2.2.2.1, x.2.2.2.2.1, x.2.2.2.2.2.1, x.2.2.2.2.2.2) r h W0 w0 S hS)
    · rw [if_neg (of_decide_eq_false hb)] at h
      refine H.exitI 0 (by kernel_rfl) ?_
      refine Kseq_exit ?_
      refine Kloop_exit ?_
      refine Kblock_hit ?_
      refine Kseq_norm ?_
      refine H.seqP (by kernel_rfl) ?_
      refine H.regP (by kernel_rfl) ?_
      refine HO.goP 2 (by kernel_rfl) ?_
      refine HO.done (by kernel_rfl) ?_
      refine Kseq_norm ?_
      refine H.retP (by kernel_rfl) ?_
      obtain rfl := Option.some.inj h
      exact KEnd.retW (v := tl 5 1 enc111 x.1) (.list 5 false) (by kernel_rfl) (by kernel_rfl) (by kernel_rfl) (by kernel_rfl)
  · intro g_flat_L1 ih_flat_L1 x r h
    intro W0
    refine PTo.of_body (fn := Tryd.f19) (code := cB Tryd.f19) Tryd.func19 rfl rfl ?_
    intro w0 S hS
    haveI := hS.noEx Tryd.prog
    refine H.seqP (by kernel_rfl) ?_
    refine H.regP (by kernel_rfl) ?_
    refine HO.goP 2 (by kernel_rfl) ?_
    refine HO.done (by kernel_rfl) ?_
    refine Kseq_norm ?_
    refine H.seqP (by kernel_rfl) ?_
    refine H.regP (by kernel_rfl) ?_
    refine HO.goP 10 (by kernel_rfl) ?_
    refine HO.valA (str_aop x.2.2.2.1 (by kernel_rfl)) ?_
    refine HO.goP 2 (by kernel_rfl) ?_
    refine HO.len (by kernel_rfl) (by kernel_rfl) (ls_size enc36 x.2.2.2.2) ?_
    refine HO.goP 3 (by kernel_rfl) ?_
    refine HO.done (by kernel_rfl) ?_
    refine Kseq_norm ?_
    refine H.seqP (by kernel_rfl) ?_
    refine H.seqP (by kernel_rfl) ?_
    refine H.regP (by kernel_rfl) ?_
    refine HO.goP 1 (by kernel_rfl) ?_
    refine HO.done (by kernel_rfl) ?_
    refine Kseq_norm ?_
    refine H.blockI 0 (by kernel_rfl) ?_
    refine H.loopP (by kernel_rfl) ?_
    refine HL.tkz [3, 20] 1 1 1 5 111 ([(S111.mk (IntKind.i64.wrap x.1) (IntKind.i64.wrap x.2.1) x.2.2.1 (bytesU x.2.2.2.1) (x.2.2.2.2.length : Int))].map enc111).toArray [.int .i64 (IntKind.i64.wrap x.1), .int .i64 (IntKind.i64.wrap x.2.1), .bool x.2.2.1, .string (bytesU x.2.2.2.1), .int .i64 (x.2.2.2.2.length : Int)] (by kernel_rfl) ?_
    exact HL.ren hS [0, 2] _ _ _ (by kernel_rfl) (ih_flat_L1 ([(S111.mk (IntKind.i64.wrap x.1) (IntKind.i64.wrap x.2.1) x.2.2.1 (bytesU x.2.2.2.1) (x.2.2.2.2.length : Int))], 0, x.1, x.2.1, x.2.2.1, x.2.2.2.1, x.2.2.2.2) r h W0 w0 S hS)
theorem flat_L2_ok : ∀ (x : (List S111) × Int × Int × Int × Bool × (List Int) × (List S36)) (r : (List S111)), flat_L2 x = some r → ∀ (W0 w0 : World) (S : Own), Std W0 w0 S 0 → H Tryd.prog w0 S 37 (cR (cR (cL (cL (cR (cL (cR (cR (cB Tryd.f19))))))))) (mkS [(1, .pointer (some ⟨0, 0, none⟩)), (3, tl 5 1 enc111 x.1), (4, .int .i64 x.2.1)] [(0, .cells [.int .u8 x.2.2.1, .int .u32 x.2.2.2.1, .bool x.2.2.2.2.1, ls 1 false (encI .u8) x.2.2.2.2.2.1, ls 5 false enc36 x.2.2.2.2.2.2] 36 5)] 2 [1]) (Kloop Tryd.prog w0 S 37 (cL (cL (cR (cL (cR (cR (cB Tryd.f19))))))) (Kblock 0 (Kseq Tryd.prog w0 S 37 (cR (cR (cR (cB Tryd.f19)))) (KEnd Tryd.prog Tryd.f19 (PEnd w0 S (.returned (ls 5 false enc111 r))))))) := flat_L2_grp.1
theorem flat_L1_ok : ∀ (x : (List S111) × Int × Int × Int × Bool × (List Int) × (List S36)) (r : (List S111)), flat_L1 x = some r → ∀ (W0 w0 : World) (S : Own), Std W0 w0 S 0 → HL Tryd.prog w0 S 37 (cL (cL (cR (cL (cR (cR (cB Tryd.f19))))))) (mkS [(1, .pointer (some ⟨0, 0, none⟩)), (3, tl 5 1 enc111 x.1), (4, .int .i64 x.2.1)] [(0, .cells [.int .u8 x.2.2.1, .int .u32 x.2.2.2.1, .bool x.2.2.2.2.1, ls 1 false (encI .u8) x.2.2.2.2.2.1, ls 5 false enc36 x.2.2.2.2.2.2] 36 5)] 2 [1]) (Kblock 0 (Kseq Tryd.prog w0 S 37 (cR (cR (cR (cB Tryd.f19)))) (KEnd Tryd.prog Tryd.f19 (PEnd w0 S (.returned (ls 5 false enc111 r)))))) := flat_L2_grp.2.1
theorem flat_ok : ∀ (x : Int × Int × Bool × (List Int) × (List S36)) (r : (List S111)), flat x = some r → ∀ W0 : World, PTo Tryd.prog W0 19 #[.agg #[.int .u8 x.1, .int .u32 x.2.1, .bool x.2.2.1, ls 1 false (encI .u8) x.2.2.2.1, ls 5 false enc36 x.2.2.2.2]] (.returned (ls 5 false enc111 r)) := flat_L2_grp.2.2
def alike_L1 (x : (List S111) × (List S111) × Int) : Option (Bool) :=
  if x.2.2 < (x.1.length : Int) then
    (at' x.1 x.2.2) >>= fun y1 =>
    (at' x.2.1 x.2.2) >>= fun y2 =>
    if (!(((y1.c0 : Int) == y2.c0) && (((y1.c1 : Int) == y2.c1) && (((y1.c2 : Bool) == y2.c2) && (((y1.c3 : ByteArray) == y2.c3) && (((y1.c4 : Int) == y2.c4) && (true))))))) = true then
      some false
    else
      alike_L1 (x.1, x.2.1, (IntKind.i64.wrap (x.2.2 + 1)))
  else
    some true
partial_fixpoint
theorem alike_L1_ok : ∀ (x : (List S111) × (List S111) × Int) (r : Bool), alike_L1 x = some r → ∀ (W0 w0 : World) (S : Own), Std W0 w0 S 0 → HL Tryd.prog w0 S 26 (cL (cL (cR (cL (cR (cR (cB Tryd.f25))))))) (mkS [(0, ls 5 false enc111 x.1), (1, ls 5 false enc111 x.2.1), (5, .int .i64 x.2.2)] [] 0 []) (Kblock 0 (Kseq Tryd.prog w0 S 26 (cR (cR (cR (cB Tryd.f25)))) (KEnd Tryd.prog Tryd.f25 (PEnd w0 S (.returned (.bool r)))))) := by
  refine alike_L1.partial_correctness (fun (x : (List S111) × (List S111) × Int) (r : Bool) => ∀ (W0 w0 : World) (S : Own), Std W0 w0 S 0 → HL Tryd.prog w0 S 26 (cL (cL (cR (cL (cR (cR (cB Tryd.f25))))))) (mkS [(0, ls 5 false enc111 x.1), (1, ls 5 false enc111 x.2.1), (5, .int .i64 x.2.2)] [] 0 []) (Kblock 0 (Kseq Tryd.prog w0 S 26 (cR (cR (cR (cB Tryd.f25)))) (KEnd Tryd.prog Tryd.f25 (PEnd w0 S (.returned (.bool r))))))) ?_
  intro self ih_alike_L1 x r h
  intro W0 w0 S hS
  haveI := hS.noEx Tryd.prog
  refine HL.round ?_
  refine H.seqP (by kernel_rfl) ?_
  refine H.seqP (by kernel_rfl) ?_
  refine H.regP (by kernel_rfl) ?_
  refine HO.goP 2 (by kernel_rfl) ?_
  refine HO.len (by kernel_rfl) (by kernel_rfl) (ls_size enc111 x.1) ?_
  refine HO.goP 1 (by kernel_rfl) ?_
  refine HO.done (by kernel_rfl) ?_
  refine Kseq_norm ?_
  refine H.condS (b := decide (x.2.2 < (x.1.length : Int))) (by kernel_rfl) (by kernel_rfl) (fun hb => ?_) (fun hb => ?_)
  · rw [if_pos (of_decide_eq_true hb)] at h
    refine H.skipP (by kernel_rfl) ?_
    refine Kseq_norm ?_
    refine H.seqP (by kernel_rfl) ?_
    refine H.blockI 1 (by kernel_rfl) ?_
    refine H.seqP (by kernel_rfl) ?_
    refine H.drawQ ?_
    refine HQ.goP 2 (by kernel_rfl) ?_
    obtain ⟨y1, hy, h⟩ := bindS h
    refine HQ.idx (.agg #[.int .i64 y1.c0, .int .i64 y1.c1, .bool y1.c2, .string y1.c3, .int .i64 y1.c4]) hy (enc111_eq y1) (by kernel_rfl) ?_
    refine HQ.goP 3 (by kernel_rfl) ?_
    obtain ⟨y2, hy, h⟩ := bindS h
    refine HQ.idx (.agg #[.int .i64 y2.c0, .int .i64 y2.c1, .bool y2.c2, .string y2.c3, .int .i64 y2.c4]) hy (enc111_eq y2) (by kernel_rfl) ?_
    refine HQ.goP 1 (by kernel_rfl) ?_
    refine HQ.valA (eqS_aop (r := (((y1.c0 : Int) == y2.c0) && (((y1.c1 : Int) == y2.c1) && (((y1.c2 : Bool) == y2.c2) && (((y1.c3 : ByteArray) == y2.c3) && (((y1.c4 : Int) == y2.c4) && (true))))))) true (by kernel_rfl)) ?_
    refine HQ.calm (by kernel_rfl) (by kernel_rfl) (by kernel_rfl) (by kernel_rfl) ?_
    refine Kseq_norm ?_
    refine H.condS (b := !(((y1.c0 : Int) == y2.c0) && (((y1.c1 : Int) == y2.c1) && (((y1.c2 : Bool) == y2.c2) && (((y1.c3 : ByteArray) == y2.c3) && (((y1.c4 : Int) == y2.c4) && (true))))))) (by kernel_rfl) (by kernel_rfl) (fun hb => ?_) (fun hb => ?_)
    · rw [if_pos hb] at h
      refine H.seqP (by kernel_rfl) ?_
      refine H.regP (by kernel_rfl) ?_
      refine HO.goP 1 (by kernel_rfl) ?_
      refine HO.done (by kernel_rfl) ?_
      refine Kseq_norm ?_
      refine H.retP (by kernel_rfl) ?_
      refine Kblock_ret ?_
      refine Kseq_ret ?_
      refine Kloop_ret ?_
      refine Kblock_ret ?_
      refine Kseq_ret ?_
      obtain rfl := Option.some.inj h
      exact KEnd.ret (by kernel_rfl) (by kernel_rfl) (by kernel_rfl)
    · rw [if_neg (ne_true hb)] at h
      refine H.skipP (by kernel_rfl) ?_
      refine Kblock_norm ?_
      refine Kseq_norm ?_
      refine H.regP (by kernel_rfl) ?_
      refine HO.goP 3 (by kernel_rfl) ?_
      refine HO.done (by kernel_rfl) ?_
      refine Kloop_norm ?_
      exact HL.ren hS [] _ _ _ (by kernel_rfl) (ih_alike_L1 (x.1, x.2.1, (IntKind.i64.wrap (x.2.2 + 1))) r h W0 w0 S hS)
  · rw [if_neg (of_decide_eq_false hb)] at h
    refine H.exitI 0 (by kernel_rfl) ?_
    refine Kseq_exit ?_
    refine Kloop_exit ?_
    refine Kblock_hit ?_
    refine Kseq_norm ?_
    refine H.seqP (by kernel_rfl) ?_
    refine H.regP (by kernel_rfl) ?_
    refine HO.goP 1 (by kernel_rfl) ?_
    refine HO.done (by kernel_rfl) ?_
    refine Kseq_norm ?_
    refine H.retP (by kernel_rfl) ?_
    obtain rfl := Option.some.inj h
    exact KEnd.ret (by kernel_rfl) (by kernel_rfl) (by kernel_rfl)
def alike (x : (List S111) × (List S111)) : Option (Bool) :=
  if (!decide ((x.1.length : Int) = (x.2.length : Int))) = true then
    some false
  else
    alike_L1 (x.1, x.2, 0)
theorem alike_ok : ∀ (x : (List S111) × (List S111)) (r : Bool), alike x = some r → ∀ W0 : World, PTo Tryd.prog W0 25 #[ls 5 false enc111 x.1, ls 5 false enc111 x.2] (.returned (.bool r)) := by
  intro x r h
  unfold alike at h
  intro W0
  refine PTo.of_body (fn := Tryd.f25) (code := cB Tryd.f25) Tryd.func25 rfl rfl ?_
  intro w0 S hS
  haveI := hS.noEx Tryd.prog
  refine H.seqP (by kernel_rfl) ?_
  refine H.regP (by kernel_rfl) ?_
  refine HO.goP 1 (by kernel_rfl) ?_
  refine HO.done (by kernel_rfl) ?_
  refine Kseq_norm ?_
  refine H.seqP (by kernel_rfl) ?_
  refine H.seqP (by kernel_rfl) ?_
  refine H.regP (by kernel_rfl) ?_
  refine HO.goP 1 (by kernel_rfl) ?_
  refine HO.len (by kernel_rfl) (by kernel_rfl) (ls_size enc111 x.1) ?_
  refine HO.goP 1 (by kernel_rfl) ?_
  refine HO.len (by kernel_rfl) (by kernel_rfl) (ls_size enc111 x.2) ?_
  refine HO.goP 1 (by kernel_rfl) ?_
  refine HO.done (by kernel_rfl) ?_
  refine Kseq_norm ?_
  refine H.condS (b := !decide ((x.1.length : Int) = (x.2.length : Int))) (by kernel_rfl) (by kernel_rfl) (fun hb => ?_) (fun hb => ?_)
  · rw [if_pos hb] at h
    refine H.seqP (by kernel_rfl) ?_
    refine H.regP (by kernel_rfl) ?_
    refine HO.goP 1 (by kernel_rfl) ?_
    refine HO.done (by kernel_rfl) ?_
    refine Kseq_norm ?_
    refine H.retP (by kernel_rfl) ?_
    refine Kseq_ret ?_
    obtain rfl := Option.some.inj h
    exact KEnd.ret (by kernel_rfl) (by kernel_rfl) (by kernel_rfl)
  · rw [if_neg (ne_true hb)] at h
    refine H.skipP (by kernel_rfl) ?_
    refine Kseq_norm ?_
    refine H.seqP (by kernel_rfl) ?_
    refine H.seqP (by kernel_rfl) ?_
    refine H.regP (by kernel_rfl) ?_
    refine HO.goP 1 (by kernel_rfl) ?_
    refine HO.done (by kernel_rfl) ?_
    refine Kseq_norm ?_
    refine H.blockI 0 (by kernel_rfl) ?_
    refine H.loopP (by kernel_rfl) ?_
    exact HL.ren hS [] _ _ _ (by kernel_rfl) (alike_L1_ok (x.1, x.2, 0) r h W0 w0 S hS)
def law_L6 (x : Bool) : Option (Bool) :=
  some x
theorem law_L6_ok : ∀ (x : Bool) (r : Bool), law_L6 x = some r → ∀ (W0 w0 : World) (S : Own), Std W0 w0 S 0 → PTo Tryd.prog W0 10 #[] (.returned (.bool true)) → H Tryd.prog w0 S 146 (cR (cL (cR (cL (cL (cR (cL (cL (cR (cL (cR (cR (cR (cR (cR (cR (cR (cR (cB Tryd.f6))))))))))))))))))) (mkS [(6, .bool x)] [] 0 []) (Kblock 1 (Kseq Tryd.prog w0 S 146 (cR (cR (cL (cL (cR (cL (cR (cR (cR (cR (cR (cR (cR (cR (cB Tryd.f6))))))))))))))) (Kloop Tryd.prog w0 S 146 (cL (cL (cR (cL (cR (cR (cR (cR (cR (cR (cR (cR (cB Tryd.f6))))))))))))) (Kblock 0 (Kseq Tryd.prog w0 S 146 (cR (cR (cR (cR (cR (cR (cR (cR (cR (cB Tryd.f6)))))))))) (KEnd Tryd.prog Tryd.f6 (PEnd w0 S (.returned (.bool r))))))))) := by
  intro x r h
  unfold law_L6 at h
  intro W0 w0 S hS
  intro HLV
  haveI := hS.noEx Tryd.prog
  refine H.retP (by kernel_rfl) ?_
  refine Kblock_ret ?_
  refine Kseq_ret ?_
  refine Kloop_ret ?_
  refine Kblock_ret ?_
  refine Kseq_ret ?_
  obtain rfl := Option.some.inj h
  exact KEnd.ret (by kernel_rfl) (by kernel_rfl) (by kernel_rfl)
def law_L7 (x : Bool) : Option (Bool) :=
  some x
theorem law_L7_ok : ∀ (x : Bool) (r : Bool), law_L7 x = some r → ∀ (W0 w0 : World) (S : Own), Std W0 w0 S 0 → PTo Tryd.prog W0 10 #[] (.returned (.bool true)) → H Tryd.prog w0 S 146 (cR (cR (cR (cR (cR (cR (cR (cR (cR (cR (cB Tryd.f6))))))))))) (mkS [(6, .bool x)] [] 0 []) (KEnd Tryd.prog Tryd.f6 (PEnd w0 S (.returned (.bool r)))) := by
  intro x r h
  unfold law_L7 at h
  intro W0 w0 S hS
  intro HLV
  haveI := hS.noEx Tryd.prog
  refine H.retP (by kernel_rfl) ?_
  obtain rfl := Option.some.inj h
  exact KEnd.ret (by kernel_rfl) (by kernel_rfl) (by kernel_rfl)
mutual
def law_L5 (x : Int × Int × Bool × Int × Bool × Int × Int × (List S36) × Int × Int × Bool × (List Int) × (List S36) × Int × Int × Bool × (List Int) × (List S36)) : Option (Bool) :=
  if x.2.2.2.2.1 = true then
    if x.2.2.1 = true then
      (at' x.2.2.2.2.2.2.2.1 x.2.2.2.1) >>= fun y10 =>
      (sameT (x.2.2.2.2.2.2.2.2.2.2.2.2.2.1, x.2.2.2.2.2.2.2.2.2.2.2.2.2.2.1, x.2.2.2.2.2.2.2.2.2.2.2.2.2.2.2.1, x.2.2.2.2.2.2.2.2.2.2.2.2.2.2.2.2.1, x.2.2.2.2.2.2.2.2.2.2.2.2.2.2.2.2.2, y10.c0, y10.c1, y10.c2, y10.c3, y10.c4)) >>= fun y11 =>
      if y11 = true then
        (sameT (x.2.2.2.2.2.1, x.2.2.2.2.2.2.1, true, [], x.2.2.2.2.2.2.2.1, x.2.2.2.2.2.2.2.2.1, x.2.2.2.2.2.2.2.2.2.1, x.2.2.2.2.2.2.2.2.2.2.1, x.2.2.2.2.2.2.2.2.2.2.2.1, x.2.2.2.2.2.2.2.2.2.2.2.2.1)) >>= fun y12 =>
        (flat (x.2.2.2.2.2.1, x.2.2.2.2.2.2.1, true, [], x.2.2.2.2.2.2.2.1)) >>= fun y13 =>
        (flat (x.2.2.2.2.2.2.2.2.1, x.2.2.2.2.2.2.2.2.2.1, x.2.2.2.2.2.2.2.2.2.2.1, x.2.2.2.2.2.2.2.2.2.2.2.1, x.2.2.2.2.2.2.2.2.2.2.2.2.1)) >>= fun y14 =>
        (alike (y13, y14)) >>= fun y15 =>
        if (y12 == y15) = true then
          (sameT (x.2.2.2.2.2.2.2.2.1, x.2.2.2.2.2.2.2.2.2.1, x.2.2.2.2.2.2.2.2.2.2.1, x.2.2.2.2.2.2.2.2.2.2.2.1, x.2.2.2.2.2.2.2.2.2.2.2.2.1, x.2.2.2.2.2.2.2.2.1, x.2.2.2.2.2.2.2.2.2.1, x.2.2.2.2.2.2.2.2.2.2.1, x.2.2.2.2.2.2.2.2.2.2.2.1, x.2.2.2.2.2.2.2.2.2.2.2.2.1)) >>= fun y16 =>
          if y16 = true then
            law_L6 true
          else
            law_L6 false
        else
          law_L6 false
      else
        law_L6 false
    else
      law_L6 false
  else
    law_L4 (x.1, x.2.1, x.2.2.1, (IntKind.i64.wrap (x.2.2.2.1 + 1)), x.2.2.2.2.2.1, x.2.2.2.2.2.2.1, x.2.2.2.2.2.2.2.1, x.2.2.2.2.2.2.2.2.1, x.2.2.2.2.2.2.2.2.2.1, x.2.2.2.2.2.2.2.2.2.2.1, x.2.2.2.2.2.2.2.2.2.2.2.1, x.2.2.2.2.2.2.2.2.2.2.2.2.1, x.2.2.2.2.2.2.2.2.2.2.2.2.2.1, x.2.2.2.2.2.2.2.2.2.2.2.2.2.2.1, x.2.2.2.2.2.2.2.2.2.2.2.2.2.2.2.1, x.2.2.2.2.2.2.2.2.2.2.2.2.2.2.2.2.1, x.2.2.2.2.2.2.2.2.2.2.2.2.2.2.2.2.2)
partial_fixpoint
def law_L4 (x : Int × Int × Bool × Int × Int × Int × (List S36) × Int × Int × Bool × (List Int) × (List S36) × Int × Int × Bool × (List Int) × (List S36)) : Option (Bool) :=
  if x.2.2.2.1 < (x.2.2.2.2.2.2.1.length : Int) then
    (at' x.2.2.2.2.2.2.1 x.2.2.2.1) >>= fun y8 =>
    if y8.c0 = x.1 then
      (at' x.2.2.2.2.2.2.1 x.2.2.2.1) >>= fun y9 =>
      law_L5 (x.1, x.2.1, x.2.2.1, x.2.2.2.1, (decide (y9.c1 = x.2.1)), x.2.2.2.2.1, x.2.2.2.2.2.1, x.2.2.2.2.2.2.1, x.2.2.2.2.2.2.2.1, x.2.2.2.2.2.2.2.2.1, x.2.2.2.2.2.2.2.2.2.1, x.2.2.2.2.2.2.2.2.2.2.1, x.2.2.2.2.2.2.2.2.2.2.2.1, x.2.2.2.2.2.2.2.2.2.2.2.2.1, x.2.2.2.2.2.2.2.2.2.2.2.2.2.1, x.2.2.2.2.2.2.2.2.2.2.2.2.2.2.1, x.2.2.2.2.2.2.2.2.2.2.2.2.2.2.2.1, x.2.2.2.2.2.2.2.2.2.2.2.2.2.2.2.2)
    else
      law_L5 (x.1, x.2.1, x.2.2.1, x.2.2.2.1, false, x.2.2.2.2.1, x.2.2.2.2.2.1, x.2.2.2.2.2.2.1, x.2.2.2.2.2.2.2.1, x.2.2.2.2.2.2.2.2.1, x.2.2.2.2.2.2.2.2.2.1, x.2.2.2.2.2.2.2.2.2.2.1, x.2.2.2.2.2.2.2.2.2.2.2.1, x.2.2.2.2.2.2.2.2.2.2.2.2.1, x.2.2.2.2.2.2.2.2.2.2.2.2.2.1, x.2.2.2.2.2.2.2.2.2.2.2.2.2.2.1, x.2.2.2.2.2.2.2.2.2.2.2.2.2.2.2.1, x.2.2.2.2.2.2.2.2.2.2.2.2.2.2.2.2)
  else
    if (!x.2.2.1) = true then
      if x.2.2.2.2.2.2.2.2.2.2.2.2.2.1 = 0 then
        (sameT (x.2.2.2.2.1, x.2.2.2.2.2.1, true, [], x.2.2.2.2.2.2.1, x.2.2.2.2.2.2.2.1, x.2.2.2.2.2.2.2.2.1, x.2.2.2.2.2.2.2.2.2.1, x.2.2.2.2.2.2.2.2.2.2.1, x.2.2.2.2.2.2.2.2.2.2.2.1)) >>= fun y17 =>
        (flat (x.2.2.2.2.1, x.2.2.2.2.2.1, true, [], x.2.2.2.2.2.2.1)) >>= fun y18 =>
        (flat (x.2.2.2.2.2.2.2.1, x.2.2.2.2.2.2.2.2.1, x.2.2.2.2.2.2.2.2.2.1, x.2.2.2.2.2.2.2.2.2.2.1, x.2.2.2.2.2.2.2.2.2.2.2.1)) >>= fun y19 =>
        (alike (y18, y19)) >>= fun y20 =>
        if (y17 == y20) = true then
          (sameT (x.2.2.2.2.1, x.2.2.2.2.2.1, true, [], x.2.2.2.2.2.2.1, x.2.2.2.2.1, x.2.2.2.2.2.1, true, [], x.2.2.2.2.2.2.1)) >>= fun y21 =>
          if y21 = true then
            law_L7 true
          else
            law_L7 false
        else
          law_L7 false
      else
        law_L7 false
    else
      law_L7 false
partial_fixpoint
end
theorem law_L5_grp : (∀ (x : Int × Int × Bool × Int × Bool × Int × Int × (List S36) × Int × Int × Bool × (List Int) × (List S36) × Int × Int × Bool × (List Int) × (List S36)) (r : Bool), law_L5 x = some r → ∀ (W0 w0 : World) (S : Own), Std W0 w0 S 0 → PTo Tryd.prog W0 10 #[] (.returned (.bool true)) → H Tryd.prog w0 S 146 (cR (cL (cL (cR (cL (cL (cR (cL (cR (cR (cR (cR (cR (cR (cR (cR (cB Tryd.f6))))))))))))))))) (mkS [(7, .pointer (some ⟨0, 0, none⟩)), (8, .pointer (some ⟨1, 0, none⟩)), (9, .int .u8 x.1), (10, .int .u32 x.2.1), (12, .pointer (some ⟨2, 0, none⟩)), (13, .bool x.2.2.1), (14, .int .i64 x.2.2.2.1), (90, .bool x.2.2.2.2.1)] [(0, .cells [.int .u8 x.2.2.2.2.2.1, .int .u32 x.2.2.2.2.2.2.1, .bool true, .slice none 0 0, ls 5 false enc36 x.2.2.2.2.2.2.2.1] 36 5), (1, .cells [.int .u8 x.2.2.2.2.2.2.2.2.1, .int .u32 x.2.2.2.2.2.2.2.2.2.1, .bool x.2.2.2.2.2.2.2.2.2.2.1, ls 1 false (encI .u8) x.2.2.2.2.2.2.2.2.2.2.2.1, ls 5 false enc36 x.2.2.2.2.2.2.2.2.2.2.2.2.1] 36 5), (2, .cells [.int .u8 x.2.2.2.2.2.2.2.2.2.2.2.2.2.1, .int .u32 x.2.2.2.2.2.2.2.2.2.2.2.2.2.2.1, .bool x.2.2.2.2.2.2.2.2.2.2.2.2.2.2.2.1, ls 1 false (encI .u8) x.2.2.2.2.2.2.2.2.2.2.2.2.2.2.2.2.1, ls 5 false enc36 x.2.2.2.2.2.2.2.2.2.2.2.2.2.2.2.2.2] 36 5)] 3 []) (Kblock 1 (Kseq Tryd.prog w0 S 146 (cR (cR (cL (cL (cR (cL (cR (cR (cR (cR (cR (cR (cR (cR (cB Tryd.f6))))))))))))))) (Kloop Tryd.prog w0 S 146 (cL (cL (cR (cL (cR (cR (cR (cR (cR (cR (cR (cR (cB Tryd.f6))))))))))))) (Kblock 0 (Kseq Tryd.prog w0 S 146 (cR (cR (cR (cR (cR (cR (cR (cR (cR (cB Tryd.f6)))))))))) (KEnd Tryd.prog Tryd.f6 (PEnd w0 S (.returned (.bool r)))))))))) ∧
  (∀ (x : Int × Int × Bool × Int × Int × Int × (List S36) × Int × Int × Bool × (List Int) × (List S36) × Int × Int × Bool × (List Int) × (List S36)) (r : Bool), law_L4 x = some r → ∀ (W0 w0 : World) (S : Own), Std W0 w0 S 0 → PTo Tryd.prog W0 10 #[] (.returned (.bool true)) → HL Tryd.prog w0 S 146 (cL (cL (cR (cL (cR (cR (cR (cR (cR (cR (cR (cR (cB Tryd.f6))))))))))))) (mkS [(7, .pointer (some ⟨0, 0, none⟩)), (8, .pointer (some ⟨1, 0, none⟩)), (9, .int .u8 x.1), (10, .int .u32 x.2.1), (12, .pointer (some ⟨2, 0, none⟩)), (13, .bool x.2.2.1), (14, .int .i64 x.2.2.2.1)] [(0, .cells [.int .u8 x.2.2.2.2.1, .int .u32 x.2.2.2.2.2.1, .bool true, .slice none 0 0, ls 5 false enc36 x.2.2.2.2.2.2.1] 36 5), (1, .cells [.int .u8 x.2.2.2.2.2.2.2.1, .int .u32 x.2.2.2.2.2.2.2.2.1, .bool x.2.2.2.2.2.2.2.2.2.1, ls 1 false (encI .u8) x.2.2.2.2.2.2.2.2.2.2.1, ls 5 false enc36 x.2.2.2.2.2.2.2.2.2.2.2.1] 36 5), (2, .cells [.int .u8 x.2.2.2.2.2.2.2.2.2.2.2.2.1, .int .u32 x.2.2.2.2.2.2.2.2.2.2.2.2.2.1, .bool x.2.2.2.2.2.2.2.2.2.2.2.2.2.2.1, ls 1 false (encI .u8) x.2.2.2.2.2.2.2.2.2.2.2.2.2.2.2.1, ls 5 false enc36 x.2.2.2.2.2.2.2.2.2.2.2.2.2.2.2.2] 36 5)] 3 []) (Kblock 0 (Kseq Tryd.prog w0 S 146 (cR (cR (cR (cR (cR (cR (cR (cR (cR (cB Tryd.f6)))))))))) (KEnd Tryd.prog Tryd.f6 (PEnd w0 S (.returned (.bool r))))))) := by
  refine law_L5.mutual_partial_correctness (fun (x : Int × Int × Bool × Int × Bool × Int × Int × (List S36) × Int × Int × Bool × (List Int) × (List S36) × Int × Int × Bool × (List Int) × (List S36)) (r : Bool) => ∀ (W0 w0 : World) (S : Own), Std W0 w0 S 0 → PTo Tryd.prog W0 10 #[] (.returned (.bool true)) → H Tryd.prog w0 S 146 (cR (cL (cL (cR (cL (cL (cR (cL (cR (cR (cR (cR (cR (cR (cR (cR (cB Tryd.f6))))))))))))))))) (mkS [(7, .pointer (some ⟨0, 0, none⟩)), (8, .pointer (some ⟨1, 0, none⟩)), (9, .int .u8 x.1), (10, .int .u32 x.2.1), (12, .pointer (some ⟨2, 0, none⟩)), (13, .bool x.2.2.1), (14, .int .i64 x.2.2.2.1), (90, .bool x.2.2.2.2.1)] [(0, .cells [.int .u8 x.2.2.2.2.2.1, .int .u32 x.2.2.2.2.2.2.1, .bool true, .slice none 0 0, ls 5 false enc36 x.2.2.2.2.2.2.2.1] 36 5), (1, .cells [.int .u8 x.2.2.2.2.2.2.2.2.1, .int .u32 x.2.2.2.2.2.2.2.2.2.1, .bool x.2.2.2.2.2.2.2.2.2.2.1, ls 1 false (encI .u8) x.2.2.2.2.2.2.2.2.2.2.2.1, ls 5 false enc36 x.2.2.2.2.2.2.2.2.2.2.2.2.1] 36 5), (2, .cells [.int .u8 x.2.2.2.2.2.2.2.2.2.2.2.2.2.1, .int .u32 x.2.2.2.2.2.2.2.2.2.2.2.2.2.2.1, .bool x.2.2.2.2.2.2.2.2.2.2.2.2.2.2.2.1, ls 1 false (encI .u8) x.2.2.2.2.2.2.2.2.2.2.2.2.2.2.2.2.1, ls 5 false enc36 x.2.2.2.2.2.2.2.2.2.2.2.2.2.2.2.2.2] 36 5)] 3 []) (Kblock 1 (Kseq Tryd.prog w0 S 146 (cR (cR (cL (cL (cR (cL (cR (cR (cR (cR (cR (cR (cR (cR (cB Tryd.f6))))))))))))))) (Kloop Tryd.prog w0 S 146 (cL (cL (cR (cL (cR (cR (cR (cR (cR (cR (cR (cR (cB Tryd.f6))))))))))))) (Kblock 0 (Kseq Tryd.prog w0 S 146 (cR (cR (cR (cR (cR (cR (cR (cR (cR (cB Tryd.f6)))))))))) (KEnd Tryd.prog Tryd.f6 (PEnd w0 S (.returned (.bool r)))))))))) (fun (x : Int × Int × Bool × Int × Int × Int × (List S36) × Int × Int × Bool × (List Int) × (List S36) × Int × Int × Bool × (List Int) × (List S36)) (r : Bool) => ∀ (W0 w0 : World) (S : Own), Std W0 w0 S 0 → PTo Tryd.prog W0 10 #[] (.returned (.bool true)) → HL Tryd.prog w0 S 146 (cL (cL (cR (cL (cR (cR (cR (cR (cR (cR (cR (cR (cB Tryd.f6))))))))))))) (mkS [(7, .pointer (some ⟨0, 0, none⟩)), (8, .pointer (some ⟨1, 0, none⟩)), (9, .int .u8 x.1), (10, .int .u32 x.2.1), (12, .pointer (some ⟨2, 0, none⟩)), (13, .bool x.2.2.1), (14, .int .i64 x.2.2.2.1)] [(0, .cells [.int .u8 x.2.2.2.2.1, .int .u32 x.2.2.2.2.2.1, .bool true, .slice none 0 0, ls 5 false enc36 x.2.2.2.2.2.2.1] 36 5), (1, .cells [.int .u8 x.2.2.2.2.2.2.2.1, .int .u32 x.2.2.2.2.2.2.2.2.1, .bool x.2.2.2.2.2.2.2.2.2.1, ls 1 false (encI .u8) x.2.2.2.2.2.2.2.2.2.2.1, ls 5 false enc36 x.2.2.2.2.2.2.2.2.2.2.2.1] 36 5), (2, .cells [.int .u8 x.2.2.2.2.2.2.2.2.2.2.2.2.1, .int .u32 x.2.2.2.2.2.2.2.2.2.2.2.2.2.1, .bool x.2.2.2.2.2.2.2.2.2.2.2.2.2.2.1, ls 1 false (encI .u8) x.2.2.2.2.2.2.2.2.2.2.2.2.2.2.2.1, ls 5 false enc36 x.2.2.2.2.2.2.2.2.2.2.2.2.2.2.2.2] 36 5)] 3 []) (Kblock 0 (Kseq Tryd.prog w0 S 146 (cR (cR (cR (cR (cR (cR (cR (cR (cR (cB Tryd.f6)))))))))) (KEnd Tryd.prog Tryd.f6 (PEnd w0 S (.returned (.bool r))))))) ?_ ?_
  · intro g_law_L4 ih_law_L4 x r h
    intro W0 w0 S hS
    intro HLV
    haveI := hS.noEx Tryd.prog
    refine H.condS (b := x.2.2.2.2.1) (by kernel_rfl) (by kernel_rfl) (fun hb => ?_) (fun hb => ?_)
    · rw [if_pos hb] at h
      refine H.seqP (by kernel_rfl) ?_
      refine H.drawQ ?_
      refine HQ.goP 1 (by kernel_rfl) ?_
      refine HQ.boolP x.2.2.1 (by kernel_rfl) (by kernel_rfl) (fun hb => ?_) (fun hb => ?_)
      · rw [if_pos hb] at h
        refine HQ.goP 4 (by kernel_rfl) ?_
        obtain ⟨y10, hy, h⟩ := bindS h
        refine HQ.idx (.agg #[.int .u8 y10.c0, .int .u32 y10.c1, .bool y10.c2, ls 1 false (encI .u8) y10.c3, ls 5 false enc36 y10.c4]) hy (enc36_eq y10) (by kernel_rfl) ?_
        refine HQ.goP 1 (by kernel_rfl) ?_
        obtain ⟨y11, hy, h⟩ := bindS h
        refine HQ.callW hS [.agg [.keep, .keep, .keep, .list 1 false, .list 5 false], .agg [.keep, .keep, .keep, .list 1 false, .list 5 false]] (sameT_ok (x.2.2.2.2.2.2.2.2.2.2.2.2.2.1, x.2.2.2.2.2.2.2.2.2.2.2.2.2.2.1, x.2.2.2.2.2.2.2.2.2.2.2.2.2.2.2.1, x.2.2.2.2.2.2.2.2.2.2.2.2.2.2.2.2.1, x.2.2.2.2.2.2.2.2.2.2.2.2.2.2.2.2.2, y10.c0, y10.c1, y10.c2, y10.c3, y10.c4) y11 hy W0) (by kernel_rfl) (by kernel_rfl) ?_
        refine HQ.goP 1 (by kernel_rfl) ?_
        refine HQ.boolP y11 (by kernel_rfl) (by kernel_rfl) (fun hb => ?_) (fun hb => ?_)
        · rw [if_pos hb] at h
          refine HQ.goP 2 (by kernel_rfl) ?_
          obtain ⟨y12, hy, h⟩ := bindS h
          refine HQ.callW hS [.agg [.keep, .keep, .keep, .list 1 false, .list 5 false], .agg [.keep, .keep, .keep, .list 1 false, .list 5 false]] (sameT_ok (x.2.2.2.2.2.1, x.2.2.2.2.2.2.1, true, [], x.2.2.2.2.2.2.2.1, x.2.2.2.2.2.2.2.2.1, x.2.2.2.2.2.2.2.2.2.1, x.2.2.2.2.2.2.2.2.2.2.1, x.2.2.2.2.2.2.2.2.2.2.2.1, x.2.2.2.2.2.2.2.2.2.2.2.2.1) y12 hy W0) (by kernel_rfl) (by kernel_rfl) ?_
          refine HQ.goP 1 (by kernel_rfl) ?_
          obtain ⟨y13, hy, h⟩ := bindS h
          refine HQ.callW hS [.agg [.keep, .keep, .keep, .list 1 false, .list 5 false]] (flat_ok (x.2.2.2.2.2.1, x.2.2.2.2.2.2.1, true, [], x.2.2.2.2.2.2.2.1) y13 hy W0) (by kernel_rfl) (by kernel_rfl) ?_
          refine HQ.goP 1 (by kernel_rfl) ?_
          obtain ⟨y14, hy, h⟩ := bindS h
          refine HQ.callW hS [.agg [.keep, .keep, .keep, .list 1 false, .list 5 false]] (flat_ok (x.2.2.2.2.2.2.2.2.1, x.2.2.2.2.2.2.2.2.2.1, x.2.2.2.2.2.2.2.2.2.2.1, x.2.2.2.2.2.2.2.2.2.2.2.1, x.2.2.2.2.2.2.2.2.2.2.2.2.1) y14 hy W0) (by kernel_rfl) (by kernel_rfl) ?_
          obtain ⟨y15, hy, h⟩ := bindS h
          refine HQ.callW hS [.list 5 false, .list 5 false] (alike_ok (y13, y14) y15 hy W0) (by kernel_rfl) (by kernel_rfl) ?_
          refine HQ.goP 2 (by kernel_rfl) ?_
          refine HQ.boolP (y12 == y15) (by kernel_rfl) (by kernel_rfl) (fun hb => ?_) (fun hb => ?_)
          · rw [if_pos hb] at h
            refine HQ.goP 2 (by kernel_rfl) ?_
            obtain ⟨y16, hy, h⟩ := bindS h
            refine HQ.callW hS [.agg [.keep, .keep, .keep, .list 1 false, .list 5 false], .agg [.keep, .keep, .keep, .list 1 false, .list 5 false]] (sameT_ok (x.2.2.2.2.2.2.2.2.1, x.2.2.2.2.2.2.2.2.2.1, x.2.2.2.2.2.2.2.2.2.2.1, x.2.2.2.2.2.2.2.2.2.2.2.1, x.2.2.2.2.2.2.2.2.2.2.2.2.1, x.2.2.2.2.2.2.2.2.1, x.2.2.2.2.2.2.2.2.2.1, x.2.2.2.2.2.2.2.2.2.2.1, x.2.2.2.2.2.2.2.2.2.2.2.1, x.2.2.2.2.2.2.2.2.2.2.2.2.1) y16 hy W0) (by kernel_rfl) (by kernel_rfl) ?_
            refine HQ.goP 1 (by kernel_rfl) ?_
            refine HQ.boolP y16 (by kernel_rfl) (by kernel_rfl) (fun hb => ?_) (fun hb => ?_)
            · rw [if_pos hb] at h
              refine HQ.callW hS [] HLV (by kernel_rfl) (by kernel_rfl) ?_
              refine HQ.goP 2 (by kernel_rfl) ?_
              refine HQ.calm (by kernel_rfl) (by kernel_rfl) (by kernel_rfl) (by kernel_rfl) ?_
              refine Kseq_norm ?_
              exact H.ren hS [] _ _ _ (by kernel_rfl) (law_L6_ok true r h W0 w0 S hS HLV)
            · rw [if_neg (ne_true hb)] at h
              refine HQ.goP 3 (by kernel_rfl) ?_
              refine HQ.calm (by kernel_rfl) (by kernel_rfl) (by kernel_rfl) (by kernel_rfl) ?_
              refine Kseq_norm ?_
              exact H.ren hS [] _ _ _ (by kernel_rfl) (law_L6_ok false r h W0 w0 S hS HLV)
          · rw [if_neg (ne_true hb)] at h
            refine HQ.goP 8 (by kernel_rfl) ?_
            refine HQ.calm (by kernel_rfl) (by kernel_rfl) (by kernel_rfl) (by kernel_rfl) ?_
            refine Kseq_norm ?_
            exact H.ren hS [] _ _ _ (by kernel_rfl) (law_L6_ok false r h W0 w0 S hS HLV)
        · rw [if_neg (ne_true hb)] at h
          refine HQ.goP 19 (by kernel_rfl) ?_
          refine HQ.calm (by kernel_rfl) (by kernel_rfl) (by kernel_rfl) (by kernel_rfl) ?_
          refine Kseq_norm ?_
          exact H.ren hS [] _ _ _ (by kernel_rfl) (law_L6_ok false r h W0 w0 S hS HLV)
      · rw [if_neg (ne_true hb)] at h
        refine HQ.goP 28 (by kernel_rfl) ?_
        refine HQ.calm (by kernel_rfl) (by kernel_rfl) (by kernel_rfl) (by kernel_rfl) ?_
        refine Kseq_norm ?_
        exact H.ren hS [] _ _ _ (by kernel_rfl) (law_L6_ok false r h W0 w0 S hS HLV)
    · rw [if_neg (ne_true hb)] at h
      refine H.skipP (by kernel_rfl) ?_
      refine Kblock_norm ?_
      refine Kseq_norm ?_
      refine H.regP (by kernel_rfl) ?_
      refine HO.goP 3 (by kernel_rfl) ?_
      refine HO.done (by kernel_rfl) ?_
      refine Kloop_norm ?_
      exact HL.ren hS [0, 1, 2] _ _ _ (by kernel_rfl) (ih_law_L4 (x.1, x.2.1, x.2.2.1, (IntKind.i64.wrap (x.2.2.2.1 + 1)), x.2.2.2.2.2.1, x.2.2.2.2.2.2.1, x.2.2.2.2.2.2.2.1, x.2.2.2.2.2.2.2.2.1, x.2.2.2.2.2.2.2.2.2.1, x.2.2.2.2.2.2.2.2.2.2.1, x.2.2.2.2.2.2.2.2.2.2.2.1, x.2.2.2.2.2.2.2.2.2.2.2.2.1, x.2.2.2.2.2.2.2.2.2.2.2.2.2.1, x.2.2.2.2.2.2.2.2.2.2.2.2.2.2.1, x.2.2.2.2.2.2.2.2.2.2.2.2.2.2.2.1, x.2.2.2.2.2.2.2.2.2.2.2.2.2.2.2.2.1, x.2.2.2.2.2.2.2.2.2.2.2.2.2.2.2.2.2) r h W0 w0 S hS HLV)
  · intro g_law_L5 ih_law_L5 x r h
    intro W0 w0 S hS
    intro HLV
    haveI := hS.noEx Tryd.prog
    refine HL.round ?_
    refine H.seqP (by kernel_rfl) ?_
    refine H.seqP (by kernel_rfl) ?_
    refine H.regP (by kernel_rfl) ?_
    refine HO.goP 3 (by kernel_rfl) ?_
    refine HO.len (by kernel_rfl) (by kernel_rfl) (ls_size enc36 x.2.2.2.2.2.2.1) ?_
    refine HO.goP 1 (by kernel_rfl) ?_
    refine HO.done (by kernel_rfl) ?_
    refine Kseq_norm ?_
    refine H.condS (b := decide (x.2.2.2.1 < (x.2.2.2.2.2.2.1.length : Int))) (by kernel_rfl) (by kernel_rfl) (fun hb => ?_) (fun hb => ?_)
    · rw [if_pos (of_decide_eq_true hb)] at h
      refine H.skipP (by kernel_rfl) ?_
      refine Kseq_norm ?_
      refine H.seqP (by kernel_rfl) ?_
      refine H.blockI 1 (by kernel_rfl) ?_
      refine H.seqP (by kernel_rfl) ?_
      refine H.regP (by kernel_rfl) ?_
      refine HO.goP 3 (by kernel_rfl) ?_
      obtain ⟨y8, hy, h⟩ := bindS h
      refine HO.idx (.agg #[.int .u8 y8.c0, .int .u32 y8.c1, .bool y8.c2, ls 1 false (encI .u8) y8.c3, ls 5 false enc36 y8.c4]) hy (enc36_eq y8) (by kernel_rfl) ?_
      refine HO.goP 4 (by kernel_rfl) ?_
      refine HO.boolP (decide (y8.c0 = x.1)) (by kernel_rfl) (by kernel_rfl) (fun hb => ?_) (fun hb => ?_)
      · rw [if_pos (of_decide_eq_true hb)] at h
        refine HO.goP 3 (by kernel_rfl) ?_
        obtain ⟨y9, hy, h⟩ := bindS h
        refine HO.idx (.agg #[.int .u8 y9.c0, .int .u32 y9.c1, .bool y9.c2, ls 1 false (encI .u8) y9.c3, ls 5 false enc36 y9.c4]) hy (enc36_eq y9) (by kernel_rfl) ?_
        refine HO.goP 5 (by kernel_rfl) ?_
        refine HO.done (by kernel_rfl) ?_
        refine Kseq_norm ?_
        exact H.ren hS [0, 1, 2] _ _ _ (by kernel_rfl) (ih_law_L5 (x.1, x.2.1, x.2.2.1, x.2.2.2.1, (decide (y9.c1 = x.2.1)), x.2.2.2.2.1, x.2.2.2.2.2.1, x.2.2.2.2.2.2.1, x.2.2.2.2.2.2.2.1, x.2.2.2.2.2.2.2.2.1, x.2.2.2.2.2.2.2.2.2.1, x.2.2.2.2.2.2.2.2.2.2.1, x.2.2.2.2.2.2.2.2.2.2.2.1, x.2.2.2.2.2.2.2.2.2.2.2.2.1, x.2.2.2.2.2.2.2.2.2.2.2.2.2.1, x.2.2.2.2.2.2.2.2.2.2.2.2.2.2.1, x.2.2.2.2.2.2.2.2.2.2.2.2.2.2.2.1, x.2.2.2.2.2.2.2.2.2.2.2.2.2.2.2.2) r h W0 w0 S hS HLV)
      · rw [if_neg (of_decide_eq_false hb)] at h
        refine HO.goP 9 (by kernel_rfl) ?_
        refine HO.done (by kernel_rfl) ?_
        refine Kseq_norm ?_
        exact H.ren hS [0, 1, 2] _ _ _ (by kernel_rfl) (ih_law_L5 (x.1, x.2.1, x.2.2.1, x.2.2.2.1, false, x.2.2.2.2.1, x.2.2.2.2.2.1, x.2.2.2.2.2.2.1, x.2.2.2.2.2.2.2.1, x.2.2.2.2.2.2.2.2.1, x.2.2.2.2.2.2.2.2.2.1, x.2.2.2.2.2.2.2.2.2.2.1, x.2.2.2.2.2.2.2.2.2.2.2.1, x.2.2.2.2.2.2.2.2.2.2.2.2.1, x.2.2.2.2.2.2.2.2.2.2.2.2.2.1, x.2.2.2.2.2.2.2.2.2.2.2.2.2.2.1, x.2.2.2.2.2.2.2.2.2.2.2.2.2.2.2.1, x.2.2.2.2.2.2.2.2.2.2.2.2.2.2.2.2) r h W0 w0 S hS HLV)
    · rw [if_neg (of_decide_eq_false hb)] at h
      refine H.exitI 0 (by kernel_rfl) ?_
      refine Kseq_exit ?_
      refine Kloop_exit ?_
      refine Kblock_hit ?_
      refine Kseq_norm ?_
      refine H.seqP (by kernel_rfl) ?_
      refine H.drawQ ?_
      refine HQ.goP 2 (by kernel_rfl) ?_
      refine HQ.boolP (!x.2.2.1) (by kernel_rfl) (by kernel_rfl) (fun hb => ?_) (fun hb => ?_)
      · rw [if_pos hb] at h
        refine HQ.goP 4 (by kernel_rfl) ?_
        refine HQ.boolP (decide (x.2.2.2.2.2.2.2.2.2.2.2.2.2.1 = 0)) (by kernel_rfl) (by kernel_rfl) (fun hb => ?_) (fun hb => ?_)
        · rw [if_pos (of_decide_eq_true hb)] at h
          refine HQ.goP 2 (by kernel_rfl) ?_
          obtain ⟨y17, hy, h⟩ := bindS h
          refine HQ.callW hS [.agg [.keep, .keep, .keep, .list 1 false, .list 5 false], .agg [.keep, .keep, .keep, .list 1 false, .list 5 false]] (sameT_ok (x.2.2.2.2.1, x.2.2.2.2.2.1, true, [], x.2.2.2.2.2.2.1, x.2.2.2.2.2.2.2.1, x.2.2.2.2.2.2.2.2.1, x.2.2.2.2.2.2.2.2.2.1, x.2.2.2.2.2.2.2.2.2.2.1, x.2.2.2.2.2.2.2.2.2.2.2.1) y17 hy W0) (by kernel_rfl) (by kernel_rfl) ?_
          refine HQ.goP 1 (by kernel_rfl) ?_
          obtain ⟨y18, hy, h⟩ := bindS h
          refine HQ.callW hS [.agg [.keep, .keep, .keep, .list 1 false, .list 5 false]] (flat_ok (x.2.2.2.2.1, x.2.2.2.2.2.1, true, [], x.2.2.2.2.2.2.1) y18 hy W0) (by kernel_rfl) (by kernel_rfl) ?_
          refine HQ.goP 1 (by kernel_rfl) ?_
          obtain ⟨y19, hy, h⟩ := bindS h
          refine HQ.callW hS [.agg [.keep, .keep, .keep, .list 1 false, .list 5 false]] (flat_ok (x.2.2.2.2.2.2.2.1, x.2.2.2.2.2.2.2.2.1, x.2.2.2.2.2.2.2.2.2.1, x.2.2.2.2.2.2.2.2.2.2.1, x.2.2.2.2.2.2.2.2.2.2.2.1) y19 hy W0) (by kernel_rfl) (by kernel_rfl) ?_
          obtain ⟨y20, hy, h⟩ := bindS h
          refine HQ.callW hS [.list 5 false, .list 5 false] (alike_ok (y18, y19) y20 hy W0) (by kernel_rfl) (by kernel_rfl) ?_
          refine HQ.goP 2 (by kernel_rfl) ?_
          refine HQ.boolP (y17 == y20) (by kernel_rfl) (by kernel_rfl) (fun hb => ?_) (fun hb => ?_)
          · rw [if_pos hb] at h
            refine HQ.goP 2 (by kernel_rfl) ?_
            obtain ⟨y21, hy, h⟩ := bindS h
            refine HQ.callW hS [.agg [.keep, .keep, .keep, .list 1 false, .list 5 false], .agg [.keep, .keep, .keep, .list 1 false, .list 5 false]] (sameT_ok (x.2.2.2.2.1, x.2.2.2.2.2.1, true, [], x.2.2.2.2.2.2.1, x.2.2.2.2.1, x.2.2.2.2.2.1, true, [], x.2.2.2.2.2.2.1) y21 hy W0) (by kernel_rfl) (by kernel_rfl) ?_
            refine HQ.goP 1 (by kernel_rfl) ?_
            refine HQ.boolP y21 (by kernel_rfl) (by kernel_rfl) (fun hb => ?_) (fun hb => ?_)
            · rw [if_pos hb] at h
              refine HQ.callW hS [] HLV (by kernel_rfl) (by kernel_rfl) ?_
              refine HQ.goP 2 (by kernel_rfl) ?_
              refine HQ.calm (by kernel_rfl) (by kernel_rfl) (by kernel_rfl) (by kernel_rfl) ?_
              refine Kseq_norm ?_
              exact H.ren hS [] _ _ _ (by kernel_rfl) (law_L7_ok true r h W0 w0 S hS HLV)
            · rw [if_neg (ne_true hb)] at h
              refine HQ.goP 3 (by kernel_rfl) ?_
              refine HQ.calm (by kernel_rfl) (by kernel_rfl) (by kernel_rfl) (by kernel_rfl) ?_
              refine Kseq_norm ?_
              exact H.ren hS [] _ _ _ (by kernel_rfl) (law_L7_ok false r h W0 w0 S hS HLV)
          · rw [if_neg (ne_true hb)] at h
            refine HQ.goP 8 (by kernel_rfl) ?_
            refine HQ.calm (by kernel_rfl) (by kernel_rfl) (by kernel_rfl) (by kernel_rfl) ?_
            refine Kseq_norm ?_
            exact H.ren hS [] _ _ _ (by kernel_rfl) (law_L7_ok false r h W0 w0 S hS HLV)
        · rw [if_neg (of_decide_eq_false hb)] at h
          refine HQ.goP 19 (by kernel_rfl) ?_
          refine HQ.calm (by kernel_rfl) (by kernel_rfl) (by kernel_rfl) (by kernel_rfl) ?_
          refine Kseq_norm ?_
          exact H.ren hS [] _ _ _ (by kernel_rfl) (law_L7_ok false r h W0 w0 S hS HLV)
      · rw [if_neg (ne_true hb)] at h
        refine HQ.goP 24 (by kernel_rfl) ?_
        refine HQ.calm (by kernel_rfl) (by kernel_rfl) (by kernel_rfl) (by kernel_rfl) ?_
        refine Kseq_norm ?_
        exact H.ren hS [] _ _ _ (by kernel_rfl) (law_L7_ok false r h W0 w0 S hS HLV)
theorem law_L5_ok : ∀ (x : Int × Int × Bool × Int × Bool × Int × Int × (List S36) × Int × Int × Bool × (List Int) × (List S36) × Int × Int × Bool × (List Int) × (List S36)) (r : Bool), law_L5 x = some r → ∀ (W0 w0 : World) (S : Own), Std W0 w0 S 0 → PTo Tryd.prog W0 10 #[] (.returned (.bool true)) → H Tryd.prog w0 S 146 (cR (cL (cL (cR (cL (cL (cR (cL (cR (cR (cR (cR (cR (cR (cR (cR (cB Tryd.f6))))))))))))))))) (mkS [(7, .pointer (some ⟨0, 0, none⟩)), (8, .pointer (some ⟨1, 0, none⟩)), (9, .int .u8 x.1), (10, .int .u32 x.2.1), (12, .pointer (some ⟨2, 0, none⟩)), (13, .bool x.2.2.1), (14, .int .i64 x.2.2.2.1), (90, .bool x.2.2.2.2.1)] [(0, .cells [.int .u8 x.2.2.2.2.2.1, .int .u32 x.2.2.2.2.2.2.1, .bool true, .slice none 0 0, ls 5 false enc36 x.2.2.2.2.2.2.2.1] 36 5), (1, .cells [.int .u8 x.2.2.2.2.2.2.2.2.1, .int .u32 x.2.2.2.2.2.2.2.2.2.1, .bool x.2.2.2.2.2.2.2.2.2.2.1, ls 1 false (encI .u8) x.2.2.2.2.2.2.2.2.2.2.2.1, ls 5 false enc36 x.2.2.2.2.2.2.2.2.2.2.2.2.1] 36 5), (2, .cells [.int .u8 x.2.2.2.2.2.2.2.2.2.2.2.2.2.1, .int .u32 x.2.2.2.2.2.2.2.2.2.2.2.2.2.2.1, .bool x.2.2.2.2.2.2.2.2.2.2.2.2.2.2.2.1, ls 1 false (encI .u8) x.2.2.2.2.2.2.2.2.2.2.2.2.2.2.2.2.1, ls 5 false enc36 x.2.2.2.2.2.2.2.2.2.2.2.2.2.2.2.2.2] 36 5)] 3 []) (Kblock 1 (Kseq Tryd.prog w0 S 146 (cR (cR (cL (cL (cR (cL (cR (cR (cR (cR (cR (cR (cR (cR (cB Tryd.f6))))))))))))))) (Kloop Tryd.prog w0 S 146 (cL (cL (cR (cL (cR (cR (cR (cR (cR (cR (cR (cR (cB Tryd.f6))))))))))))) (Kblock 0 (Kseq Tryd.prog w0 S 146 (cR (cR (cR (cR (cR (cR (cR (cR (cR (cB Tryd.f6)))))))))) (KEnd Tryd.prog Tryd.f6 (PEnd w0 S (.returned (.bool r))))))))) := law_L5_grp.1
theorem law_L4_ok : ∀ (x : Int × Int × Bool × Int × Int × Int × (List S36) × Int × Int × Bool × (List Int) × (List S36) × Int × Int × Bool × (List Int) × (List S36)) (r : Bool), law_L4 x = some r → ∀ (W0 w0 : World) (S : Own), Std W0 w0 S 0 → PTo Tryd.prog W0 10 #[] (.returned (.bool true)) → HL Tryd.prog w0 S 146 (cL (cL (cR (cL (cR (cR (cR (cR (cR (cR (cR (cR (cB Tryd.f6))))))))))))) (mkS [(7, .pointer (some ⟨0, 0, none⟩)), (8, .pointer (some ⟨1, 0, none⟩)), (9, .int .u8 x.1), (10, .int .u32 x.2.1), (12, .pointer (some ⟨2, 0, none⟩)), (13, .bool x.2.2.1), (14, .int .i64 x.2.2.2.1)] [(0, .cells [.int .u8 x.2.2.2.2.1, .int .u32 x.2.2.2.2.2.1, .bool true, .slice none 0 0, ls 5 false enc36 x.2.2.2.2.2.2.1] 36 5), (1, .cells [.int .u8 x.2.2.2.2.2.2.2.1, .int .u32 x.2.2.2.2.2.2.2.2.1, .bool x.2.2.2.2.2.2.2.2.2.1, ls 1 false (encI .u8) x.2.2.2.2.2.2.2.2.2.2.1, ls 5 false enc36 x.2.2.2.2.2.2.2.2.2.2.2.1] 36 5), (2, .cells [.int .u8 x.2.2.2.2.2.2.2.2.2.2.2.2.1, .int .u32 x.2.2.2.2.2.2.2.2.2.2.2.2.2.1, .bool x.2.2.2.2.2.2.2.2.2.2.2.2.2.2.1, ls 1 false (encI .u8) x.2.2.2.2.2.2.2.2.2.2.2.2.2.2.2.1, ls 5 false enc36 x.2.2.2.2.2.2.2.2.2.2.2.2.2.2.2.2] 36 5)] 3 []) (Kblock 0 (Kseq Tryd.prog w0 S 146 (cR (cR (cR (cR (cR (cR (cR (cR (cR (cB Tryd.f6)))))))))) (KEnd Tryd.prog Tryd.f6 (PEnd w0 S (.returned (.bool r)))))) := law_L5_grp.2
def law_L3 (x : Int × Int × Int × Int × (List S36) × Int × Int × Bool × (List Int) × (List S36)) : Option (Bool) :=
  (find (x.2.2.1, x.2.2.2.1, true, [], x.2.2.2.2.1, x.1, x.2.1)) >>= fun y7 =>
  law_L4 (x.1, x.2.1, y7.2.2.2.2.2, 0, x.2.2.1, x.2.2.2.1, x.2.2.2.2.1, x.2.2.2.2.2.1, x.2.2.2.2.2.2.1, x.2.2.2.2.2.2.2.1, x.2.2.2.2.2.2.2.2.1, x.2.2.2.2.2.2.2.2.2, y7.1, y7.2.1, y7.2.2.1, y7.2.2.2.1, y7.2.2.2.2.1)
theorem law_L3_ok : ∀ (x : Int × Int × Int × Int × (List S36) × Int × Int × Bool × (List Int) × (List S36)) (r : Bool), law_L3 x = some r → ∀ (W0 w0 : World) (S : Own), Std W0 w0 S 0 → PTo Tryd.prog W0 10 #[] (.returned (.bool true)) → H Tryd.prog w0 S 146 (cR (cR (cR (cR (cR (cR (cR (cB Tryd.f6)))))))) (mkS [(7, .pointer (some ⟨0, 0, none⟩)), (8, .pointer (some ⟨1, 0, none⟩)), (9, .int .u8 x.1), (10, .int .u32 x.2.1)] [(0, .cells [.int .u8 x.2.2.1, .int .u32 x.2.2.2.1, .bool true, .slice none 0 0, ls 5 false enc36 x.2.2.2.2.1] 36 5), (1, .cells [.int .u8 x.2.2.2.2.2.1, .int .u32 x.2.2.2.2.2.2.1, .bool x.2.2.2.2.2.2.2.1, ls 1 false (encI .u8) x.2.2.2.2.2.2.2.2.1, ls 5 false enc36 x.2.2.2.2.2.2.2.2.2] 36 5)] 2 []) (KEnd Tryd.prog Tryd.f6 (PEnd w0 S (.returned (.bool r)))) := by
  intro x r h
  unfold law_L3 at h
  intro W0 w0 S hS
  intro HLV
  haveI := hS.noEx Tryd.prog
  refine H.seqP (by kernel_rfl) ?_
  refine H.regP (by kernel_rfl) ?_
  refine HO.goP 3 (by kernel_rfl) ?_
  obtain ⟨y7, hy, h⟩ := bindS h
  refine HO.callW hS [.agg [.keep, .keep, .keep, .list 1 false, .list 5 false], .keep, .keep] (find_ok (x.2.2.1, x.2.2.2.1, true, [], x.2.2.2.2.1, x.1, x.2.1) y7 hy W0) (by kernel_rfl) (by kernel_rfl) ?_
  refine HO.goP 6 (by kernel_rfl) ?_
  refine HO.done (by kernel_rfl) ?_
  refine Kseq_norm ?_
  refine H.seqP (by kernel_rfl) ?_
  refine H.seqP (by kernel_rfl) ?_
  refine H.regP (by kernel_rfl) ?_
  refine HO.goP 1 (by kernel_rfl) ?_
  refine HO.done (by kernel_rfl) ?_
  refine Kseq_norm ?_
  refine H.blockI 0 (by kernel_rfl) ?_
  refine H.loopP (by kernel_rfl) ?_
  exact HL.ren hS [0, 1, 2] _ _ _ (by kernel_rfl) (law_L4_ok (x.1, x.2.1, y7.2.2.2.2.2, 0, x.2.2.1, x.2.2.2.1, x.2.2.2.2.1, x.2.2.2.2.2.1, x.2.2.2.2.2.2.1, x.2.2.2.2.2.2.2.1, x.2.2.2.2.2.2.2.2.1, x.2.2.2.2.2.2.2.2.2, y7.1, y7.2.1, y7.2.2.1, y7.2.2.2.1, y7.2.2.2.2.1) r h W0 w0 S hS HLV)
def law_L2 (x : Int × Int × Bool × Int × Int × Int × Int × (List S36) × Int × Int × Bool × (List Int) × (List S36)) : Option (Bool) :=
  if x.2.2.1 = true then
    (rem' .i64 (IntKind.i64.wrap x.2.2.2.2.1) (x.2.2.2.2.2.2.2.1.length : Int)) >>= fun y5 =>
    (at' x.2.2.2.2.2.2.2.1 y5) >>= fun y6 =>
    law_L3 (y6.c0, y6.c1, x.2.2.2.2.2.1, x.2.2.2.2.2.2.1, x.2.2.2.2.2.2.2.1, x.2.2.2.2.2.2.2.2.1, x.2.2.2.2.2.2.2.2.2.1, x.2.2.2.2.2.2.2.2.2.2.1, x.2.2.2.2.2.2.2.2.2.2.2.1, x.2.2.2.2.2.2.2.2.2.2.2.2)
  else
    law_L3 (x.1, x.2.1, x.2.2.2.2.2.1, x.2.2.2.2.2.2.1, x.2.2.2.2.2.2.2.1, x.2.2.2.2.2.2.2.2.1, x.2.2.2.2.2.2.2.2.2.1, x.2.2.2.2.2.2.2.2.2.2.1, x.2.2.2.2.2.2.2.2.2.2.2.1, x.2.2.2.2.2.2.2.2.2.2.2.2)
theorem law_L2_ok : ∀ (x : Int × Int × Bool × Int × Int × Int × Int × (List S36) × Int × Int × Bool × (List Int) × (List S36)) (r : Bool), law_L2 x = some r → ∀ (W0 w0 : World) (S : Own), Std W0 w0 S 0 → PTo Tryd.prog W0 10 #[] (.returned (.bool true)) → H Tryd.prog w0 S 146 (cR (cL (cR (cR (cR (cR (cR (cR (cB Tryd.f6))))))))) (mkS [(5, .pointer (some ⟨0, 0, none⟩)), (7, .pointer (some ⟨1, 0, none⟩)), (8, .pointer (some ⟨2, 0, none⟩)), (9, .int .u8 x.1), (10, .int .u32 x.2.1), (43, .bool x.2.2.1)] [(0, .cells [.int .u8 x.2.2.2.1, .int .u8 x.2.2.2.2.1] 58 2), (1, .cells [.int .u8 x.2.2.2.2.2.1, .int .u32 x.2.2.2.2.2.2.1, .bool true, .slice none 0 0, ls 5 false enc36 x.2.2.2.2.2.2.2.1] 36 5), (2, .cells [.int .u8 x.2.2.2.2.2.2.2.2.1, .int .u32 x.2.2.2.2.2.2.2.2.2.1, .bool x.2.2.2.2.2.2.2.2.2.2.1, ls 1 false (encI .u8) x.2.2.2.2.2.2.2.2.2.2.2.1, ls 5 false enc36 x.2.2.2.2.2.2.2.2.2.2.2.2] 36 5)] 3 []) (Kseq Tryd.prog w0 S 146 (cR (cR (cR (cR (cR (cR (cR (cB Tryd.f6)))))))) (KEnd Tryd.prog Tryd.f6 (PEnd w0 S (.returned (.bool r))))) := by
  intro x r h
  unfold law_L2 at h
  intro W0 w0 S hS
  intro HLV
  haveI := hS.noEx Tryd.prog
  refine H.condS (b := x.2.2.1) (by kernel_rfl) (by kernel_rfl) (fun hb => ?_) (fun hb => ?_)
  · rw [if_pos hb] at h
    refine H.seqP (by kernel_rfl) ?_
    refine H.drawQ ?_
    refine HQ.goP 7 (by kernel_rfl) ?_
    refine HQ.len (by kernel_rfl) (ls_size enc36 x.2.2.2.2.2.2.2.1) ?_
    obtain ⟨y5, hy, h⟩ := bindS h
    refine HQ.valA (rem_aop hy (by kernel_rfl)) ?_
    obtain ⟨y6, hy, h⟩ := bindS h
    refine HQ.idx (.agg #[.int .u8 y6.c0, .int .u32 y6.c1, .bool y6.c2, ls 1 false (encI .u8) y6.c3, ls 5 false enc36 y6.c4]) hy (enc36_eq y6) (by kernel_rfl) ?_
    refine HQ.goP 3 (by kernel_rfl) ?_
    refine HQ.done (by kernel_rfl) (by kernel_rfl) (by kernel_rfl) ?_
    refine Kseq_norm ?_
    refine H.drawQ ?_
    refine HQ.goP 6 (by kernel_rfl) ?_
    refine HQ.calm (by kernel_rfl) (by kernel_rfl) (by kernel_rfl) (by kernel_rfl) ?_
    refine Kseq_norm ?_
    exact H.ren hS [1, 2] _ _ _ (by kernel_rfl) (law_L3_ok (y6.c0, y6.c1, x.2.2.2.2.2.1, x.2.2.2.2.2.2.1, x.2.2.2.2.2.2.2.1, x.2.2.2.2.2.2.2.2.1, x.2.2.2.2.2.2.2.2.2.1, x.2.2.2.2.2.2.2.2.2.2.1, x.2.2.2.2.2.2.2.2.2.2.2.1, x.2.2.2.2.2.2.2.2.2.2.2.2) r h W0 w0 S hS HLV)
  · rw [if_neg (ne_true hb)] at h
    refine H.skipP (by kernel_rfl) ?_
    refine Kseq_norm ?_
    exact H.ren hS [1, 2] _ _ _ (by kernel_rfl) (law_L3_ok (x.1, x.2.1, x.2.2.2.2.2.1, x.2.2.2.2.2.2.1, x.2.2.2.2.2.2.2.1, x.2.2.2.2.2.2.2.2.1, x.2.2.2.2.2.2.2.2.2.1, x.2.2.2.2.2.2.2.2.2.2.1, x.2.2.2.2.2.2.2.2.2.2.2.1, x.2.2.2.2.2.2.2.2.2.2.2.2) r h W0 w0 S hS HLV)
def law_L1 (x : (List S65) × (List S65) × Bool × Int × Int) : Option (Bool) :=
  if x.2.2.1 = true then
    some true
  else
    (tOf x.1) >>= fun y3 =>
    (tOf x.2.1) >>= fun y4 =>
    if 0 < (y3.2.2.2.2.length : Int) then
      law_L2 ((remI .u8 x.2.2.2.1 4), (IntKind.u32.wrap (remI .u8 x.2.2.2.2 8)), (decide (128 ≤ x.2.2.2.1)), x.2.2.2.1, x.2.2.2.2, y3.1, y3.2.1, y3.2.2.2.2, y4.1, y4.2.1, y4.2.2.1, y4.2.2.2.1, y4.2.2.2.2)
    else
      law_L2 ((remI .u8 x.2.2.2.1 4), (IntKind.u32.wrap (remI .u8 x.2.2.2.2 8)), false, x.2.2.2.1, x.2.2.2.2, y3.1, y3.2.1, y3.2.2.2.2, y4.1, y4.2.1, y4.2.2.1, y4.2.2.2.1, y4.2.2.2.2)
theorem law_L1_ok : ∀ (x : (List S65) × (List S65) × Bool × Int × Int) (r : Bool), law_L1 x = some r → ∀ (W0 w0 : World) (S : Own), Std W0 w0 S 0 → PTo Tryd.prog W0 10 #[] (.returned (.bool true)) → H Tryd.prog w0 S 146 (cR (cL (cR (cB Tryd.f6)))) (mkS [(0, ls 5 false enc65 x.1), (1, ls 5 false enc65 x.2.1), (5, .pointer (some ⟨0, 0, none⟩)), (20, .bool x.2.2.1)] [(0, .cells [.int .u8 x.2.2.2.1, .int .u8 x.2.2.2.2] 58 2)] 1 []) (Kseq Tryd.prog w0 S 146 (cR (cR (cB Tryd.f6))) (KEnd Tryd.prog Tryd.f6 (PEnd w0 S (.returned (.bool r))))) := by
  intro x r h
  unfold law_L1 at h
  intro W0 w0 S hS
  intro HLV
  haveI := hS.noEx Tryd.prog
  refine H.condS (b := x.2.2.1) (by kernel_rfl) (by kernel_rfl) (fun hb => ?_) (fun hb => ?_)
  · rw [if_pos hb] at h
    refine H.seqP (by kernel_rfl) ?_
    refine H.regP (by kernel_rfl) ?_
    refine HO.callW hS [] HLV (by kernel_rfl) (by kernel_rfl) ?_
    refine HO.goP 1 (by kernel_rfl) ?_
    refine HO.done (by kernel_rfl) ?_
    refine Kseq_norm ?_
    refine H.retP (by kernel_rfl) ?_
    refine Kseq_ret ?_
    obtain rfl := Option.some.inj h
    exact KEnd.ret (by kernel_rfl) (by kernel_rfl) (by kernel_rfl)
  · rw [if_neg (ne_true hb)] at h
    refine H.skipP (by kernel_rfl) ?_
    refine Kseq_norm ?_
    refine H.seqP (by kernel_rfl) ?_
    refine H.regP (by kernel_rfl) ?_
    refine HO.goP 1 (by kernel_rfl) ?_
    obtain ⟨y3, hy, h⟩ := bindS h
    refine HO.callW hS [.list 5 false] (tOf_ok x.1 y3 hy W0) (by kernel_rfl) (by kernel_rfl) ?_
    refine HO.goP 1 (by kernel_rfl) ?_
    obtain ⟨y4, hy, h⟩ := bindS h
    refine HO.callW hS [.list 5 false] (tOf_ok x.2.1 y4 hy W0) (by kernel_rfl) (by kernel_rfl) ?_
    refine HO.goP 4 (by kernel_rfl) ?_
    refine HO.done (by kernel_rfl) ?_
    refine Kseq_norm ?_
    refine H.seqP (by kernel_rfl) ?_
    refine H.regP (by kernel_rfl) ?_
    refine HO.goP 2 (by kernel_rfl) ?_
    refine HO.done (by kernel_rfl) ?_
    refine Kseq_norm ?_
    refine H.seqP (by kernel_rfl) ?_
    refine H.regP (by kernel_rfl) ?_
    refine HO.goP 2 (by kernel_rfl) ?_
    refine HO.done (by kernel_rfl) ?_
    refine Kseq_norm ?_
    refine H.seqP (by kernel_rfl) ?_
    refine H.drawQ ?_
    refine HQ.goP 9 (by kernel_rfl) ?_
    refine HQ.calm (by kernel_rfl) (by kernel_rfl) (by kernel_rfl) (by kernel_rfl) ?_
    refine Kseq_norm ?_
    refine H.seqP (by kernel_rfl) ?_
    refine H.seqP (by kernel_rfl) ?_
    refine H.regP (by kernel_rfl) ?_
    refine HO.goP 2 (by kernel_rfl) ?_
    refine HO.len (by kernel_rfl) (by kernel_rfl) (ls_size enc36 y3.2.2.2.2) ?_
    refine HO.goP 1 (by kernel_rfl) ?_
    refine HO.boolP (decide (0 < (y3.2.2.2.2.length : Int))) (by kernel_rfl) (by kernel_rfl) (fun hb => ?_) (fun hb => ?_)
    · rw [if_pos (of_decide_eq_true hb)] at h
      refine HO.goP 4 (by kernel_rfl) ?_
      refine HO.done (by kernel_rfl) ?_
      refine Kseq_norm ?_
      exact H.ren hS [0, 1, 2] _ _ _ (by kernel_rfl) (law_L2_ok ((remI .u8 x.2.2.2.1 4), (IntKind.u32.wrap (remI .u8 x.2.2.2.2 8)), (decide (128 ≤ x.2.2.2.1)), x.2.2.2.1, x.2.2.2.2, y3.1, y3.2.1, y3.2.2.2.2, y4.1, y4.2.1, y4.2.2.1, y4.2.2.2.1, y4.2.2.2.2) r h W0 w0 S hS HLV)
    · rw [if_neg (of_decide_eq_false hb)] at h
      refine HO.goP 4 (by kernel_rfl) ?_
      refine HO.done (by kernel_rfl) ?_
      refine Kseq_norm ?_
      exact H.ren hS [0, 1, 2] _ _ _ (by kernel_rfl) (law_L2_ok ((remI .u8 x.2.2.2.1 4), (IntKind.u32.wrap (remI .u8 x.2.2.2.2 8)), false, x.2.2.2.1, x.2.2.2.2, y3.1, y3.2.1, y3.2.2.2.2, y4.1, y4.2.1, y4.2.2.1, y4.2.2.2.1, y4.2.2.2.2) r h W0 w0 S hS HLV)
def law (x : (List S65) × (List S65) × Int × Int) : Option (Bool) :=
  (big x.1) >>= fun y1 =>
  if y1 = true then
    law_L1 (x.1, x.2.1, true, x.2.2.1, x.2.2.2)
  else
    (big x.2.1) >>= fun y2 =>
    law_L1 (x.1, x.2.1, y2, x.2.2.1, x.2.2.2)
theorem law_ok : ∀ (x : (List S65) × (List S65) × Int × Int) (r : Bool), law x = some r → ∀ W0 : World, PTo Tryd.prog W0 10 #[] (.returned (.bool true)) → PTo Tryd.prog W0 6 #[ls 5 false enc65 x.1, ls 5 false enc65 x.2.1, .agg #[.int .u8 x.2.2.1, .int .u8 x.2.2.2]] (.returned (.bool r)) := by
  intro x r h
  unfold law at h
  intro W0
  intro HLV
  refine PTo.of_body (fn := Tryd.f6) (code := cB Tryd.f6) Tryd.func6 rfl rfl ?_
  intro w0 S hS
  haveI := hS.noEx Tryd.prog
  refine H.seqP (by kernel_rfl) ?_
  refine H.regP (by kernel_rfl) ?_
  refine HO.goP 2 (by kernel_rfl) ?_
  refine HO.done (by kernel_rfl) ?_
  refine Kseq_norm ?_
  refine H.seqP (by kernel_rfl) ?_
  refine H.seqP (by kernel_rfl) ?_
  refine H.regP (by kernel_rfl) ?_
  refine HO.goP 1 (by kernel_rfl) ?_
  obtain ⟨y1, hy, h⟩ := bindS h
  refine HO.callW hS [.list 5 false] (big_ok x.1 y1 hy W0) (by kernel_rfl) (by kernel_rfl) ?_
  refine HO.boolP y1 (by kernel_rfl) (by kernel_rfl) (fun hb => ?_) (fun hb => ?_)
  · rw [if_pos hb] at h
    refine HO.goP 3 (by kernel_rfl) ?_
    refine HO.done (by kernel_rfl) ?_
    refine Kseq_norm ?_
    exact H.ren hS [0] _ _ _ (by kernel_rfl) (law_L1_ok (x.1, x.2.1, true, x.2.2.1, x.2.2.2) r h W0 w0 S hS HLV)
  · rw [if_neg (ne_true hb)] at h
    refine HO.goP 1 (by kernel_rfl) ?_
    obtain ⟨y2, hy, h⟩ := bindS h
    refine HO.callW hS [.list 5 false] (big_ok x.2.1 y2 hy W0) (by kernel_rfl) (by kernel_rfl) ?_
    refine HO.goP 1 (by kernel_rfl) ?_
    refine HO.done (by kernel_rfl) ?_
    refine Kseq_norm ?_
    exact H.ren hS [0] _ _ _ (by kernel_rfl) (law_L1_ok (x.1, x.2.1, y2, x.2.2.1, x.2.2.2) r h W0 w0 S hS HLV)
end Vf
