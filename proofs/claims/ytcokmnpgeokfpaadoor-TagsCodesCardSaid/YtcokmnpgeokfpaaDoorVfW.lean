import Derived.Test.YtcokmnpgeokfpaaDoorProg
import Derived.Test.YtcokmnpgeokfpaaDoorVxD
set_option linter.unusedVariables false
set_option linter.unusedSimpArgs false
set_option maxHeartbeats 4000000
namespace Vf
open Go Go.Vx Go.Proofs
structure S65 where
  mk ::
  c0 : Int
  c1 : Int
  c2 : Bool
  c3 : (List Int)
  c4 : Int
  deriving Inhabited
def enc65 (x : S65) : Value := .agg #[.int .u8 x.c0, .int .u32 x.c1, .bool x.c2, ls 1 false (encI .u8) x.c3, .int .u8 x.c4]
theorem enc65_eq (x : S65) : enc65 x = .agg #[.int .u8 x.c0, .int .u32 x.c1, .bool x.c2, ls 1 false (encI .u8) x.c3, .int .u8 x.c4] := rfl
theorem enc65_ok : EncOk 5 true enc65 := by
  refine ⟨fun x => by rw [enc65_eq]; rfl, fun x c h => ?_, fun x => ⟨_, enc65_eq x⟩⟩
  rw [enc65_eq] at h
  simp only [Value.cells, List.mem_cons, List.not_mem_nil, or_false] at h
  rcases h with rfl | rfl | rfl | rfl | rfl <;> exact ⟨rfl, rfl⟩
structure S36 where
  mk ::
  c0 : Int
  c1 : Int
  c2 : Bool
  c3 : (List Int)
  c4 : (List S36)
  deriving Inhabited
mutual
def enc36 : S36 → Value
  | .mk c0 c1 c2 c3 c4 => .agg #[.int .u8 c0, .int .u32 c1, .bool c2, ls 1 false (encI .u8) c3, lst 5 false (enc36L c4).toArray]
def enc36L : List S36 → List Value
  | [] => []
  | a :: l => enc36 a :: enc36L l
end
theorem enc36L_eq : ∀ l : List S36, enc36L l = l.map enc36
  | [] => by rw [enc36L]; rfl
  | a :: l => by rw [enc36L, enc36L_eq l]; rfl
theorem enc36_eq (x : S36) : enc36 x = .agg #[.int .u8 x.c0, .int .u32 x.c1, .bool x.c2, ls 1 false (encI .u8) x.c3, ls 5 false enc36 x.c4] := by
  cases x
  rw [enc36]
  simp only [enc36L_eq]
  rfl
theorem enc36_ok : EncOk 5 true enc36 := by
  refine ⟨fun x => by rw [enc36_eq]; rfl, fun x c h => ?_, fun x => ⟨_, enc36_eq x⟩⟩
  rw [enc36_eq] at h
  simp only [Value.cells, List.mem_cons, List.not_mem_nil, or_false] at h
  rcases h with rfl | rfl | rfl | rfl | rfl <;> exact ⟨rfl, rfl⟩
structure S111 where
  mk ::
  c0 : Int
  c1 : Int
  c2 : Bool
  c3 : ByteArray
  c4 : Int
  deriving Inhabited
def enc111 (x : S111) : Value := .agg #[.int .i64 x.c0, .int .i64 x.c1, .bool x.c2, .string x.c3, .int .i64 x.c4]
theorem enc111_eq (x : S111) : enc111 x = .agg #[.int .i64 x.c0, .int .i64 x.c1, .bool x.c2, .string x.c3, .int .i64 x.c4] := rfl
theorem enc111_ok : EncOk 5 true enc111 := by
  refine ⟨fun x => by rw [enc111_eq]; rfl, fun x c h => ?_, fun x => ⟨_, enc111_eq x⟩⟩
  rw [enc111_eq] at h
  simp only [Value.cells, List.mem_cons, List.not_mem_nil, or_false] at h
  rcases h with rfl | rfl | rfl | rfl | rfl <;> exact ⟨rfl, rfl⟩
def cloneB (x : List Int) : Option (List Int) := app' 1 [] x
theorem cloneB_L1 (x : List Int) : ∀ (W0 w0 : World) (S : Own), Std W0 w0 S 0 → H Tryd.prog w0 S 8 (cR (cR (cR (cB Tryd.f87)))) (mkS [(2, tl 1 0 (encI .u8) x)] [] 1 [0]) (KEnd Tryd.prog Tryd.f87 (PEnd w0 S (.returned (ls 1 false (encI .u8) x)))) := by
  intro W0 w0 S hS
  haveI := hS.noEx Tryd.prog
  refine H.retP (by kernel_rfl) ?_
  exact KEnd.retW (v := tl 1 0 (encI .u8) x) (.list 1 false) (by kernel_rfl) (by kernel_rfl) (by kernel_rfl) (by kernel_rfl)
theorem cloneB_ok : ∀ (x : List Int) (r : List Int), cloneB x = some r → ∀ W0 : World, PTo Tryd.prog W0 87 #[ls 1 false (encI .u8) x] (.returned (ls 1 false (encI .u8) r)) := by
  intro x r h
  unfold cloneB at h
  intro W0
  refine PTo.of_body (fn := Tryd.f87) (code := cB Tryd.f87) Tryd.func87 rfl rfl ?_
  intro w0 S hS
  haveI := hS.noEx Tryd.prog
  refine H.seqP (by kernel_rfl) ?_
  refine H.regP (by kernel_rfl) ?_
  refine HO.goP 1 (by kernel_rfl) ?_
  refine HO.done (by kernel_rfl) ?_
  refine Kseq_norm ?_
  refine H.seqP (by kernel_rfl) ?_
  refine H.seqP (by kernel_rfl) ?_
  refine H.regP (by kernel_rfl) ?_
  refine HO.goP 1 (by kernel_rfl) ?_
  refine HO.nilB (eq := true) (es := (x.map (encI .u8)).toArray) (by kernel_rfl) (fun b hb0 => ?_)
  cases b with
  | true =>
    have hx : x = [] := List.eq_nil_of_length_eq_zero (by simpa using hb0 rfl)
    subst hx
    have hr : r = [] := by
      have := (app'_spec h).2
      simpa using this
    subst hr
    refine HO.done (by kernel_rfl) ?_
    refine Kseq_norm ?_
    refine H.condT (by kernel_rfl) (by kernel_rfl) ?_
    refine H.seqP (by kernel_rfl) ?_
    refine H.regP (by kernel_rfl) ?_
    refine HO.goP 1 (by kernel_rfl) ?_
    refine HO.done (by kernel_rfl) ?_
    refine Kseq_norm ?_
    refine H.retP (by kernel_rfl) ?_
    refine Kseq_ret ?_
    exact KEnd.retW (v := .slice none 0 0) (.list 1 false) (by kernel_rfl) (by kernel_rfl) (by kernel_rfl) (by kernel_rfl)
  | false =>
    refine HO.done (by kernel_rfl) ?_
    refine Kseq_norm ?_
    refine H.condF (by kernel_rfl) (by kernel_rfl) ?_
    refine H.skipP (by kernel_rfl) ?_
    refine Kseq_norm ?_
    refine H.seqP (by kernel_rfl) ?_
    refine H.regP (by kernel_rfl) ?_
    refine HO.goP 2 (by kernel_rfl) ?_
    refine HO.tkz [5] 0 0 0 1 5 ([].map (encI .u8)).toArray [] (by kernel_rfl) ?_
    have hr := (app'_spec h).2
    by_cases hb : x.length = 0
    · have hr0 : r = [] := by rw [hr]; simpa using List.eq_nil_of_length_eq_zero hb
      subst hr0
      refine HO.valA (appN_aop (ag := false) [] (encI_ok .u8) h hb (by kernel_rfl)) ?_
      refine HO.goP 1 (by kernel_rfl) ?_
      refine HO.done (by kernel_rfl) ?_
      refine Kseq_norm ?_
      exact H.ren hS [1] _ _ _ (by kernel_rfl) (cloneB_L1 [] W0 w0 S hS)
    · refine HO.effA (appL_aop (ag := false) [] (encI_ok .u8) h hb (by kernel_rfl)) ?_
      refine HO.goP 1 (by kernel_rfl) ?_
      refine HO.done (by kernel_rfl) ?_
      refine Kseq_norm ?_
      exact H.ren hS [2] _ _ _ (by kernel_rfl) (cloneB_L1 r W0 w0 S hS)

mutual
def big_L2 (x : (List S65) × Int × Int × Bool) : Option (Bool) :=
  if x.2.2.2 = true then
    (at' x.1 x.2.2.1) >>= fun y1 =>
    big_L1 (x.1, (IntKind.i64.wrap ((IntKind.i64.wrap (x.2.1 + 1)) + (quoI .i64 (y1.c3.length : Int) 8))), (IntKind.i64.wrap (x.2.2.1 + 1)))
  else
    some (decide (1000 ≤ x.2.1))
partial_fixpoint
def big_L1 (x : (List S65) × Int × Int) : Option (Bool) :=
  if x.2.2 < (x.1.length : Int) then
    big_L2 (x.1, x.2.1, x.2.2, (decide (x.2.1 < 1000)))
  else
    big_L2 (x.1, x.2.1, x.2.2, false)
partial_fixpoint
end
theorem big_L2_grp : (∀ (x : (List S65) × Int × Int × Bool) (r : Bool), big_L2 x = some r → ∀ (W0 w0 : World) (S : Own), Std W0 w0 S 0 → H Tryd.prog w0 S 27 (cR (cL (cL (cL (cR (cL (cR (cR (cB Tryd.f14))))))))) (mkS [(0, ls 5 false enc65 x.1), (3, .int .i64 x.2.1), (4, .int .i64 x.2.2.1), (12, .bool x.2.2.2)] [] 0 []) (Kseq Tryd.prog w0 S 27 (cR (cL (cL (cR (cL (cR (cR (cB Tryd.f14)))))))) (Kloop Tryd.prog w0 S 27 (cL (cL (cR (cL (cR (cR (cB Tryd.f14))))))) (Kblock 0 (Kseq Tryd.prog w0 S 27 (cR (cR (cR (cB Tryd.f14)))) (KEnd Tryd.prog Tryd.f14 (PEnd w0 S (.returned (.bool r))))))))) ∧
  (∀ (x : (List S65) × Int × Int) (r : Bool), big_L1 x = some r → ∀ (W0 w0 : World) (S : Own), Std W0 w0 S 0 → HL Tryd.prog w0 S 27 (cL (cL (cR (cL (cR (cR (cB Tryd.f14))))))) (mkS [(0, ls 5 false enc65 x.1), (3, .int .i64 x.2.1), (4, .int .i64 x.2.2)] [] 0 []) (Kblock 0 (Kseq Tryd.prog w0 S 27 (cR (cR (cR (cB Tryd.f14)))) (KEnd Tryd.prog Tryd.f14 (PEnd w0 S (.returned (.bool r))))))) := by
  refine big_L2.mutual_partial_correctness (fun (x : (List S65) × Int × Int × Bool) (r : Bool) => ∀ (W0 w0 : World) (S : Own), Std W0 w0 S 0 → H Tryd.prog w0 S 27 (cR (cL (cL (cL (cR (cL (cR (cR (cB Tryd.f14))))))))) (mkS [(0, ls 5 false enc65 x.1), (3, .int .i64 x.2.1), (4, .int .i64 x.2.2.1), (12, .bool x.2.2.2)] [] 0 []) (Kseq Tryd.prog w0 S 27 (cR (cL (cL (cR (cL (cR (cR (cB Tryd.f14)))))))) (Kloop Tryd.prog w0 S 27 (cL (cL (cR (cL (cR (cR (cB Tryd.f14))))))) (Kblock 0 (Kseq Tryd.prog w0 S 27 (cR (cR (cR (cB Tryd.f14)))) (KEnd Tryd.prog Tryd.f14 (PEnd w0 S (.returned (.bool r))))))))) (fun (x : (List S65) × Int × Int) (r : Bool) => ∀ (W0 w0 : World) (S : Own), Std W0 w0 S 0 → HL Tryd.prog w0 S 27 (cL (cL (cR (cL (cR (cR (cB Tryd.f14))))))) (mkS [(0, ls 5 false enc65 x.1), (3, .int .i64 x.2.1), (4, .int .i64 x.2.2)] [] 0 []) (Kblock 0 (Kseq Tryd.prog w0 S 27 (cR (cR (cR (cB Tryd.f14)))) (KEnd Tryd.prog Tryd.f14 (PEnd w0 S (.returned (.bool r))))))) ?_ ?_
  · intro g_big_L1 ih_big_L1 x r h
    intro W0 w0 S hS
    haveI := hS.noEx Tryd.prog
    refine H.condS (b := x.2.2.2) (by kernel_rfl) (by kernel_rfl) (fun hb => ?_) (fun hb => ?_)
    · rw [if_pos hb] at h
      refine H.skipP (by kernel_rfl) ?_
      refine Kseq_norm ?_
      refine H.seqP (by kernel_rfl) ?_
      refine H.blockI 1 (by kernel_rfl) ?_
      refine H.regP (by kernel_rfl) ?_
      refine HO.goP 4 (by kernel_rfl) ?_
      obtain ⟨y1, hy, h⟩ := bindS h
      refine HO.idx (.agg #[.int .u8 y1.c0, .int .u32 y1.c1, .bool y1.c2, ls 1 false (encI .u8) y1.c3, .int .u8 y1.c4]) hy (enc65_eq y1) (by kernel_rfl) ?_
      refine HO.goP 2 (by kernel_rfl) ?_
      refine HO.len (by kernel_rfl) (by kernel_rfl) (ls_size (encI .u8) y1.c3) ?_
      refine HO.goP 3 (by kernel_rfl) ?_
      refine HO.done (by kernel_rfl) ?_
      refine Kblock_norm ?_
      refine Kseq_norm ?_
      refine H.regP (by kernel_rfl) ?_
      refine HO.goP 3 (by kernel_rfl) ?_
      refine HO.done (by kernel_rfl) ?_
      refine Kloop_norm ?_
      exact HL.ren hS [] _ _ _ (by kernel_rfl) (ih_big_L1 (x.1, (IntKind.i64.wrap ((IntKind.i64.wrap (x.2.1 + 1)) + (quoI .i64 (y1.c3.length : Int) 8))), (IntKind.i64.wrap (x.2.2.1 + 1))) r h W0 w0 S hS)
    · rw [if_neg (ne_true hb)] at h
      refine H.exitI 0 (by kernel_rfl) ?_
      refine Kseq_exit ?_
      refine Kloop_exit ?_
      refine Kblock_hit ?_
      refine Kseq_norm ?_
      refine H.seqP (by kernel_rfl) ?_
      refine H.regP (by kernel_rfl) ?_
      refine HO.goP 3 (by kernel_rfl) ?_
      refine HO.done (by kernel_rfl) ?_
      refine Kseq_norm ?_
      refine H.retP (by kernel_rfl) ?_
      obtain rfl := Option.some.inj h
      exact KEnd.ret (by kernel_rfl) (by kernel_rfl) (by kernel_rfl)
  · intro g_big_L2 ih_big_L2 x r h
    intro W0 w0 S hS
    haveI := hS.noEx Tryd.prog
    refine HL.round ?_
    refine H.seqP (by kernel_rfl) ?_
    refine H.seqP (by kernel_rfl) ?_
    refine H.regP (by kernel_rfl) ?_
    refine HO.goP 2 (by kernel_rfl) ?_
    refine HO.len (by kernel_rfl) (by kernel_rfl) (ls_size enc65 x.1) ?_
    refine HO.goP 1 (by kernel_rfl) ?_
    refine HO.boolP (decide (x.2.2 < (x.1.length : Int))) (by kernel_rfl) (by kernel_rfl) (fun hb => ?_) (fun hb => ?_)
    · rw [if_pos (of_decide_eq_true hb)] at h
      refine HO.goP 3 (by kernel_rfl) ?_
      refine HO.done (by kernel_rfl) ?_
      refine Kseq_norm ?_
      exact H.ren hS [] _ _ _ (by kernel_rfl) (ih_big_L2 (x.1, x.2.1, x.2.2, (decide (x.2.1 < 1000))) r h W0 w0 S hS)
    · rw [if_neg (of_decide_eq_false hb)] at h
      refine HO.goP 3 (by kernel_rfl) ?_
      refine HO.done (by kernel_rfl) ?_
      refine Kseq_norm ?_
      exact H.ren hS [] _ _ _ (by kernel_rfl) (ih_big_L2 (x.1, x.2.1, x.2.2, false) r h W0 w0 S hS)
theorem big_L2_ok : ∀ (x : (List S65) × Int × Int × Bool) (r : Bool), big_L2 x = some r → ∀ (W0 w0 : World) (S : Own), Std W0 w0 S 0 → H Tryd.prog w0 S 27 (cR (cL (cL (cL (cR (cL (cR (cR (cB Tryd.f14))))))))) (mkS [(0, ls 5 false enc65 x.1), (3, .int .i64 x.2.1), (4, .int .i64 x.2.2.1), (12, .bool x.2.2.2)] [] 0 []) (Kseq Tryd.prog w0 S 27 (cR (cL (cL (cR (cL (cR (cR (cB Tryd.f14)))))))) (Kloop Tryd.prog w0 S 27 (cL (cL (cR (cL (cR (cR (cB Tryd.f14))))))) (Kblock 0 (Kseq Tryd.prog w0 S 27 (cR (cR (cR (cB Tryd.f14)))) (KEnd Tryd.prog Tryd.f14 (PEnd w0 S (.returned (.bool r)))))))) := big_L2_grp.1
theorem big_L1_ok : ∀ (x : (List S65) × Int × Int) (r : Bool), big_L1 x = some r → ∀ (W0 w0 : World) (S : Own), Std W0 w0 S 0 → HL Tryd.prog w0 S 27 (cL (cL (cR (cL (cR (cR (cB Tryd.f14))))))) (mkS [(0, ls 5 false enc65 x.1), (3, .int .i64 x.2.1), (4, .int .i64 x.2.2)] [] 0 []) (Kblock 0 (Kseq Tryd.prog w0 S 27 (cR (cR (cR (cB Tryd.f14)))) (KEnd Tryd.prog Tryd.f14 (PEnd w0 S (.returned (.bool r)))))) := big_L2_grp.2
def big (x : (List S65)) : Option (Bool) :=
  big_L1 (x, 0, 0)
theorem big_ok : ∀ (x : (List S65)) (r : Bool), big x = some r → ∀ W0 : World, PTo Tryd.prog W0 14 #[ls 5 false enc65 x] (.returned (.bool r)) := by
  intro x r h
  unfold big at h
  intro W0
  refine PTo.of_body (fn := Tryd.f14) (code := cB Tryd.f14) Tryd.func14 rfl rfl ?_
  intro w0 S hS
  haveI := hS.noEx Tryd.prog
  refine H.seqP (by kernel_rfl) ?_
  refine H.regP (by kernel_rfl) ?_
  refine HO.goP 1 (by kernel_rfl) ?_
  refine HO.done (by kernel_rfl) ?_
  refine Kseq_norm ?_
  refine H.seqP (by kernel_rfl) ?_
  refine H.regP (by kernel_rfl) ?_
  refine HO.goP 1 (by kernel_rfl) ?_
  refine HO.done (by kernel_rfl) ?_
  refine Kseq_norm ?_
  refine H.seqP (by kernel_rfl) ?_
  refine H.seqP (by kernel_rfl) ?_
  refine H.regP (by kernel_rfl) ?_
  refine HO.goP 1 (by kernel_rfl) ?_
  refine HO.done (by kernel_rfl) ?_
  refine Kseq_norm ?_
  refine H.blockI 0 (by kernel_rfl) ?_
  refine H.loopP (by kernel_rfl) ?_
  exact HL.ren hS [] _ _ _ (by kernel_rfl) (big_L1_ok (x, 0, 0) r h W0 w0 S hS)
def grown_L4 (x : Int × Int × Int × Bool × (List Int)) : Option (Int × Int × Bool × (List Int) × (List S36) × Int) :=
  some (x.2.1, x.2.2.1, x.2.2.2.1, x.2.2.2.2, [], x.1)
theorem grown_L4_ok : ∀ (x : Int × Int × Int × Bool × (List Int)) (r : Int × Int × Bool × (List Int) × (List S36) × Int), grown_L4 x = some r → ∀ (W0 w0 : World) (S : Own), Std W0 w0 S 0 → H Tryd.prog w0 S 102 (cR (cL (cR (cL (cR (cR (cR (cR (cR (cR (cB Tryd.f45))))))))))) (mkS [(6, .pointer (some ⟨0, 0, none⟩)), (9, .pointer (some ⟨1, 0, none⟩)), (10, .int .i64 x.1)] [(0, .cells [.int .u8 0, .int .u32 0, .bool false, .slice none 0 0, .slice none 0 0] 36 5), (1, .cells [.int .u8 x.2.1, .int .u32 x.2.2.1, .bool x.2.2.2.1, tl 1 2 (encI .u8) x.2.2.2.2, .slice none 0 0] 36 5)] 3 [2]) (Kseq Tryd.prog w0 S 102 (cR (cR (cR (cR (cR (cR (cR (cB Tryd.f45)))))))) (KEnd Tryd.prog Tryd.f45 (PEnd w0 S (.returned (.tuple #[.agg #[.int .u8 r.1, .int .u32 r.2.1, .bool r.2.2.1, ls 1 false (encI .u8) r.2.2.2.1, ls 5 false enc36 r.2.2.2.2.1], .int .i64 r.2.2.2.2.2]))))) := by
  intro x r h
  unfold grown_L4 at h
  intro W0 w0 S hS
  haveI := hS.noEx Tryd.prog
  refine H.seqP (by kernel_rfl) ?_
  refine H.regP (by kernel_rfl) ?_
  refine HO.goP 4 (by kernel_rfl) ?_
  refine HO.done (by kernel_rfl) ?_
  refine Kseq_norm ?_
  refine H.retP (by kernel_rfl) ?_
  refine Kseq_ret ?_
  obtain rfl := Option.some.inj h
  exact KEnd.retW (v := .tuple #[.agg #[.int .u8 x.2.1, .int .u32 x.2.2.1, .bool x.2.2.2.1, tl 1 2 (encI .u8) x.2.2.2.2, .slice none 0 0], .int .i64 x.1]) (.tuple [.agg [.keep, .keep, .keep, .list 1 false, .list 5 false], .keep]) (by kernel_rfl) (by kernel_rfl) (by kernel_rfl) (by kernel_rfl)
mutual
def grown_L6 (x : (List S65) × Int × Int × Int × Bool × Int × Int × Bool × (List Int) × Int × Int × Int × (List S36)) : Option (Int × Int × Bool × (List Int) × (List S36) × Int) :=
  if x.2.2.2.2.1 = true then
    (grown (x.1, x.2.2.1, (IntKind.i64.wrap (x.2.1 + 1)))) >>= fun y4 =>
    (app' 64 x.2.2.2.2.2.2.2.2.2.2.2.2 [(S36.mk y4.1 y4.2.1 y4.2.2.1 y4.2.2.2.1 y4.2.2.2.2.1)]) >>= fun y5 =>
    grown_L5 (x.1, x.2.1, y4.2.2.2.2.2, (IntKind.i64.wrap (x.2.2.2.1 + 1)), x.2.2.2.2.2.1, x.2.2.2.2.2.2.1, x.2.2.2.2.2.2.2.1, x.2.2.2.2.2.2.2.2.1, x.2.2.2.2.2.2.2.2.2.1, x.2.2.2.2.2.2.2.2.2.2.1, x.2.2.2.2.2.2.2.2.2.2.2.1, y5)
  else
    some (x.2.2.2.2.2.2.2.2.2.2.1, x.2.2.2.2.2.2.2.2.2.2.2.1, x.2.2.2.2.2.2.2.1, [], x.2.2.2.2.2.2.2.2.2.2.2.2, x.2.2.1)
partial_fixpoint
def grown_L5 (x : (List S65) × Int × Int × Int × Int × Int × Bool × (List Int) × Int × Int × Int × (List S36)) : Option (Int × Int × Bool × (List Int) × (List S36) × Int) :=
  if x.2.2.2.1 < (IntKind.i64.wrap (remI .u8 x.2.2.2.2.2.2.2.2.1 4)) then
    if x.2.1 < 10 then
      if x.2.2.1 < (x.1.length : Int) then
        grown_L6 (x.1, x.2.1, x.2.2.1, x.2.2.2.1, (decide (x.2.2.1 < 40)), x.2.2.2.2.1, x.2.2.2.2.2.1, x.2.2.2.2.2.2.1, x.2.2.2.2.2.2.2.1, x.2.2.2.2.2.2.2.2.1, x.2.2.2.2.2.2.2.2.2.1, x.2.2.2.2.2.2.2.2.2.2.1, x.2.2.2.2.2.2.2.2.2.2.2)
      else
        grown_L6 (x.1, x.2.1, x.2.2.1, x.2.2.2.1, false, x.2.2.2.2.1, x.2.2.2.2.2.1, x.2.2.2.2.2.2.1, x.2.2.2.2.2.2.2.1, x.2.2.2.2.2.2.2.2.1, x.2.2.2.2.2.2.2.2.2.1, x.2.2.2.2.2.2.2.2.2.2.1, x.2.2.2.2.2.2.2.2.2.2.2)
    else
      grown_L6 (x.1, x.2.1, x.2.2.1, x.2.2.2.1, false, x.2.2.2.2.1, x.2.2.2.2.2.1, x.2.2.2.2.2.2.1, x.2.2.2.2.2.2.2.1, x.2.2.2.2.2.2.2.2.1, x.2.2.2.2.2.2.2.2.2.1, x.2.2.2.2.2.2.2.2.2.2.1, x.2.2.2.2.2.2.2.2.2.2.2)
  else
    grown_L6 (x.1, x.2.1, x.2.2.1, x.2.2.2.1, false, x.2.2.2.2.1, x.2.2.2.2.2.1, x.2.2.2.2.2.2.1, x.2.2.2.2.2.2.2.1, x.2.2.2.2.2.2.2.2.1, x.2.2.2.2.2.2.2.2.2.1, x.2.2.2.2.2.2.2.2.2.2.1, x.2.2.2.2.2.2.2.2.2.2.2)
partial_fixpoint
def grown (x : (List S65) × Int × Int) : Option (Int × Int × Bool × (List Int) × (List S36) × Int) :=
  if (x.1.length : Int) ≤ x.2.1 then
    grown_L1 (x.1, x.2.1, x.2.2, true)
  else
    grown_L1 (x.1, x.2.1, x.2.2, (decide (40 ≤ x.2.1)))
partial_fixpoint
def grown_L1 (x : (List S65) × Int × Int × Bool) : Option (Int × Int × Bool × (List Int) × (List S36) × Int) :=
  if x.2.2.2 = true then
    some (3, 1, false, [], [], (IntKind.i64.wrap (x.2.1 + 1)))
  else
    (at' x.1 x.2.1) >>= fun y1 =>
    if (remI .u8 y1.c0 4) = 0 then
      grown_L2 (x.1, x.2.1, x.2.2.1, (decide ((remI .u32 y1.c1 2097152) = 0)), y1.c0, y1.c1, y1.c2, y1.c3, y1.c4, (remI .u8 y1.c0 4), (remI .u32 y1.c1 2097152))
    else
      grown_L2 (x.1, x.2.1, x.2.2.1, false, y1.c0, y1.c1, y1.c2, y1.c3, y1.c4, (remI .u8 y1.c0 4), (remI .u32 y1.c1 2097152))
partial_fixpoint
def grown_L2 (x : (List S65) × Int × Int × Bool × Int × Int × Bool × (List Int) × Int × Int × Int) : Option (Int × Int × Bool × (List Int) × (List S36) × Int) :=
  if x.2.2.2.1 = true then
    grown_L3 (x.1, x.2.1, x.2.2.1, x.2.2.2.2.1, x.2.2.2.2.2.1, x.2.2.2.2.2.2.1, x.2.2.2.2.2.2.2.1, x.2.2.2.2.2.2.2.2.1, x.2.2.2.2.2.2.2.2.2.1, 2)
  else
    grown_L3 (x.1, x.2.1, x.2.2.1, x.2.2.2.2.1, x.2.2.2.2.2.1, x.2.2.2.2.2.2.1, x.2.2.2.2.2.2.2.1, x.2.2.2.2.2.2.2.2.1, x.2.2.2.2.2.2.2.2.2.1, x.2.2.2.2.2.2.2.2.2.2)
partial_fixpoint
def grown_L3 (x : (List S65) × Int × Int × Int × Int × Bool × (List Int) × Int × Int × Int) : Option (Int × Int × Bool × (List Int) × (List S36) × Int) :=
  if (!x.2.2.2.2.2.1) = true then
    (sub' x.2.2.2.2.2.2.1 0 (minI (x.2.2.2.2.2.2.1.length : Int) 300)) >>= fun y2 =>
    (app' 1 [] y2) >>= fun y3 =>
    if y2.length = 0 then
      grown_L4 ((IntKind.i64.wrap (x.2.1 + 1)), x.2.2.2.2.2.2.2.2.1, x.2.2.2.2.2.2.2.2.2, x.2.2.2.2.2.1, [])
    else
      grown_L4 ((IntKind.i64.wrap (x.2.1 + 1)), x.2.2.2.2.2.2.2.2.1, x.2.2.2.2.2.2.2.2.2, x.2.2.2.2.2.1, y3)
  else
    grown_L5 (x.1, x.2.2.1, (IntKind.i64.wrap (x.2.1 + 1)), 0, x.2.2.2.1, x.2.2.2.2.1, x.2.2.2.2.2.1, x.2.2.2.2.2.2.1, x.2.2.2.2.2.2.2.1, x.2.2.2.2.2.2.2.2.1, x.2.2.2.2.2.2.2.2.2, [])
partial_fixpoint
end
theorem grown_L6_grp : (∀ (x : (List S65) × Int × Int × Int × Bool × Int × Int × Bool × (List Int) × Int × Int × Int × (List S36)) (r : Int × Int × Bool × (List Int) × (List S36) × Int), grown_L6 x = some r → ∀ (W0 w0 : World) (S : Own), Std W0 w0 S 0 → H Tryd.prog w0 S 102 (cR (cL (cL (cL (cR (cL (cR (cR (cR (cR (cR (cR (cR (cB Tryd.f45)))))))))))))) (mkS [(0, ls 5 false enc65 x.1), (2, .int .i64 x.2.1), (6, .pointer (some ⟨0, 0, none⟩)), (8, .pointer (some ⟨1, 0, none⟩)), (9, .pointer (some ⟨2, 0, none⟩)), (10, .int .i64 x.2.2.1), (11, .int .i64 x.2.2.2.1), (83, .bool x.2.2.2.2.1)] [(0, .cells [.int .u8 0, .int .u32 0, .bool false, .slice none 0 0, .slice none 0 0] 36 5), (1, .cells [.int .u8 x.2.2.2.2.2.1, .int .u32 x.2.2.2.2.2.2.1, .bool x.2.2.2.2.2.2.2.1, ls 1 false (encI .u8) x.2.2.2.2.2.2.2.2.1, .int .u8 x.2.2.2.2.2.2.2.2.2.1] 65 5), (2, .cells [.int .u8 x.2.2.2.2.2.2.2.2.2.2.1, .int .u32 x.2.2.2.2.2.2.2.2.2.2.2.1, .bool x.2.2.2.2.2.2.2.1, .slice none 0 0, tl 5 3 enc36 x.2.2.2.2.2.2.2.2.2.2.2.2] 36 5)] 4 [3]) (Kseq Tryd.prog w0 S 102 (cR (cL (cL (cR (cL (cR (cR (cR (cR (cR (cR (cR (cB Tryd.f45))))))))))))) (Kloop Tryd.prog w0 S 102 (cL (cL (cR (cL (cR (cR (cR (cR (cR (cR (cR (cB Tryd.f45)))))))))))) (Kblock 0 (Kseq Tryd.prog w0 S 102 (cR (cR (cR (cR (cR (cR (cR (cR (cB Tryd.f45))))))))) (KEnd Tryd.prog Tryd.f45 (PEnd w0 S (.returned (.tuple #[.agg #[.int .u8 r.1, .int .u32 r.2.1, .bool r.2.2.1, ls 1 false (encI .u8) r.2.2.2.1, ls 5 false enc36 r.2.2.2.2.1], .int .i64 r.2.2.2.2.2]))))))))) ∧
  (∀ (x : (List S65) × Int × Int × Int × Int × Int × Bool × (List Int) × Int × Int × Int × (List S36)) (r : Int × Int × Bool × (List Int) × (List S36) × Int), grown_L5 x = some r → ∀ (W0 w0 : World) (S : Own), Std W0 w0 S 0 → HL Tryd.prog w0 S 102 (cL (cL (cR (cL (cR (cR (cR (cR (cR (cR (cR (cB Tryd.f45)))))))))))) (mkS [(0, ls 5 false enc65 x.1), (2, .int .i64 x.2.1), (6, .pointer (some ⟨0, 0, none⟩)), (8, .pointer (some ⟨1, 0, none⟩)), (9, .pointer (some ⟨2, 0, none⟩)), (10, .int .i64 x.2.2.1), (11, .int .i64 x.2.2.2.1)] [(0, .cells [.int .u8 0, .int .u32 0, .bool false, .slice none 0 0, .slice none 0 0] 36 5), (1, .cells [.int .u8 x.2.2.2.2.1, .int .u32 x.2.2.2.2.2.1, .bool x.2.2.2.2.2.2.1, ls 1 false (encI .u8) x.2.2.2.2.2.2.2.1, .int .u8 x.2.2.2.2.2.2.2.2.1] 65 5), (2, .cells [.int .u8 x.2.2.2.2.2.2.2.2.2.1, .int .u32 x.2.2.2.2.2.2.2.2.2.2.1, .bool x.2.2.2.2.2.2.1, .slice none 0 0, tl 5 3 enc36 x.2.2.2.2.2.2.2.2.2.2.2] 36 5)] 4 [3]) (Kblock 0 (Kseq Tryd.prog w0 S 102 (cR (cR (cR (cR (cR (cR (cR (cR (cB Tryd.f45))))))))) (KEnd Tryd.prog Tryd.f45 (PEnd w0 S (.returned (.tuple #[.agg #[.int .u8 r.1, .int .u32 r.2.1, .bool r.2.2.1, ls 1 false (encI .u8) r.2.2.2.1, ls 5 false enc36 r.2.2.2.2.1], .int .i64 r.2.2.2.2.2]))))))) ∧
  (∀ (x : (List S65) × Int × Int) (r : Int × Int × Bool × (List Int) × (List S36) × Int), grown x = some r → ∀ W0 : World, PTo Tryd.prog W0 45 #[ls 5 false enc65 x.1, .int .i64 x.2.1, .int .i64 x.2.2] (.returned (.tuple #[.agg #[.int .u8 r.1, .int .u32 r.2.1, .bool r.2.2.1, ls 1 false (encI .u8) r.2.2.2.1, ls 5 false enc36 r.2.2.2.2.1], .int .i64 r.2.2.2.2.2]))) ∧
  (∀ (x : (List S65) × Int × Int × Bool) (r : Int × Int × Bool × (List Int) × (List S36) × Int), grown_L1 x = some r → ∀ (W0 w0 : World) (S : Own), Std W0 w0 S 0 → H Tryd.prog w0 S 102 (cR (cL (cR (cB Tryd.f45)))) (mkS [(0, ls 5 false enc65 x.1), (1, .int .i64 x.2.1), (2, .int .i64 x.2.2.1), (6, .pointer (some ⟨0, 0, none⟩)), (20, .bool x.2.2.2)] [(0, .cells [.int .u8 0, .int .u32 0, .bool false, .slice none 0 0, .slice none 0 0] 36 5)] 1 []) (Kseq Tryd.prog w0 S 102 (cR (cR (cB Tryd.f45))) (KEnd Tryd.prog Tryd.f45 (PEnd w0 S (.returned (.tuple #[.agg #[.int .u8 r.1, .int .u32 r.2.1, .bool r.2.2.1, ls 1 false (encI .u8) r.2.2.2.1, ls 5 false enc36 r.2.2.2.2.1], .int .i64 r.2.2.2.2.2])))))) ∧
  (∀ (x : (List S65) × Int × Int × Bool × Int × Int × Bool × (List Int) × Int × Int × Int) (r : Int × Int × Bool × (List Int) × (List S36) × Int), grown_L2 x = some r → ∀ (W0 w0 : World) (S : Own), Std W0 w0 S 0 → H Tryd.prog w0 S 102 (cR (cL (cR (cR (cR (cR (cB Tryd.f45))))))) (mkS [(0, ls 5 false enc65 x.1), (1, .int .i64 x.2.1), (2, .int .i64 x.2.2.1), (6, .pointer (some ⟨0, 0, none⟩)), (8, .pointer (some ⟨1, 0, none⟩)), (9, .pointer (some ⟨2, 0, none⟩)), (45, .bool x.2.2.2.1)] [(0, .cells [.int .u8 0, .int .u32 0, .bool false, .slice none 0 0, .slice none 0 0] 36 5), (1, .cells [.int .u8 x.2.2.2.2.1, .int .u32 x.2.2.2.2.2.1, .bool x.2.2.2.2.2.2.1, ls 1 false (encI .u8) x.2.2.2.2.2.2.2.1, .int .u8 x.2.2.2.2.2.2.2.2.1] 65 5), (2, .cells [.int .u8 x.2.2.2.2.2.2.2.2.2.1, .int .u32 x.2.2.2.2.2.2.2.2.2.2, .bool x.2.2.2.2.2.2.1, .slice none 0 0, .slice none 0 0] 36 5)] 3 []) (Kseq Tryd.prog w0 S 102 (cR (cR (cR (cR (cR (cB Tryd.f45)))))) (KEnd Tryd.prog Tryd.f45 (PEnd w0 S (.returned (.tuple #[.agg #[.int .u8 r.1, .int .u32 r.2.1, .bool r.2.2.1, ls 1 false (encI .u8) r.2.2.2.1, ls 5 false enc36 r.2.2.2.2.1], .int .i64 r.2.2.2.2.2])))))) ∧
  (∀ (x : (List S65) × Int × Int × Int × Int × Bool × (List Int) × Int × Int × Int) (r : Int × Int × Bool × (List Int) × (List S36) × Int), grown_L3 x = some r → ∀ (W0 w0 : World) (S : Own), Std W0 w0 S 0 → H Tryd.prog w0 S 102 (cR (cR (cR (cR (cR (cB Tryd.f45)))))) (mkS [(0, ls 5 false enc65 x.1), (1, .int .i64 x.2.1), (2, .int .i64 x.2.2.1), (6, .pointer (some ⟨0, 0, none⟩)), (8, .pointer (some ⟨1, 0, none⟩)), (9, .pointer (some ⟨2, 0, none⟩))] [(0, .cells [.int .u8 0, .int .u32 0, .bool false, .slice none 0 0, .slice none 0 0] 36 5), (1, .cells [.int .u8 x.2.2.2.1, .int .u32 x.2.2.2.2.1, .bool x.2.2.2.2.2.1, ls 1 false (encI .u8) x.2.2.2.2.2.2.1, .int .u8 x.2.2.2.2.2.2.2.1] 65 5), (2, .cells [.int .u8 x.2.2.2.2.2.2.2.2.1, .int .u32 x.2.2.2.2.2.2.2.2.2, .bool x.2.2.2.2.2.1, .slice none 0 0, .slice none 0 0] 36 5)] 3 []) (KEnd Tryd.prog Tryd.f45 (PEnd w0 S (.returned (.tuple #[.agg #[.int .u8 r.1, .int .u32 r.2.1, .bool r.2.2.1, ls 1 false (encI .u8) r.2.2.2.1, ls 5 false enc36 r.2.2.2.2.1], .int .i64 r.2.2.2.2.2]))))) := by
  refine grown_L6.mutual_partial_correctness (fun (x : (List S65) × Int × Int × Int × Bool × Int × Int × Bool × (List Int) × Int × Int × Int × (List S36)) (r : Int × Int × Bool × (List Int) × (List S36) × Int) => ∀ (W0 w0 : World) (S : Own), Std W0 w0 S 0 → H Tryd.prog w0 S 102 (cR (cL (cL (cL (cR (cL (cR (cR (cR (cR (cR (cR (cR (cB Tryd.f45)))))))))))))) (mkS [(0, ls 5 false enc65 x.1), (2, .int .i64 x.2.1), (6, .pointer (some ⟨0, 0, none⟩)), (8, .pointer (some ⟨1, 0, none⟩)), (9, .pointer (some ⟨2, 0, none⟩)), (10, .int .i64 x.2.2.1), (11, .int .i64 x.2.2.2.1), (83, .bool x.2.2.2.2.1)] [(0, .cells [.int .u8 0, .int .u32 0, .bool false, .slice none 0 0, .slice none 0 0] 36 5), (1, .cells [.int .u8 x.2.2.2.2.2.1, .int .u32 x.2.2.2.2.2.2.1, .bool x.2.2.2.2.2.2.2.1, ls 1 false (encI .u8) x.2.2.2.2.2.2.2.2.1, .int .u8 x.2.2.2.2.2.2.2.2.2.1] 65 5), (2, .cells [.int .u8 x.2.2.2.2.2.2.2.2.2.2.1, .int .u32 x.2.2.2.2.2.2.2.2.2.2.2.1, .bool x.2.2.2.2.2.2.2.1, .slice none 0 0, tl 5 3 enc36 x.2.2.2.2.2.2.2.2.2.2.2.2] 36 5)] 4 [3]) (Kseq Tryd.prog w0 S 102 (cR (cL (cL (cR (cL (cR (cR (cR (cR (cR (cR (cR (cB Tryd.f45))))))))))))) (Kloop Tryd.prog w0 S 102 (cL (cL (cR (cL (cR (cR (cR (cR (cR (cR (cR (cB Tryd.f45)))))))))))) (Kblock 0 (Kseq Tryd.prog w0 S 102 (cR (cR (cR (cR (cR (cR (cR (cR (cB Tryd.f45))))))))) (KEnd Tryd.prog Tryd.f45 (PEnd w0 S (.returned (.tuple #[.agg #[.int .u8 r.1, .int .u32 r.2.1, .bool r.2.2.1, ls 1 false (encI .u8) r.2.2.2.1, ls 5 false enc36 r.2.2.2.2.1], .int .i64 r.2.2.2.2.2]))))))))) (fun (x : (List S65) × Int × Int × Int × Int × Int × Bool × (List Int) × Int × Int × Int × (List S36)) (r : Int × Int × Bool × (List Int) × (List S36) × Int) => ∀ (W0 w0 : World) (S : Own), Std W0 w0 S 0 → HL Tryd.prog w0 S 102 (cL (cL (cR (cL (cR (cR (cR (cR (cR (cR (cR (cB Tryd.f45)))))))))))) (mkS [(0, ls 5 false enc65 x.1), (2, .int .i64 x.2.1), (6, .pointer (some ⟨0, 0, none⟩)), (8, .pointer (some ⟨1, 0, none⟩)), (9, .pointer (some ⟨2, 0, none⟩)), (10, .int .i64 x.2.2.1), (11, .int .i64 x.2.2.2.1)] [(0, .cells [.int .u8 0, .int .u32 0, .bool false, .slice none 0 0, .slice none 0 0] 36 5), (1, .cells [.int .u8 x.2.2.2.2.1, .int .u32 x.2.2.2.2.2.1, .bool x.2.2.2.2.2.2.1, ls 1 false (encI .u8) x.2.2.2.2.2.2.2.1, .int .u8 x.2.2.2.2.2.2.2.2.1] 65 5), (2, .cells [.int .u8 x.2.2.2.2.2.2.2.2.2.1, .int .u32 x.2.2.2.2.2.2.2.2.2.2.1, .bool x.2.2.2.2.2.2.1, .slice none 0 0, tl 5 3 enc36 x.2.2.2.2.2.2.2.2.2.2.2] 36 5)] 4 [3]) (Kblock 0 (Kseq Tryd.prog w0 S 102 (cR (cR (cR (cR (cR (cR (cR (cR (cB Tryd.f45))))))))) (KEnd Tryd.prog Tryd.f45 (PEnd w0 S (.returned (.tuple #[.agg #[.int .u8 r.1, .int .u32 r.2.1, .bool r.2.2.1, ls 1 false (encI .u8) r.2.2.2.1, ls 5 false enc36 r.2.2.2.2.1], .int .i64 r.2.2.2.2.2]))))))) (fun (x : (List S65) × Int × Int) (r : Int × Int × Bool × (List Int) × (List S36) × Int) => ∀ W0 : World, PTo Tryd.prog W0 45 #[ls 5 false enc65 x.1, .int .i64 x.2.1, .int .i64 x.2.2] (.returned (.tuple #[.agg #[.int .u8 r.1, .int .u32 r.2.1, .bool r.2.2.1, ls 1 false (encI .u8) r.2.2.2.1, ls 5 false enc36 r.2.2.2.2.1], .int .i64 r.2.2.2.2.2]))) (fun (x : (List S65) × Int × Int × Bool) (r : Int × Int × Bool × (List Int) × (List S36) × Int) => ∀ (W0 w0 : World) (S : Own), Std W0 w0 S 0 → H Tryd.prog w0 S 102 (cR (cL (cR (cB Tryd.f45)))) (mkS [(0, ls 5 false enc65 x.1), (1, .int .i64 x.2.1), (2, .int .i64 x.2.2.1), (6, .pointer (some ⟨0, 0, none⟩)), (20, .bool x.2.2.2)] [(0, .cells [.int .u8 0, .int .u32 0, .bool false, .slice none 0 0, .slice none 0 0] 36 5)] 1 []) (Kseq Tryd.prog w0 S 102 (cR (cR (cB Tryd.f45))) (KEnd Tryd.prog Tryd.f45 (PEnd w0 S (.returned (.tuple #[.agg #[.int .u8 r.1, .int .u32 r.2.1, .bool r.2.2.1, ls 1 false (encI .u8) r.2.2.2.1, ls 5 false enc36 r.2.2.2.2.1], .int .i64 r.2.2.2.2.2])))))) (fun (x : (List S65) × Int × Int × Bool × Int × Int × Bool × (List Int) × Int × Int × Int) (r : Int × Int × Bool × (List Int) × (List S36) × Int) => ∀ (W0 w0 : World) (S : Own), Std W0 w0 S 0 → H Tryd.prog w0 S 102 (cR (cL (cR (cR (cR (cR (cB Tryd.f45))))))) (mkS [(0, ls 5 false enc65 x.1), (1, .int .i64 x.2.1), (2, .int .i64 x.2.2.1), (6, .pointer (some ⟨0, 0, none⟩)), (8, .pointer (some ⟨1, 0, none⟩)), (9, .pointer (some ⟨2, 0, none⟩)), (45, .bool x.2.2.2.1)] [(0, .cells [.int .u8 0, .int .u32 0, .bool false, .slice none 0 0, .slice none 0 0] 36 5), (1, .cells [.int .u8 x.2.2.2.2.1, .int .u32 x.2.2.2.2.2.1, .bool x.2.2.2.2.2.2.1, ls 1 false (encI .u8) x.2.2.2.2.2.2.2.1, .int .u8 x.2.2.2.2.2.2.2.2.1] 65 5), (2, .cells [.int .u8 x.2.2.2.2.2.2.2.2.2.1, .int .u32 x.2.2.2.2.2.2.2.2.2.2, .bool x.2.2.2.2.2.2.1, .slice none 0 0, .slice none 0 0] 36 5)] 3 []) (Kseq Tryd.prog w0 S 102 (cR (cR (cR (cR (cR (cB Tryd.f45)))))) (KEnd Tryd.prog Tryd.f45 (PEnd w0 S (.returned (.tuple #[.agg #[.int .u8 r.1, .int .u32 r.2.1, .bool r.2.2.1, ls 1 false (encI .u8) r.2.2.2.1, ls 5 false enc36 r.2.2.2.2.1], .int .i64 r.2.2.2.2.2])))))) (fun (x : (List S65) × Int × Int × Int × Int × Bool × (List Int) × Int × Int × Int) (r : Int × Int × Bool × (List Int) × (List S36) × Int) => ∀ (W0 w0 : World) (S : Own), Std W0 w0 S 0 → H Tryd.prog w0 S 102 (cR (cR (cR (cR (cR (cB Tryd.f45)))))) (mkS [(0, ls 5 false enc65 x.1), (1, .int .i64 x.2.1), (2, .int .i64 x.2.2.1), (6, .pointer (some ⟨0, 0, none⟩)), (8, .pointer (some ⟨1, 0, none⟩)), (9, .pointer (some ⟨2, 0, none⟩))] [(0, .cells [.int .u8 0, .int .u32 0, .bool false, .slice none 0 0, .slice none 0 0] 36 5), (1, .cells [.int .u8 x.2.2.2.1, .int .u32 x.2.2.2.2.1, .bool x.2.2.2.2.2.1, ls 1 false (encI .u8) x.2.2.2.2.2.2.1, .int .u8 x.2.2.2.2.2.2.2.1] 65 5), (2, .cells [.int .u8 x.2.2.2.2.2.2.2.2.1, .int .u32 x.2.2.2.2.2.2.2.2.2, .bool x.2.2.2.2.2.1, .slice none 0 0, .slice none 0 0] 36 5)] 3 []) (KEnd Tryd.prog Tryd.f45 (PEnd w0 S (.returned (.tuple #[.agg #[.int .u8 r.1, .int .u32 r.2.1, .bool r.2.2.1, ls 1 false (encI .u8) r.2.2.2.1, ls 5 false enc36 r.2.2.2.2.1], .int .i64 r.2.2.2.2.2]))))) ?_ ?_ ?_ ?_ ?_ ?_
  · intro g_grown_L5 g_grown ih_grown_L5 ih_grown x r h
    intro W0 w0 S hS
    haveI := hS.noEx Tryd.prog
    refine H.condS (b := x.2.2.2.2.1) (by kernel_rfl) (by kernel_rfl) (fun hb => ?_) (fun hb => ?_)
    · rw [if_pos hb] at h
      refine H.skipP (by kernel_rfl) ?_
      refine Kseq_norm ?_
      refine H.seqP (by kernel_rfl) ?_
      refine H.blockI 1 (by kernel_rfl) ?_
      refine H.seqP (by kernel_rfl) ?_
      refine H.regP (by kernel_rfl) ?_
      refine HO.goP 1 (by kernel_rfl) ?_
      refine HO.done (by kernel_rfl) ?_
      refine Kseq_norm ?_
      refine H.seqP (by kernel_rfl) ?_
      refine H.regP (by kernel_rfl) ?_
      refine HO.goP 4 (by kernel_rfl) ?_
      obtain ⟨y4, hy, h⟩ := bindS h
      refine HO.callW hS [.list 5 false, .keep, .keep] (ih_grown (x.1, x.2.2.1, (IntKind.i64.wrap (x.2.1 + 1))) y4 hy W0) (by kernel_rfl) (by kernel_rfl) ?_
      refine HO.goP 5 (by kernel_rfl) ?_
      refine HO.done (by kernel_rfl) ?_
      refine Kseq_norm ?_
      refine H.regP (by kernel_rfl) ?_
      refine HO.goP 4 (by kernel_rfl) ?_
      obtain ⟨y5, hy, h⟩ := bindS h
      refine HO.effA (app1_aop (enc := enc36) (k := 5) true 1 [.int .u8 y4.1, .int .u32 y4.2.1, .bool y4.2.2.1, ls 1 false (encI .u8) y4.2.2.2.1, ls 5 false enc36 y4.2.2.2.2.1] [] hy (by kernel_rfl) (by kernel_rfl) (by simp only [List.map_cons, List.map_nil, enc36_eq]; kernel_rfl)) ?_
      refine HO.goP 2 (by kernel_rfl) ?_
      refine HO.done (by kernel_rfl) ?_
      refine Kblock_norm ?_
      refine Kseq_norm ?_
      refine H.regP (by kernel_rfl) ?_
      refine HO.goP 3 (by kernel_rfl) ?_
      refine HO.done (by kernel_rfl) ?_
      refine Kloop_norm ?_
      exact HL.ren hS [0, 1, 2, 6] _ _ _ (by kernel_rfl) (ih_grown_L5 (x.1, x.2.1, y4.2.2.2.2.2, (IntKind.i64.wrap (x.2.2.2.1 + 1)), x.2.2.2.2.2.1, x.2.2.2.2.2.2.1, x.2.2.2.2.2.2.2.1, x.2.2.2.2.2.2.2.2.1, x.2.2.2.2.2.2.2.2.2.1, x.2.2.2.2.2.2.2.2.2.2.1, x.2.2.2.2.2.2.2.2.2.2.2.1, y5) r h W0 w0 S hS)
    · rw [if_neg (ne_true hb)] at h
      refine H.exitI 0 (by kernel_rfl) ?_
      refine Kseq_exit ?_
      refine Kloop_exit ?_
      refine Kblock_hit ?_
      refine Kseq_norm ?_
      refine H.seqP (by kernel_rfl) ?_
      refine H.regP (by kernel_rfl) ?_
      refine HO.goP 4 (by kernel_rfl) ?_
      refine HO.done (by kernel_rfl) ?_
      refine Kseq_norm ?_
      refine H.retP (by kernel_rfl) ?_
      obtain rfl := Option.some.inj h
      exact KEnd.retW (v := .tuple #[.agg #[.int .u8 x.2.2.2.2.2.2.2.2.2.2.1, .int .u32 x.2.2.2.2.2.2.2.2.2.2.2.1, .bool x.2.2.2.2.2.2.2.1, .slice none 0 0, tl 5 3 enc36 x.2.2.2.2.2.2.2.2.2.2.2.2], .int .i64 x.2.2.1]) (.tuple [.agg [.keep, .keep, .keep, .list 1 false, .list 5 false], .keep]) (by kernel_rfl) (by kernel_rfl) (by kernel_rfl) (by kernel_rfl)
  · intro g_grown_L6 ih_grown_L6 x r h
    intro W0 w0 S hS
    haveI := hS.noEx Tryd.prog
    refine HL.round ?_
    refine H.seqP (by kernel_rfl) ?_
    refine H.seqP (by kernel_rfl) ?_
    refine H.regP (by kernel_rfl) ?_
    refine HO.goP 6 (by kernel_rfl) ?_
    refine HO.boolP (decide (x.2.2.2.1 < (IntKind.i64.wrap (remI .u8 x.2.2.2.2.2.2.2.2.1 4)))) (by kernel_rfl) (by kernel_rfl) (fun hb => ?_) (fun hb => ?_)
    · rw [if_pos (of_decide_eq_true hb)] at h
      refine HO.goP 3 (by kernel_rfl) ?_
      refine HO.boolP (decide (x.2.1 < 10)) (by kernel_rfl) (by kernel_rfl) (fun hb => ?_) (fun hb => ?_)
      · rw [if_pos (of_decide_eq_true hb)] at h
        refine HO.goP 2 (by kernel_rfl) ?_
        refine HO.len (by kernel_rfl) (by kernel_rfl) (ls_size enc65 x.1) ?_
        refine HO.goP 2 (by kernel_rfl) ?_
        refine HO.boolP (decide (x.2.2.1 < (x.1.length : Int))) (by kernel_rfl) (by kernel_rfl) (fun hb => ?_) (fun hb => ?_)
        · rw [if_pos (of_decide_eq_true hb)] at h
          refine HO.goP 3 (by kernel_rfl) ?_
          refine HO.done (by kernel_rfl) ?_
          refine Kseq_norm ?_
          exact H.ren hS [0, 1, 2, 3] _ _ _ (by kernel_rfl) (ih_grown_L6 (x.1, x.2.1, x.2.2.1, x.2.2.2.1, (decide (x.2.2.1 < 40)), x.2.2.2.2.1, x.2.2.2.2.2.1, x.2.2.2.2.2.2.1, x.2.2.2.2.2.2.2.1, x.2.2.2.2.2.2.2.2.1, x.2.2.2.2.2.2.2.2.2.1, x.2.2.2.2.2.2.2.2.2.2.1, x.2.2.2.2.2.2.2.2.2.2.2) r h W0 w0 S hS)
        · rw [if_neg (of_decide_eq_false hb)] at h
          refine HO.goP 3 (by kernel_rfl) ?_
          refine HO.done (by kernel_rfl) ?_
          refine Kseq_norm ?_
          exact H.ren hS [0, 1, 2, 3] _ _ _ (by kernel_rfl) (ih_grown_L6 (x.1, x.2.1, x.2.2.1, x.2.2.2.1, false, x.2.2.2.2.1, x.2.2.2.2.2.1, x.2.2.2.2.2.2.1, x.2.2.2.2.2.2.2.1, x.2.2.2.2.2.2.2.2.1, x.2.2.2.2.2.2.2.2.2.1, x.2.2.2.2.2.2.2.2.2.2.1, x.2.2.2.2.2.2.2.2.2.2.2) r h W0 w0 S hS)
      · rw [if_neg (of_decide_eq_false hb)] at h
        refine HO.goP 9 (by kernel_rfl) ?_
        refine HO.done (by kernel_rfl) ?_
        refine Kseq_norm ?_
        exact H.ren hS [0, 1, 2, 3] _ _ _ (by kernel_rfl) (ih_grown_L6 (x.1, x.2.1, x.2.2.1, x.2.2.2.1, false, x.2.2.2.2.1, x.2.2.2.2.2.1, x.2.2.2.2.2.2.1, x.2.2.2.2.2.2.2.1, x.2.2.2.2.2.2.2.2.1, x.2.2.2.2.2.2.2.2.2.1, x.2.2.2.2.2.2.2.2.2.2.1, x.2.2.2.2.2.2.2.2.2.2.2) r h W0 w0 S hS)
    · rw [if_neg (of_decide_eq_false hb)] at h
      refine HO.goP 13 (by kernel_rfl) ?_
      refine HO.done (by kernel_rfl) ?_
      refine Kseq_norm ?_
      exact H.ren hS [0, 1, 2, 3] _ _ _ (by kernel_rfl) (ih_grown_L6 (x.1, x.2.1, x.2.2.1, x.2.2.2.1, false, x.2.2.2.2.1, x.2.2.2.2.2.1, x.2.2.2.2.2.2.1, x.2.2.2.2.2.2.2.1, x.2.2.2.2.2.2.2.2.1, x.2.2.2.2.2.2.2.2.2.1, x.2.2.2.2.2.2.2.2.2.2.1, x.2.2.2.2.2.2.2.2.2.2.2) r h W0 w0 S hS)
  · intro g_grown_L1 ih_grown_L1 x r h
    intro W0
    refine PTo.of_body (fn := Tryd.f45) (code := cB Tryd.f45) Tryd.func45 rfl rfl ?_
    intro w0 S hS
    haveI := hS.noEx Tryd.prog
    refine H.seqP (by kernel_rfl) ?_
    refine H.regP (by kernel_rfl) ?_
    refine HO.goP 2 (by kernel_rfl) ?_
    refine HO.done (by kernel_rfl) ?_
    refine Kseq_norm ?_
    refine H.seqP (by kernel_rfl) ?_
    refine H.seqP (by kernel_rfl) ?_
    refine H.regP (by kernel_rfl) ?_
    refine HO.goP 2 (by kernel_rfl) ?_
    refine HO.len (by kernel_rfl) (by kernel_rfl) (ls_size enc65 x.1) ?_
    refine HO.goP 1 (by kernel_rfl) ?_
    refine HO.boolP (decide ((x.1.length : Int) ≤ x.2.1)) (by kernel_rfl) (by kernel_rfl) (fun hb => ?_) (fun hb => ?_)
    · rw [if_pos (of_decide_eq_true hb)] at h
      refine HO.goP 3 (by kernel_rfl) ?_
      refine HO.done (by kernel_rfl) ?_
      refine Kseq_norm ?_
      exact H.ren hS [0] _ _ _ (by kernel_rfl) (ih_grown_L1 (x.1, x.2.1, x.2.2, true) r h W0 w0 S hS)
    · rw [if_neg (of_decide_eq_false hb)] at h
      refine HO.goP 3 (by kernel_rfl) ?_
      refine HO.done (by kernel_rfl) ?_
      refine Kseq_norm ?_
      exact H.ren hS [0] _ _ _ (by kernel_rfl) (ih_grown_L1 (x.1, x.2.1, x.2.2, (decide (40 ≤ x.2.1))) r h W0 w0 S hS)
  · intro g_grown_L2 ih_grown_L2 x r h
    intro W0 w0 S hS
    haveI := hS.noEx Tryd.prog
    refine H.condS (b := x.2.2.2) (by kernel_rfl) (by kernel_rfl) (fun hb => ?_) (fun hb => ?_)
    · rw [if_pos hb] at h
      refine H.seqP (by kernel_rfl) ?_
      refine H.regP (by kernel_rfl) ?_
      refine HO.goP 6 (by kernel_rfl) ?_
      refine HO.done (by kernel_rfl) ?_
      refine Kseq_norm ?_
      refine H.retP (by kernel_rfl) ?_
      refine Kseq_ret ?_
      obtain rfl := Option.some.inj h
      exact KEnd.of (v := .tuple #[.agg #[.int .u8 3, .int .u32 1, .bool false, .slice (some ⟨1, 0, none⟩) 0 0, .slice none 0 0], .int .i64 (IntKind.i64.wrap (x.2.1 + 1))]) (by kernel_rfl) (by kernel_rfl) (PEnd.frz 1 0 0 1 5 true ([].map (encI .u8)).toArray [] (by kernel_rfl) (PEnd.wk (v1 := .tuple #[.agg #[.int .u8 3, .int .u32 1, .bool false, ls 1 false (encI .u8) [], ls 5 false enc36 []], .int .i64 (IntKind.i64.wrap (x.2.1 + 1))]) (.tuple [.agg [.keep, .keep, .keep, .list 1 false, .list 5 false], .keep]) (by kernel_rfl) (PEnd.fin (by kernel_rfl))))
    · rw [if_neg (ne_true hb)] at h
      refine H.skipP (by kernel_rfl) ?_
      refine Kseq_norm ?_
      refine H.seqP (by kernel_rfl) ?_
      refine H.regP (by kernel_rfl) ?_
      refine HO.goP 2 (by kernel_rfl) ?_
      obtain ⟨y1, hy, h⟩ := bindS h
      refine HO.idx (.agg #[.int .u8 y1.c0, .int .u32 y1.c1, .bool y1.c2, ls 1 false (encI .u8) y1.c3, .int .u8 y1.c4]) hy (enc65_eq y1) (by kernel_rfl) ?_
      refine HO.goP 3 (by kernel_rfl) ?_
      refine HO.done (by kernel_rfl) ?_
      refine Kseq_norm ?_
      refine H.seqP (by kernel_rfl) ?_
      refine H.regP (by kernel_rfl) ?_
      refine HO.goP 11 (by kernel_rfl) ?_
      refine HO.done (by kernel_rfl) ?_
      refine Kseq_norm ?_
      refine H.seqP (by kernel_rfl) ?_
      refine H.seqP (by kernel_rfl) ?_
      refine H.regP (by kernel_rfl) ?_
      refine HO.goP 3 (by kernel_rfl) ?_
      refine HO.boolP (decide ((remI .u8 y1.c0 4) = 0)) (by kernel_rfl) (by kernel_rfl) (fun hb => ?_) (fun hb => ?_)
      · rw [if_pos (of_decide_eq_true hb)] at h
        refine HO.goP 4 (by kernel_rfl) ?_
        refine HO.done (by kernel_rfl) ?_
        refine Kseq_norm ?_
        exact H.ren hS [0, 1, 2] _ _ _ (by kernel_rfl) (ih_grown_L2 (x.1, x.2.1, x.2.2.1, (decide ((remI .u32 y1.c1 2097152) = 0)), y1.c0, y1.c1, y1.c2, y1.c3, y1.c4, (remI .u8 y1.c0 4), (remI .u32 y1.c1 2097152)) r h W0 w0 S hS)
      · rw [if_neg (of_decide_eq_false hb)] at h
        refine HO.goP 4 (by kernel_rfl) ?_
        refine HO.done (by kernel_rfl) ?_
        refine Kseq_norm ?_
        exact H.ren hS [0, 1, 2] _ _ _ (by kernel_rfl) (ih_grown_L2 (x.1, x.2.1, x.2.2.1, false, y1.c0, y1.c1, y1.c2, y1.c3, y1.c4, (remI .u8 y1.c0 4), (remI .u32 y1.c1 2097152)) r h W0 w0 S hS)
  · intro g_grown_L3 ih_grown_L3 x r h
    intro W0 w0 S hS
    haveI := hS.noEx Tryd.prog
    refine H.condS (b := x.2.2.2.1) (by kernel_rfl) (by kernel_rfl) (fun hb => ?_) (fun hb => ?_)
    · rw [if_pos hb] at h
      refine H.regP (by kernel_rfl) ?_
      refine HO.goP 2 (by kernel_rfl) ?_
      refine HO.done (by kernel_rfl) ?_
      refine Kseq_norm ?_
      exact H.ren hS [0, 1, 2] _ _ _ (by kernel_rfl) (ih_grown_L3 (x.1, x.2.1, x.2.2.1, x.2.2.2.2.1, x.2.2.2.2.2.1, x.2.2.2.2.2.2.1, x.2.2.2.2.2.2.2.1, x.2.2.2.2.2.2.2.2.1, x.2.2.2.2.2.2.2.2.2.1, 2) r h W0 w0 S hS)
    · rw [if_neg (ne_true hb)] at h
      refine H.skipP (by kernel_rfl) ?_
      refine Kseq_norm ?_
      exact H.ren hS [0, 1, 2] _ _ _ (by kernel_rfl) (ih_grown_L3 (x.1, x.2.1, x.2.2.1, x.2.2.2.2.1, x.2.2.2.2.2.1, x.2.2.2.2.2.2.1, x.2.2.2.2.2.2.2.1, x.2.2.2.2.2.2.2.2.1, x.2.2.2.2.2.2.2.2.2.1, x.2.2.2.2.2.2.2.2.2.2) r h W0 w0 S hS)
  · intro g_grown_L5 ih_grown_L5 x r h
    intro W0 w0 S hS
    haveI := hS.noEx Tryd.prog
    refine H.seqP (by kernel_rfl) ?_
    refine H.regP (by kernel_rfl) ?_
    refine HO.goP 3 (by kernel_rfl) ?_
    refine HO.done (by kernel_rfl) ?_
    refine Kseq_norm ?_
    refine H.seqP (by kernel_rfl) ?_
    refine H.seqP (by kernel_rfl) ?_
    refine H.regP (by kernel_rfl) ?_
    refine HO.goP 3 (by kernel_rfl) ?_
    refine HO.done (by kernel_rfl) ?_
    refine Kseq_norm ?_
    refine H.condS (b := !x.2.2.2.2.2.1) (by kernel_rfl) (by kernel_rfl) (fun hb => ?_) (fun hb => ?_)
    · rw [if_pos hb] at h
      refine H.seqP (by kernel_rfl) ?_
      refine H.regP (by kernel_rfl) ?_
      refine HO.goP 5 (by kernel_rfl) ?_
      refine HO.len (by kernel_rfl) (by kernel_rfl) (ls_size (encI .u8) x.2.2.2.2.2.2.1) ?_
      refine HO.goP 1 (by kernel_rfl) ?_
      obtain ⟨y2, hy, h⟩ := bindS h
      refine HO.valA (sl2_aop (enc := (encI .u8)) (k := 1) (j := .i64) hy (by kernel_rfl)) ?_
      refine HO.tkz [52] 3 0 0 1 5 ([].map (encI .u8)).toArray [] (by kernel_rfl) ?_
      obtain ⟨y3, hy, h⟩ := bindS h
      by_cases hb : y2.length = 0
      · rw [if_pos hb] at h
        refine HO.valA (appN_aop (ag := false) [] (encI_ok .u8) hy hb (by kernel_rfl)) ?_
        refine HO.goP 2 (by kernel_rfl) ?_
        refine HO.done (by kernel_rfl) ?_
        refine Kseq_norm ?_
        exact H.ren hS [0, 2, 4] _ _ _ (by kernel_rfl) (grown_L4_ok ((IntKind.i64.wrap (x.2.1 + 1)), x.2.2.2.2.2.2.2.2.1, x.2.2.2.2.2.2.2.2.2, x.2.2.2.2.2.1, []) r h W0 w0 S hS)
      · rw [if_neg hb] at h
        refine HO.effA (appL_aop (ag := false) [] (encI_ok .u8) hy hb (by kernel_rfl)) ?_
        refine HO.goP 2 (by kernel_rfl) ?_
        refine HO.done (by kernel_rfl) ?_
        refine Kseq_norm ?_
        exact H.ren hS [0, 2, 5] _ _ _ (by kernel_rfl) (grown_L4_ok ((IntKind.i64.wrap (x.2.1 + 1)), x.2.2.2.2.2.2.2.2.1, x.2.2.2.2.2.2.2.2.2, x.2.2.2.2.2.1, y3) r h W0 w0 S hS)
    · rw [if_neg (ne_true hb)] at h
      refine H.skipP (by kernel_rfl) ?_
      refine Kseq_norm ?_
      refine H.seqP (by kernel_rfl) ?_
      refine H.seqP (by kernel_rfl) ?_
      refine H.regP (by kernel_rfl) ?_
      refine HO.goP 1 (by kernel_rfl) ?_
      refine HO.done (by kernel_rfl) ?_
      refine Kseq_norm ?_
      refine H.blockI 0 (by kernel_rfl) ?_
      refine H.loopP (by kernel_rfl) ?_
      refine HL.tkc 2 36 5 4 5 [.int .u8 x.2.2.2.2.2.2.2.2.1, .int .u32 x.2.2.2.2.2.2.2.2.2, .bool x.2.2.2.2.2.1, .slice none 0 0, .slice none 0 0] (.slice none 0 0) #[] (by kernel_rfl) ?_
      exact HL.ren hS [0, 1, 2, 3] _ _ _ (by kernel_rfl) (ih_grown_L5 (x.1, x.2.2.1, (IntKind.i64.wrap (x.2.1 + 1)), 0, x.2.2.2.1, x.2.2.2.2.1, x.2.2.2.2.2.1, x.2.2.2.2.2.2.1, x.2.2.2.2.2.2.2.1, x.2.2.2.2.2.2.2.2.1, x.2.2.2.2.2.2.2.2.2, []) r h W0 w0 S hS)
theorem grown_L6_ok : ∀ (x : (List S65) × Int × Int × Int × Bool × Int × Int × Bool × (List Int) × Int × Int × Int × (List S36)) (r : Int × Int × Bool × (List Int) × (List S36) × Int), grown_L6 x = some r → ∀ (W0 w0 : World) (S : Own), Std W0 w0 S 0 → H Tryd.prog w0 S 102 (cR (cL (cL (cL (cR (cL (cR (cR (cR (cR (cR (cR (cR (cB Tryd.f45)))))))))))))) (mkS [(0, ls 5 false enc65 x.1), (2, .int .i64 x.2.1), (6, .pointer (some ⟨0, 0, none⟩)), (8, .pointer (some ⟨1, 0, none⟩)), (9, .pointer (some ⟨2, 0, none⟩)), (10, .int .i64 x.2.2.1), (11, .int .i64 x.2.2.2.1), (83, .bool x.2.2.2.2.1)] [(0, .cells [.int .u8 0, .int .u32 0, .bool false, .slice none 0 0, .slice none 0 0] 36 5), (1, .cells [.int .u8 x.2.2.2.2.2.1, .int .u32 x.2.2.2.2.2.2.1, .bool x.2.2.2.2.2.2.2.1, ls 1 false (encI .u8) x.2.2.2.2.2.2.2.2.1, .int .u8 x.2.2.2.2.2.2.2.2.2.1] 65 5), (2, .cells [.int .u8 x.2.2.2.2.2.2.2.2.2.2.1, .int .u32 x.2.2.2.2.2.2.2.2.2.2.2.1, .bool x.2.2.2.2.2.2.2.1, .slice none 0 0, tl 5 3 enc36 x.2.2.2.2.2.2.2.2.2.2.2.2] 36 5)] 4 [3]) (Kseq Tryd.prog w0 S 102 (cR (cL (cL (cR (cL (cR (cR (cR (cR (cR (cR (cR (cB Tryd.f45))))))))))))) (Kloop Tryd.prog w0 S 102 (cL (cL (cR (cL (cR (cR (cR (cR (cR (cR (cR (cB Tryd.f45)))))))))))) (Kblock 0 (Kseq Tryd.prog w0 S 102 (cR (cR (cR (cR (cR (cR (cR (cR (cB Tryd.f45))))))))) (KEnd Tryd.prog Tryd.f45 (PEnd w0 S (.returned (.tuple #[.agg #[.int .u8 r.1, .int .u32 r.2.1, .bool r.2.2.1, ls 1 false (encI .u8) r.2.2.2.1, ls 5 false enc36 r.2.2.2.2.1], .int .i64 r.2.2.2.2.2])))))))) := grown_L6_grp.1
theorem grown_L5_ok : ∀ (x : (List S65) × Int × Int × Int × Int × Int × Bool × (List Int) × Int × Int × Int × (List S36)) (r : Int × Int × Bool × (List Int) × (List S36) × Int), grown_L5 x = some r → ∀ (W0 w0 : World) (S : Own), Std W0 w0 S 0 → HL Tryd.prog w0 S 102 (cL (cL (cR (cL (cR (cR (cR (cR (cR (cR (cR (cB Tryd.f45)))))))))))) (mkS [(0, ls 5 false enc65 x.1), (2, .int .i64 x.2.1), (6, .pointer (some ⟨0, 0, none⟩)), (8, .pointer (some ⟨1, 0, none⟩)), (9, .pointer (some ⟨2, 0, none⟩)), (10, .int .i64 x.2.2.1), (11, .int .i64 x.2.2.2.1)] [(0, .cells [.int .u8 0, .int .u32 0, .bool false, .slice none 0 0, .slice none 0 0] 36 5), (1, .cells [.int .u8 x.2.2.2.2.1, .int .u32 x.2.2.2.2.2.1, .bool x.2.2.2.2.2.2.1, ls 1 false (encI .u8) x.2.2.2.2.2.2.2.1, .int .u8 x.2.2.2.2.2.2.2.2.1] 65 5), (2, .cells [.int .u8 x.2.2.2.2.2.2.2.2.2.1, .int .u32 x.2.2.2.2.2.2.2.2.2.2.1, .bool x.2.2.2.2.2.2.1, .slice none 0 0, tl 5 3 enc36 x.2.2.2.2.2.2.2.2.2.2.2] 36 5)] 4 [3]) (Kblock 0 (Kseq Tryd.prog w0 S 102 (cR (cR (cR (cR (cR (cR (cR (cR (cB Tryd.f45))))))))) (KEnd Tryd.prog Tryd.f45 (PEnd w0 S (.returned (.tuple #[.agg #[.int .u8 r.1, .int .u32 r.2.1, .bool r.2.2.1, ls 1 false (encI .u8) r.2.2.2.1, ls 5 false enc36 r.2.2.2.2.1], .int .i64 r.2.2.2.2.2])))))) := grown_L6_grp.2.1
theorem grown_ok : ∀ (x : (List S65) × Int × Int) (r : Int × Int × Bool × (List Int) × (List S36) × Int), grown x = some r → ∀ W0 : World, PTo Tryd.prog W0 45 #[ls 5 false enc65 x.1, .int .i64 x.2.1, .int .i64 x.2.2] (.returned (.tuple #[.agg #[.int .u8 r.1, .int .u32 r.2.1, .bool r.2.2.1, ls 1 false (encI .u8) r.2.2.2.1, ls 5 false enc36 r.2.2.2.2.1], .int .i64 r.2.2.2.2.2])) := grown_L6_grp.2.2.1
theorem grown_L1_ok : ∀ (x : (List S65) × Int × Int × Bool) (r : Int × Int × Bool × (List Int) × (List S36) × Int), grown_L1 x = some r → ∀ (W0 w0 : World) (S : Own), Std W0 w0 S 0 → H Tryd.prog w0 S 102 (cR (cL (cR (cB Tryd.f45)))) (mkS [(0, ls 5 false enc65 x.1), (1, .int .i64 x.2.1), (2, .int .i64 x.2.2.1), (6, .pointer (some ⟨0, 0, none⟩)), (20, .bool x.2.2.2)] [(0, .cells [.int .u8 0, .int .u32 0, .bool false, .slice none 0 0, .slice none 0 0] 36 5)] 1 []) (Kseq Tryd.prog w0 S 102 (cR (cR (cB Tryd.f45))) (KEnd Tryd.prog Tryd.f45 (PEnd w0 S (.returned (.tuple #[.agg #[.int .u8 r.1, .int .u32 r.2.1, .bool r.2.2.1, ls 1 false (encI .u8) r.2.2.2.1, ls 5 false enc36 r.2.2.2.2.1], .int .i64 r.2.2.2.2.2]))))) := grown_L6_grp.2.2.2.1
theorem grown_L2_ok : ∀ (x : (List S65) × Int × Int × Bool × Int × Int × Bool × (List Int) × Int × Int × Int) (r : Int × Int × Bool × (List Int) × (List S36) × Int), grown_L2 x = some r → ∀ (W0 w0 : World) (S : Own), Std W0 w0 S 0 → H Tryd.prog w0 S 102 (cR (cL (cR (cR (cR (cR (cB Tryd.f45))))))) (mkS [(0, ls 5 false enc65 x.1), (1, .int .i64 x.2.1), (2, .int .i64 x.2.2.1), (6, .pointer (some ⟨0, 0, none⟩)), (8, .pointer (some ⟨1, 0, none⟩)), (9, .pointer (some ⟨2, 0, none⟩)), (45, .bool x.2.2.2.1)] [(0, .cells [.int .u8 0, .int .u32 0, .bool false, .slice none 0 0, .slice none 0 0] 36 5), (1, .cells [.int .u8 x.2.2.2.2.1, .int .u32 x.2.2.2.2.2.1, .bool x.2.2.2.2.2.2.1, ls 1 false (encI .u8) x.2.2.2.2.2.2.2.1, .int .u8 x.2.2.2.2.2.2.2.2.1] 65 5), (2, .cells [.int .u8 x.2.2.2.2.2.2.2.2.2.1, .int .u32 x.2.2.2.2.2.2.2.2.2.2, .bool x.2.2.2.2.2.2.1, .slice none 0 0, .slice none 0 0] 36 5)] 3 []) (Kseq Tryd.prog w0 S 102 (cR (cR (cR (cR (cR (cB Tryd.f45)))))) (KEnd Tryd.prog Tryd.f45 (PEnd w0 S (.returned (.tuple #[.agg #[.int .u8 r.1, .int .u32 r.2.1, .bool r.2.2.1, ls 1 false (encI .u8) r.2.2.2.1, ls 5 false enc36 r.2.2.2.2.1], .int .i64 r.2.2.2.2.2]))))) := grown_L6_grp.2.2.2.2.1
theorem grown_L3_ok : ∀ (x : (List S65) × Int × Int × Int × Int × Bool × (List Int) × Int × Int × Int) (r : Int × Int × Bool × (List Int) × (List S36) × Int), grown_L3 x = some r → ∀ (W0 w0 : World) (S : Own), Std W0 w0 S 0 → H Tryd.prog w0 S 102 (cR (cR (cR (cR (cR (cB Tryd.f45)))))) (mkS [(0, ls 5 false enc65 x.1), (1, .int .i64 x.2.1), (2, .int .i64 x.2.2.1), (6, .pointer (some ⟨0, 0, none⟩)), (8, .pointer (some ⟨1, 0, none⟩)), (9, .pointer (some ⟨2, 0, none⟩))] [(0, .cells [.int .u8 0, .int .u32 0, .bool false, .slice none 0 0, .slice none 0 0] 36 5), (1, .cells [.int .u8 x.2.2.2.1, .int .u32 x.2.2.2.2.1, .bool x.2.2.2.2.2.1, ls 1 false (encI .u8) x.2.2.2.2.2.2.1, .int .u8 x.2.2.2.2.2.2.2.1] 65 5), (2, .cells [.int .u8 x.2.2.2.2.2.2.2.2.1, .int .u32 x.2.2.2.2.2.2.2.2.2, .bool x.2.2.2.2.2.1, .slice none 0 0, .slice none 0 0] 36 5)] 3 []) (KEnd Tryd.prog Tryd.f45 (PEnd w0 S (.returned (.tuple #[.agg #[.int .u8 r.1, .int .u32 r.2.1, .bool r.2.2.1, ls 1 false (encI .u8) r.2.2.2.1, ls 5 false enc36 r.2.2.2.2.1], .int .i64 r.2.2.2.2.2])))) := grown_L6_grp.2.2.2.2.2
def tOf (x : (List S65)) : Option (Int × Int × Bool × (List Int) × (List S36)) :=
  (grown (x, 0, 1)) >>= fun y1 =>
  some (y1.1, y1.2.1, y1.2.2.1, y1.2.2.2.1, y1.2.2.2.2.1)
theorem tOf_ok : ∀ (x : (List S65)) (r : Int × Int × Bool × (List Int) × (List S36)), tOf x = some r → ∀ W0 : World, PTo Tryd.prog W0 15 #[ls 5 false enc65 x] (.returned (.agg #[.int .u8 r.1, .int .u32 r.2.1, .bool r.2.2.1, ls 1 false (encI .u8) r.2.2.2.1, ls 5 false enc36 r.2.2.2.2])) := by
  intro x r h
  unfold tOf at h
  intro W0
  refine PTo.of_body (fn := Tryd.f15) (code := cB Tryd.f15) Tryd.func15 rfl rfl ?_
  intro w0 S hS
  haveI := hS.noEx Tryd.prog
  refine H.seqP (by kernel_rfl) ?_
  refine H.regP (by kernel_rfl) ?_
  refine HO.goP 1 (by kernel_rfl) ?_
  refine HO.done (by kernel_rfl) ?_
  refine Kseq_norm ?_
  refine H.seqP (by kernel_rfl) ?_
  refine H.regP (by kernel_rfl) ?_
  refine HO.goP 1 (by kernel_rfl) ?_
  obtain ⟨y1, hy, h⟩ := bindS h
  refine HO.callW hS [.list 5 false, .keep, .keep] (grown_ok (x, 0, 1) y1 hy W0) (by kernel_rfl) (by kernel_rfl) ?_
  refine HO.goP 6 (by kernel_rfl) ?_
  refine HO.done (by kernel_rfl) ?_
  refine Kseq_norm ?_
  refine H.seqP (by kernel_rfl) ?_
  refine H.regP (by kernel_rfl) ?_
  refine HO.goP 2 (by kernel_rfl) ?_
  refine HO.done (by kernel_rfl) ?_
  refine Kseq_norm ?_
  refine H.retP (by kernel_rfl) ?_
  obtain rfl := Option.some.inj h
  exact KEnd.retW (v := .agg #[.int .u8 y1.1, .int .u32 y1.2.1, .bool y1.2.2.1, ls 1 false (encI .u8) y1.2.2.2.1, ls 5 false enc36 y1.2.2.2.2.1]) (.agg [.keep, .keep, .keep, .list 1 false, .list 5 false]) (by kernel_rfl) (by kernel_rfl) (by kernel_rfl) (by kernel_rfl)
mutual
def measure_L2 (x : Int × (List S36) × Int × Int × Int) : Option (Bool × Int) :=
  if x.2.2.2.1 < x.2.2.1 then
    (at' x.2.1 x.2.2.2.1) >>= fun y1 =>
    (measure (y1.c0, y1.c1, y1.c2, y1.c3, y1.c4, (IntKind.i64.wrap (x.1 + 1)), x.2.2.2.2)) >>= fun y2 =>
    if (!y2.1) = true then
      some (false, y2.2)
    else
      measure_L2 (x.1, x.2.1, x.2.2.1, (IntKind.i64.wrap (x.2.2.2.1 + 1)), y2.2)
  else
    some (true, x.2.2.2.2)
partial_fixpoint
def measure (x : Int × Int × Bool × (List Int) × (List S36) × Int × Int) : Option (Bool × Int) :=
  if 16 < x.2.2.2.2.2.1 then
    measure_L1 (x.2.2.2.2.2.1, true, (IntKind.i64.wrap (x.2.2.2.2.2.2 + 1)), x.1, x.2.1, x.2.2.1, x.2.2.2.1, x.2.2.2.2.1)
  else
    measure_L1 (x.2.2.2.2.2.1, (decide (1024 < (IntKind.i64.wrap (x.2.2.2.2.2.2 + 1)))), (IntKind.i64.wrap (x.2.2.2.2.2.2 + 1)), x.1, x.2.1, x.2.2.1, x.2.2.2.1, x.2.2.2.2.1)
partial_fixpoint
def measure_L1 (x : Int × Bool × Int × Int × Int × Bool × (List Int) × (List S36)) : Option (Bool × Int) :=
  if x.2.1 = true then
    some (false, x.2.2.1)
  else
    measure_L2 (x.1, x.2.2.2.2.2.2.2, (x.2.2.2.2.2.2.2.length : Int), 0, x.2.2.1)
partial_fixpoint
end
theorem measure_L2_grp : (∀ (x : Int × (List S36) × Int × Int × Int) (r : Bool × Int), measure_L2 x = some r → ∀ (W0 w0 : World) (S : Own), Std W0 w0 S 1 → HL Tryd.prog w0 S 36 (cL (cL (cR (cL (cR (cR (cR (cB Tryd.f53)))))))) (mkS [(1, .int .i64 x.1), (2, .pointer (some ⟨0, 0, none⟩)), (23, ls 5 false enc36 x.2.1), (24, .int .i64 x.2.2.1), (25, .int .i64 x.2.2.2.1)] [(0, .cells [.int .i64 x.2.2.2.2] 3 1)] 1 []) (Kblock 0 (Kseq Tryd.prog w0 S 36 (cR (cR (cR (cR (cB Tryd.f53))))) (KEnd Tryd.prog Tryd.f53 (FEnd w0 S (.returned (.bool r.1)) (mkW 1 [] [(0, .cells [.int .i64 r.2] 3 1)])))))) ∧
  (∀ (x : Int × Int × Bool × (List Int) × (List S36) × Int × Int) (r : Bool × Int), measure x = some r → ∀ W0 : World, FTo Tryd.prog W0 53 #[.agg #[.int .u8 x.1, .int .u32 x.2.1, .bool x.2.2.1, ls 1 false (encI .u8) x.2.2.2.1, ls 5 false enc36 x.2.2.2.2.1], .int .i64 x.2.2.2.2.2.1, .pointer (some ⟨0, 0, none⟩)] (mkW 1 [] [(0, .cells [.int .i64 x.2.2.2.2.2.2] 3 1)]) (.returned (.bool r.1)) (mkW 1 [] [(0, .cells [.int .i64 r.2] 3 1)])) ∧
  (∀ (x : Int × Bool × Int × Int × Int × Bool × (List Int) × (List S36)) (r : Bool × Int), measure_L1 x = some r → ∀ (W0 w0 : World) (S : Own), Std W0 w0 S 1 → H Tryd.prog w0 S 36 (cR (cL (cR (cR (cB Tryd.f53))))) (mkS [(1, .int .i64 x.1), (2, .pointer (some ⟨0, 0, none⟩)), (3, .pointer (some ⟨1, 0, none⟩)), (21, .bool x.2.1)] [(0, .cells [.int .i64 x.2.2.1] 3 1), (1, .cells [.int .u8 x.2.2.2.1, .int .u32 x.2.2.2.2.1, .bool x.2.2.2.2.2.1, ls 1 false (encI .u8) x.2.2.2.2.2.2.1, ls 5 false enc36 x.2.2.2.2.2.2.2] 36 5)] 2 []) (Kseq Tryd.prog w0 S 36 (cR (cR (cR (cB Tryd.f53)))) (KEnd Tryd.prog Tryd.f53 (FEnd w0 S (.returned (.bool r.1)) (mkW 1 [] [(0, .cells [.int .i64 r.2] 3 1)]))))) := by
  refine measure_L2.mutual_partial_correctness (fun (x : Int × (List S36) × Int × Int × Int) (r : Bool × Int) => ∀ (W0 w0 : World) (S : Own), Std W0 w0 S 1 → HL Tryd.prog w0 S 36 (cL (cL (cR (cL (cR (cR (cR (cB Tryd.f53)))))))) (mkS [(1, .int .i64 x.1), (2, .pointer (some ⟨0, 0, none⟩)), (23, ls 5 false enc36 x.2.1), (24, .int .i64 x.2.2.1), (25, .int .i64 x.2.2.2.1)] [(0, .cells [.int .i64 x.2.2.2.2] 3 1)] 1 []) (Kblock 0 (Kseq Tryd.prog w0 S 36 (cR (cR (cR (cR (cB Tryd.f53))))) (KEnd Tryd.prog Tryd.f53 (FEnd w0 S (.returned (.bool r.1)) (mkW 1 [] [(0, .cells [.int .i64 r.2] 3 1)])))))) (fun (x : Int × Int × Bool × (List Int) × (List S36) × Int × Int) (r : Bool × Int) => ∀ W0 : World, FTo Tryd.prog W0 53 #[.agg #[.int .u8 x.1, .int .u32 x.2.1, .bool x.2.2.1, ls 1 false (encI .u8) x.2.2.2.1, ls 5 false enc36 x.2.2.2.2.1], .int .i64 x.2.2.2.2.2.1, .pointer (some ⟨0, 0, none⟩)] (mkW 1 [] [(0, .cells [.int .i64 x.2.2.2.2.2.2] 3 1)]) (.returned (.bool r.1)) (mkW 1 [] [(0, .cells [.int .i64 r.2] 3 1)])) (fun (x : Int × Bool × Int × Int × Int × Bool × (List Int) × (List S36)) (r : Bool × Int) => ∀ (W0 w0 : World) (S : Own), Std W0 w0 S 1 → H Tryd.prog w0 S 36 (cR (cL (cR (cR (cB Tryd.f53))))) (mkS [(1, .int .i64 x.1), (2, .pointer (some ⟨0, 0, none⟩)), (3, .pointer (some ⟨1, 0, none⟩)), (21, .bool x.2.1)] [(0, .cells [.int .i64 x.2.2.1] 3 1), (1, .cells [.int .u8 x.2.2.2.1, .int .u32 x.2.2.2.2.1, .bool x.2.2.2.2.2.1, ls 1 false (encI .u8) x.2.2.2.2.2.2.1, ls 5 false enc36 x.2.2.2.2.2.2.2] 36 5)] 2 []) (Kseq Tryd.prog w0 S 36 (cR (cR (cR (cB Tryd.f53)))) (KEnd Tryd.prog Tryd.f53 (FEnd w0 S (.returned (.bool r.1)) (mkW 1 [] [(0, .cells [.int .i64 r.2] 3 1)]))))) ?_ ?_ ?_
  · intro g_measure_L2 g_measure ih_measure_L2 ih_measure x r h
    intro W0 w0 S hS
    haveI := hS.noEx Tryd.prog
    refine HL.round ?_
    refine H.seqP (by kernel_rfl) ?_
    refine H.regP (by kernel_rfl) ?_
    refine HO.goP 1 (by kernel_rfl) ?_
    refine HO.done (by kernel_rfl) ?_
    refine Kseq_norm ?_
    refine H.seqP (by kernel_rfl) ?_
    refine H.condS (b := decide (x.2.2.2.1 < x.2.2.1)) (by kernel_rfl) (by kernel_rfl) (fun hb => ?_) (fun hb => ?_)
    · rw [if_pos (of_decide_eq_true hb)] at h
      refine H.skipP (by kernel_rfl) ?_
      refine Kseq_norm ?_
      refine H.seqP (by kernel_rfl) ?_
      refine H.blockI 1 (by kernel_rfl) ?_
      refine H.seqP (by kernel_rfl) ?_
      refine H.regP (by kernel_rfl) ?_
      obtain ⟨y1, hy, h⟩ := bindS h
      refine HO.idx (.agg #[.int .u8 y1.c0, .int .u32 y1.c1, .bool y1.c2, ls 1 false (encI .u8) y1.c3, ls 5 false enc36 y1.c4]) hy (enc36_eq y1) (by kernel_rfl) ?_
      refine HO.goP 3 (by kernel_rfl) ?_
      refine HO.done (by kernel_rfl) ?_
      refine Kseq_norm ?_
      refine H.seqP (by kernel_rfl) ?_
      refine H.regP (by kernel_rfl) ?_
      refine HO.goP 4 (by kernel_rfl) ?_
      obtain ⟨y2, hy, h⟩ := bindS h
      refine HO.callFW hS (.bool y2.1) 2 [] [(0, .cells [.int .i64 y2.2] 3 1), (1, .cells [.int .u8 y1.c0, .int .u32 y1.c1, .bool y1.c2, ls 1 false (encI .u8) y1.c3, ls 5 false enc36 y1.c4] 36 5)] [0] [.agg [.keep, .keep, .keep, .list 1 false, .list 5 false], .keep, .keep] (ih_measure (y1.c0, y1.c1, y1.c2, y1.c3, y1.c4, (IntKind.i64.wrap (x.1 + 1)), x.2.2.2.2) y2 hy W0) (by kernel_rfl) (by kernel_rfl) ?_
      refine HO.goP 1 (by kernel_rfl) ?_
      refine HO.done (by kernel_rfl) ?_
      refine Kseq_norm ?_
      refine H.condS (b := !y2.1) (by kernel_rfl) (by kernel_rfl) (fun hb => ?_) (fun hb => ?_)
      · rw [if_pos hb] at h
        refine H.seqP (by kernel_rfl) ?_
        refine H.regP (by kernel_rfl) ?_
        refine HO.goP 1 (by kernel_rfl) ?_
        refine HO.done (by kernel_rfl) ?_
        refine Kseq_norm ?_
        refine H.retP (by kernel_rfl) ?_
        refine Kblock_ret ?_
        refine Kseq_ret ?_
        refine Kloop_ret ?_
        refine Kblock_ret ?_
        refine Kseq_ret ?_
        obtain rfl := Option.some.inj h
        exact KEnd.of (v := .bool false) (by kernel_rfl) (by kernel_rfl) (FEnd.ren hS [0] _ _ (by kernel_rfl))
      · rw [if_neg (ne_true hb)] at h
        refine H.skipP (by kernel_rfl) ?_
        refine Kblock_norm ?_
        refine Kseq_norm ?_
        refine H.regP (by kernel_rfl) ?_
        refine HO.goP 2 (by kernel_rfl) ?_
        refine HO.done (by kernel_rfl) ?_
        refine Kloop_norm ?_
        exact HL.ren hS [0] _ _ _ (by kernel_rfl) (ih_measure_L2 (x.1, x.2.1, x.2.2.1, (IntKind.i64.wrap (x.2.2.2.1 + 1)), y2.2) r h W0 w0 S hS)
    · rw [if_neg (of_decide_eq_false hb)] at h
      refine H.exitI 0 (by kernel_rfl) ?_
      refine Kseq_exit ?_
      refine Kloop_exit ?_
      refine Kblock_hit ?_
      refine Kseq_norm ?_
      refine H.seqP (by kernel_rfl) ?_
      refine H.regP (by kernel_rfl) ?_
      refine HO.goP 1 (by kernel_rfl) ?_
      refine HO.done (by kernel_rfl) ?_
      refine Kseq_norm ?_
      refine H.retP (by kernel_rfl) ?_
      obtain rfl := Option.some.inj h
      exact KEnd.of (v := .bool true) (by kernel_rfl) (by kernel_rfl) (FEnd.ren hS [0] _ _ (by kernel_rfl))
  · intro g_measure_L1 ih_measure_L1 x r h
    intro W0
    refine FTo.of_body (fn := Tryd.f53) (code := cB Tryd.f53) Tryd.func53 rfl rfl ?_
    intro w0 S hS
    haveI := hS.noEx Tryd.prog
    refine H.seqP (by kernel_rfl) ?_
    refine H.regP (by kernel_rfl) ?_
    refine HO.goP 2 (by kernel_rfl) ?_
    refine HO.done (by kernel_rfl) ?_
    refine Kseq_norm ?_
    refine H.seqP (by kernel_rfl) ?_
    refine H.regP (by kernel_rfl) ?_
    refine HO.goP 6 (by kernel_rfl) ?_
    refine HO.done (by kernel_rfl) ?_
    refine Kseq_norm ?_
    refine H.seqP (by kernel_rfl) ?_
    refine H.seqP (by kernel_rfl) ?_
    refine H.regP (by kernel_rfl) ?_
    refine HO.goP 2 (by kernel_rfl) ?_
    refine HO.boolP (decide (16 < x.2.2.2.2.2.1)) (by kernel_rfl) (by kernel_rfl) (fun hb => ?_) (fun hb => ?_)
    · rw [if_pos (of_decide_eq_true hb)] at h
      refine HO.goP 5 (by kernel_rfl) ?_
      refine HO.done (by kernel_rfl) ?_
      refine Kseq_norm ?_
      exact H.ren hS [0, 1] _ _ _ (by kernel_rfl) (ih_measure_L1 (x.2.2.2.2.2.1, true, (IntKind.i64.wrap (x.2.2.2.2.2.2 + 1)), x.1, x.2.1, x.2.2.1, x.2.2.2.1, x.2.2.2.2.1) r h W0 w0 S hS)
    · rw [if_neg (of_decide_eq_false hb)] at h
      refine HO.goP 5 (by kernel_rfl) ?_
      refine HO.done (by kernel_rfl) ?_
      refine Kseq_norm ?_
      exact H.ren hS [0, 1] _ _ _ (by kernel_rfl) (ih_measure_L1 (x.2.2.2.2.2.1, (decide (1024 < (IntKind.i64.wrap (x.2.2.2.2.2.2 + 1)))), (IntKind.i64.wrap (x.2.2.2.2.2.2 + 1)), x.1, x.2.1, x.2.2.1, x.2.2.2.1, x.2.2.2.2.1) r h W0 w0 S hS)
  · intro g_measure_L2 ih_measure_L2 x r h
    intro W0 w0 S hS
    haveI := hS.noEx Tryd.prog
    refine H.condS (b := x.2.1) (by kernel_rfl) (by kernel_rfl) (fun hb => ?_) (fun hb => ?_)
    · rw [if_pos hb] at h
      refine H.seqP (by kernel_rfl) ?_
      refine H.regP (by kernel_rfl) ?_
      refine HO.goP 1 (by kernel_rfl) ?_
      refine HO.done (by kernel_rfl) ?_
      refine Kseq_norm ?_
      refine H.retP (by kernel_rfl) ?_
      refine Kseq_ret ?_
      obtain rfl := Option.some.inj h
      exact KEnd.of (v := .bool false) (by kernel_rfl) (by kernel_rfl) (FEnd.ren hS [0] _ _ (by kernel_rfl))
    · rw [if_neg (ne_true hb)] at h
      refine H.skipP (by kernel_rfl) ?_
      refine Kseq_norm ?_
      refine H.seqP (by kernel_rfl) ?_
      refine H.seqP (by kernel_rfl) ?_
      refine H.regP (by kernel_rfl) ?_
      refine HO.goP 2 (by kernel_rfl) ?_
      refine HO.len (by kernel_rfl) (by kernel_rfl) (ls_size enc36 x.2.2.2.2.2.2.2) ?_
      refine HO.goP 1 (by kernel_rfl) ?_
      refine HO.done (by kernel_rfl) ?_
      refine Kseq_norm ?_
      refine H.blockI 0 (by kernel_rfl) ?_
      refine H.loopP (by kernel_rfl) ?_
      exact HL.ren hS [0] _ _ _ (by kernel_rfl) (ih_measure_L2 (x.1, x.2.2.2.2.2.2.2, (x.2.2.2.2.2.2.2.length : Int), 0, x.2.2.1) r h W0 w0 S hS)
theorem measure_L2_ok : ∀ (x : Int × (List S36) × Int × Int × Int) (r : Bool × Int), measure_L2 x = some r → ∀ (W0 w0 : World) (S : Own), Std W0 w0 S 1 → HL Tryd.prog w0 S 36 (cL (cL (cR (cL (cR (cR (cR (cB Tryd.f53)))))))) (mkS [(1, .int .i64 x.1), (2, .pointer (some ⟨0, 0, none⟩)), (23, ls 5 false enc36 x.2.1), (24, .int .i64 x.2.2.1), (25, .int .i64 x.2.2.2.1)] [(0, .cells [.int .i64 x.2.2.2.2] 3 1)] 1 []) (Kblock 0 (Kseq Tryd.prog w0 S 36 (cR (cR (cR (cR (cB Tryd.f53))))) (KEnd Tryd.prog Tryd.f53 (FEnd w0 S (.returned (.bool r.1)) (mkW 1 [] [(0, .cells [.int .i64 r.2] 3 1)]))))) := measure_L2_grp.1
theorem measure_ok : ∀ (x : Int × Int × Bool × (List Int) × (List S36) × Int × Int) (r : Bool × Int), measure x = some r → ∀ W0 : World, FTo Tryd.prog W0 53 #[.agg #[.int .u8 x.1, .int .u32 x.2.1, .bool x.2.2.1, ls 1 false (encI .u8) x.2.2.2.1, ls 5 false enc36 x.2.2.2.2.1], .int .i64 x.2.2.2.2.2.1, .pointer (some ⟨0, 0, none⟩)] (mkW 1 [] [(0, .cells [.int .i64 x.2.2.2.2.2.2] 3 1)]) (.returned (.bool r.1)) (mkW 1 [] [(0, .cells [.int .i64 r.2] 3 1)]) := measure_L2_grp.2.1
theorem measure_L1_ok : ∀ (x : Int × Bool × Int × Int × Int × Bool × (List Int) × (List S36)) (r : Bool × Int), measure_L1 x = some r → ∀ (W0 w0 : World) (S : Own), Std W0 w0 S 1 → H Tryd.prog w0 S 36 (cR (cL (cR (cR (cB Tryd.f53))))) (mkS [(1, .int .i64 x.1), (2, .pointer (some ⟨0, 0, none⟩)), (3, .pointer (some ⟨1, 0, none⟩)), (21, .bool x.2.1)] [(0, .cells [.int .i64 x.2.2.1] 3 1), (1, .cells [.int .u8 x.2.2.2.1, .int .u32 x.2.2.2.2.1, .bool x.2.2.2.2.2.1, ls 1 false (encI .u8) x.2.2.2.2.2.2.1, ls 5 false enc36 x.2.2.2.2.2.2.2] 36 5)] 2 []) (Kseq Tryd.prog w0 S 36 (cR (cR (cR (cB Tryd.f53)))) (KEnd Tryd.prog Tryd.f53 (FEnd w0 S (.returned (.bool r.1)) (mkW 1 [] [(0, .cells [.int .i64 r.2] 3 1)])))) := measure_L2_grp.2.2
mutual
def indexF_L1 (x : (List S36) × Int × Int) : Option (Int) :=
  if x.2.2 < x.2.1 then
    (at' x.1 x.2.2) >>= fun y1 =>
    (plainF (y1.c0, y1.c1, y1.c2, y1.c3, y1.c4)) >>= fun y2 =>
    if y2 = true then
      some x.2.2
    else
      indexF_L1 (x.1, x.2.1, (IntKind.i64.wrap (x.2.2 + 1)))
  else
    some (-1)
partial_fixpoint
def plainF (x : Int × Int × Bool × (List Int) × (List S36)) : Option (Bool) :=
  (plain (x.1, x.2.1, x.2.2.1, x.2.2.2.1, x.2.2.2.2)) >>= fun y1 =>
  some (!y1)
partial_fixpoint
def plain (x : Int × Int × Bool × (List Int) × (List S36)) : Option (Bool) :=
  if 3 < x.1 then
    plain_L1 (true, x.1, x.2.1, x.2.2.1, x.2.2.2.1, x.2.2.2.2)
  else
    if 2097151 < x.2.1 then
      plain_L1 (true, x.1, x.2.1, x.2.2.1, x.2.2.2.1, x.2.2.2.2)
    else
      if x.1 = 0 then
        plain_L1 ((decide (x.2.1 = 0)), x.1, x.2.1, x.2.2.1, x.2.2.2.1, x.2.2.2.2)
      else
        plain_L1 (false, x.1, x.2.1, x.2.2.1, x.2.2.2.1, x.2.2.2.2)
partial_fixpoint
def plain_L1 (x : Bool × Int × Int × Bool × (List Int) × (List S36)) : Option (Bool) :=
  if x.1 = true then
    some false
  else
    if x.2.2.2.1 = true then
      if 0 < (x.2.2.2.2.1.length : Int) then
        plain_L2 (true, x.2.1, x.2.2.1, x.2.2.2.1, x.2.2.2.2.1, x.2.2.2.2.2)
      else
        if (!x.2.2.2.1) = true then
          plain_L2 ((decide (0 < (x.2.2.2.2.2.length : Int))), x.2.1, x.2.2.1, x.2.2.2.1, x.2.2.2.2.1, x.2.2.2.2.2)
        else
          plain_L2 (false, x.2.1, x.2.2.1, x.2.2.2.1, x.2.2.2.2.1, x.2.2.2.2.2)
    else
      if (!x.2.2.2.1) = true then
        plain_L2 ((decide (0 < (x.2.2.2.2.2.length : Int))), x.2.1, x.2.2.1, x.2.2.2.1, x.2.2.2.2.1, x.2.2.2.2.2)
      else
        plain_L2 (false, x.2.1, x.2.2.1, x.2.2.2.1, x.2.2.2.2.1, x.2.2.2.2.2)
partial_fixpoint
def plain_L2 (x : Bool × Int × Int × Bool × (List Int) × (List S36)) : Option (Bool) :=
  if x.1 = true then
    some false
  else
    (containsF x.2.2.2.2.2) >>= fun y1 =>
    some (!y1)
partial_fixpoint
def containsF (x : (List S36)) : Option (Bool) :=
  (indexF x) >>= fun y1 =>
  some (decide (0 ≤ y1))
partial_fixpoint
def indexF (x : (List S36)) : Option (Int) :=
  indexF_L1 (x, (x.length : Int), 0)
partial_fixpoint
end
theorem indexF_L1_grp : (∀ (x : (List S36) × Int × Int) (r : Int), indexF_L1 x = some r → ∀ (W0 w0 : World) (S : Own), Std W0 w0 S 0 → HL Tryd.prog w0 S 19 (cL (cL (cR (cL (cR (cB Tryd.f61)))))) (mkS [(0, ls 5 false enc36 x.1), (1, .func (.func 78) #[] #[]), (7, .int .i64 x.2.1), (8, .int .i64 x.2.2)] [] 0 []) (Kblock 0 (Kseq Tryd.prog w0 S 19 (cR (cR (cB Tryd.f61))) (KEnd Tryd.prog Tryd.f61 (PEnd w0 S (.returned (.int .i64 r))))))) ∧
  (∀ (x : Int × Int × Bool × (List Int) × (List S36)) (r : Bool), plainF x = some r → ∀ W0 : World, PTo Tryd.prog W0 78 #[.agg #[.int .u8 x.1, .int .u32 x.2.1, .bool x.2.2.1, ls 1 false (encI .u8) x.2.2.2.1, ls 5 false enc36 x.2.2.2.2]] (.returned (.bool r))) ∧
  (∀ (x : Int × Int × Bool × (List Int) × (List S36)) (r : Bool), plain x = some r → ∀ W0 : World, PTo Tryd.prog W0 54 #[.agg #[.int .u8 x.1, .int .u32 x.2.1, .bool x.2.2.1, ls 1 false (encI .u8) x.2.2.2.1, ls 5 false enc36 x.2.2.2.2]] (.returned (.bool r))) ∧
  (∀ (x : Bool × Int × Int × Bool × (List Int) × (List S36)) (r : Bool), plain_L1 x = some r → ∀ (W0 w0 : World) (S : Own), Std W0 w0 S 0 → H Tryd.prog w0 S 44 (cR (cL (cR (cB Tryd.f54)))) (mkS [(1, .pointer (some ⟨0, 0, none⟩)), (20, .bool x.1)] [(0, .cells [.int .u8 x.2.1, .int .u32 x.2.2.1, .bool x.2.2.2.1, ls 1 false (encI .u8) x.2.2.2.2.1, ls 5 false enc36 x.2.2.2.2.2] 36 5)] 1 []) (Kseq Tryd.prog w0 S 44 (cR (cR (cB Tryd.f54))) (KEnd Tryd.prog Tryd.f54 (PEnd w0 S (.returned (.bool r)))))) ∧
  (∀ (x : Bool × Int × Int × Bool × (List Int) × (List S36)) (r : Bool), plain_L2 x = some r → ∀ (W0 w0 : World) (S : Own), Std W0 w0 S 0 → H Tryd.prog w0 S 44 (cR (cL (cR (cR (cB Tryd.f54))))) (mkS [(1, .pointer (some ⟨0, 0, none⟩)), (39, .bool x.1)] [(0, .cells [.int .u8 x.2.1, .int .u32 x.2.2.1, .bool x.2.2.2.1, ls 1 false (encI .u8) x.2.2.2.2.1, ls 5 false enc36 x.2.2.2.2.2] 36 5)] 1 []) (Kseq Tryd.prog w0 S 44 (cR (cR (cR (cB Tryd.f54)))) (KEnd Tryd.prog Tryd.f54 (PEnd w0 S (.returned (.bool r)))))) ∧
  (∀ (x : (List S36)) (r : Bool), containsF x = some r → ∀ W0 : World, PTo Tryd.prog W0 77 #[ls 5 false enc36 x, .func (.func 78) #[] #[]] (.returned (.bool r))) ∧
  (∀ (x : (List S36)) (r : Int), indexF x = some r → ∀ W0 : World, PTo Tryd.prog W0 61 #[ls 5 false enc36 x, .func (.func 78) #[] #[]] (.returned (.int .i64 r))) := by
  refine indexF_L1.mutual_partial_correctness (fun (x : (List S36) × Int × Int) (r : Int) => ∀ (W0 w0 : World) (S : Own), Std W0 w0 S 0 → HL Tryd.prog w0 S 19 (cL (cL (cR (cL (cR (cB Tryd.f61)))))) (mkS [(0, ls 5 false enc36 x.1), (1, .func (.func 78) #[] #[]), (7, .int .i64 x.2.1), (8, .int .i64 x.2.2)] [] 0 []) (Kblock 0 (Kseq Tryd.prog w0 S 19 (cR (cR (cB Tryd.f61))) (KEnd Tryd.prog Tryd.f61 (PEnd w0 S (.returned (.int .i64 r))))))) (fun (x : Int × Int × Bool × (List Int) × (List S36)) (r : Bool) => ∀ W0 : World, PTo Tryd.prog W0 78 #[.agg #[.int .u8 x.1, .int .u32 x.2.1, .bool x.2.2.1, ls 1 false (encI .u8) x.2.2.2.1, ls 5 false enc36 x.2.2.2.2]] (.returned (.bool r))) (fun (x : Int × Int × Bool × (List Int) × (List S36)) (r : Bool) => ∀ W0 : World, PTo Tryd.prog W0 54 #[.agg #[.int .u8 x.1, .int .u32 x.2.1, .bool x.2.2.1, ls 1 false (encI .u8) x.2.2.2.1, ls 5 false enc36 x.2.2.2.2]] (.returned (.bool r))) (fun (x : Bool × Int × Int × Bool × (List Int) × (List S36)) (r : Bool) => ∀ (W0 w0 : World) (S : Own), Std W0 w0 S 0 → H Tryd.prog w0 S 44 (cR (cL (cR (cB Tryd.f54)))) (mkS [(1, .pointer (some ⟨0, 0, none⟩)), (20, .bool x.1)] [(0, .cells [.int .u8 x.2.1, .int .u32 x.2.2.1, .bool x.2.2.2.1, ls 1 false (encI .u8) x.2.2.2.2.1, ls 5 false enc36 x.2.2.2.2.2] 36 5)] 1 []) (Kseq Tryd.prog w0 S 44 (cR (cR (cB Tryd.f54))) (KEnd Tryd.prog Tryd.f54 (PEnd w0 S (.returned (.bool r)))))) (fun (x : Bool × Int × Int × Bool × (List Int) × (List S36)) (r : Bool) => ∀ (W0 w0 : World) (S : Own), Std W0 w0 S 0 → H Tryd.prog w0 S 44 (cR (cL (cR (cR (cB Tryd.f54))))) (mkS [(1, .pointer (some ⟨0, 0, none⟩)), (39, .bool x.1)] [(0, .cells [.int .u8 x.2.1, .int .u32 x.2.2.1, .bool x.2.2.2.1, ls 1 false (encI .u8) x.2.2.2.2.1, ls 5 false enc36 x.2.2.2.2.2] 36 5)] 1 []) (Kseq Tryd.prog w0 S 44 (cR (cR (cR (cB Tryd.f54)))) (KEnd Tryd.prog Tryd.f54 (PEnd w0 S (.returned (.bool r)))))) (fun (x : (List S36)) (r : Bool) => ∀ W0 : World, PTo Tryd.prog W0 77 #[ls 5 false enc36 x, .func (.func 78) #[] #[]] (.returned (.bool r))) (fun (x : (List S36)) (r : Int) => ∀ W0 : World, PTo Tryd.prog W0 61 #[ls 5 false enc36 x, .func (.func 78) #[] #[]] (.returned (.int .i64 r))) ?_ ?_ ?_ ?_ ?_ ?_ ?_
  · intro g_indexF_L1 g_plainF ih_indexF_L1 ih_plainF x r h
    intro W0 w0 S hS
    haveI := hS.noEx Tryd.prog
    refine HL.round ?_
    refine H.seqP (by kernel_rfl) ?_
    refine H.regP (by kernel_rfl) ?_
    refine HO.goP 1 (by kernel_rfl) ?_
    refine HO.done (by kernel_rfl) ?_
    refine Kseq_norm ?_
    refine H.seqP (by kernel_rfl) ?_
    refine H.condS (b := decide (x.2.2 < x.2.1)) (by kernel_rfl) (by kernel_rfl) (fun hb => ?_) (fun hb => ?_)
    · rw [if_pos (of_decide_eq_true hb)] at h
      refine H.skipP (by kernel_rfl) ?_
      refine Kseq_norm ?_
      refine H.seqP (by kernel_rfl) ?_
      refine H.blockI 1 (by kernel_rfl) ?_
      refine H.seqP (by kernel_rfl) ?_
      refine H.regP (by kernel_rfl) ?_
      refine HO.goP 2 (by kernel_rfl) ?_
      refine HO.done (by kernel_rfl) ?_
      refine Kseq_norm ?_
      refine H.seqP (by kernel_rfl) ?_
      refine H.regP (by kernel_rfl) ?_
      refine HO.goP 3 (by kernel_rfl) ?_
      obtain ⟨y1, hy, h⟩ := bindS h
      refine HO.idx (.agg #[.int .u8 y1.c0, .int .u32 y1.c1, .bool y1.c2, ls 1 false (encI .u8) y1.c3, ls 5 false enc36 y1.c4]) hy (enc36_eq y1) (by kernel_rfl) ?_
      refine HO.goP 1 (by kernel_rfl) ?_
      obtain ⟨y2, hy, h⟩ := bindS h
      refine HO.callW hS [.agg [.keep, .keep, .keep, .list 1 false, .list 5 false]] (ih_plainF (y1.c0, y1.c1, y1.c2, y1.c3, y1.c4) y2 hy W0) (by kernel_rfl) (by kernel_rfl) ?_
      refine HO.done (by kernel_rfl) ?_
      refine Kseq_norm ?_
      refine H.condS (b := y2) (by kernel_rfl) (by kernel_rfl) (fun hb => ?_) (fun hb => ?_)
      · rw [if_pos hb] at h
        refine H.seqP (by kernel_rfl) ?_
        refine H.regP (by kernel_rfl) ?_
        refine HO.goP 2 (by kernel_rfl) ?_
        refine HO.done (by kernel_rfl) ?_
        refine Kseq_norm ?_
        refine H.retP (by kernel_rfl) ?_
        refine Kblock_ret ?_
        refine Kseq_ret ?_
        refine Kloop_ret ?_
        refine Kblock_ret ?_
        refine Kseq_ret ?_
        obtain rfl := Option.some.inj h
        exact KEnd.ret (by kernel_rfl) (by kernel_rfl) (by kernel_rfl)
      · rw [if_neg (ne_true hb)] at h
        refine H.skipP (by kernel_rfl) ?_
        refine Kblock_norm ?_
        refine Kseq_norm ?_
        refine H.regP (by kernel_rfl) ?_
        refine HO.goP 2 (by kernel_rfl) ?_
        refine HO.done (by kernel_rfl) ?_
        refine Kloop_norm ?_
        exact HL.ren hS [] _ _ _ (by kernel_rfl) (ih_indexF_L1 (x.1, x.2.1, (IntKind.i64.wrap (x.2.2 + 1))) r h W0 w0 S hS)
    · rw [if_neg (of_decide_eq_false hb)] at h
      refine H.exitI 0 (by kernel_rfl) ?_
      refine Kseq_exit ?_
      refine Kloop_exit ?_
      refine Kblock_hit ?_
      refine Kseq_norm ?_
      refine H.seqP (by kernel_rfl) ?_
      refine H.regP (by kernel_rfl) ?_
      refine HO.goP 1 (by kernel_rfl) ?_
      refine HO.done (by kernel_rfl) ?_
      refine Kseq_norm ?_
      refine H.retP (by kernel_rfl) ?_
      obtain rfl := Option.some.inj h
      exact KEnd.ret (by kernel_rfl) (by kernel_rfl) (by kernel_rfl)
  · intro g_plain ih_plain x r h
    intro W0
    refine PTo.of_body (fn := Tryd.f78) (code := cB Tryd.f78) Tryd.func78 rfl rfl ?_
    intro w0 S hS
    haveI := hS.noEx Tryd.prog
    refine H.seqP (by kernel_rfl) ?_
    refine H.regP (by kernel_rfl) ?_
    refine HO.goP 2 (by kernel_rfl) ?_
    refine HO.done (by kernel_rfl) ?_
    refine Kseq_norm ?_
    refine H.seqP (by kernel_rfl) ?_
    refine H.regP (by kernel_rfl) ?_
    refine HO.goP 1 (by kernel_rfl) ?_
    obtain ⟨y1, hy, h⟩ := bindS h
    refine HO.callW hS [.agg [.keep, .keep, .keep, .list 1 false, .list 5 false]] (ih_plain (x.1, x.2.1, x.2.2.1, x.2.2.2.1, x.2.2.2.2) y1 hy W0) (by kernel_rfl) (by kernel_rfl) ?_
    refine HO.goP 2 (by kernel_rfl) ?_
    refine HO.done (by kernel_rfl) ?_
    refine Kseq_norm ?_
    refine H.retP (by kernel_rfl) ?_
    obtain rfl := Option.some.inj h
    exact KEnd.ret (by kernel_rfl) (by kernel_rfl) (by kernel_rfl)
  · intro g_plain_L1 ih_plain_L1 x r h
    intro W0
    refine PTo.of_body (fn := Tryd.f54) (code := cB Tryd.f54) Tryd.func54 rfl rfl ?_
    intro w0 S hS
    haveI := hS.noEx Tryd.prog
    refine H.seqP (by kernel_rfl) ?_
    refine H.regP (by kernel_rfl) ?_
    refine HO.goP 2 (by kernel_rfl) ?_
    refine HO.done (by kernel_rfl) ?_
    refine Kseq_norm ?_
    refine H.seqP (by kernel_rfl) ?_
    refine H.seqP (by kernel_rfl) ?_
    refine H.regP (by kernel_rfl) ?_
    refine HO.goP 3 (by kernel_rfl) ?_
    refine HO.boolP (decide (3 < x.1)) (by kernel_rfl) (by kernel_rfl) (fun hb => ?_) (fun hb => ?_)
    · rw [if_pos (of_decide_eq_true hb)] at h
      refine HO.goP 14 (by kernel_rfl) ?_
      refine HO.done (by kernel_rfl) ?_
      refine Kseq_norm ?_
      exact H.ren hS [0] _ _ _ (by kernel_rfl) (ih_plain_L1 (true, x.1, x.2.1, x.2.2.1, x.2.2.2.1, x.2.2.2.2) r h W0 w0 S hS)
    · rw [if_neg (of_decide_eq_false hb)] at h
      refine HO.goP 4 (by kernel_rfl) ?_
      refine HO.boolP (decide (2097151 < x.2.1)) (by kernel_rfl) (by kernel_rfl) (fun hb => ?_) (fun hb => ?_)
      · rw [if_pos (of_decide_eq_true hb)] at h
        refine HO.goP 9 (by kernel_rfl) ?_
        refine HO.done (by kernel_rfl) ?_
        refine Kseq_norm ?_
        exact H.ren hS [0] _ _ _ (by kernel_rfl) (ih_plain_L1 (true, x.1, x.2.1, x.2.2.1, x.2.2.2.1, x.2.2.2.2) r h W0 w0 S hS)
      · rw [if_neg (of_decide_eq_false hb)] at h
        refine HO.goP 3 (by kernel_rfl) ?_
        refine HO.boolP (decide (x.1 = 0)) (by kernel_rfl) (by kernel_rfl) (fun hb => ?_) (fun hb => ?_)
        · rw [if_pos (of_decide_eq_true hb)] at h
          refine HO.goP 5 (by kernel_rfl) ?_
          refine HO.done (by kernel_rfl) ?_
          refine Kseq_norm ?_
          exact H.ren hS [0] _ _ _ (by kernel_rfl) (ih_plain_L1 ((decide (x.2.1 = 0)), x.1, x.2.1, x.2.2.1, x.2.2.2.1, x.2.2.2.2) r h W0 w0 S hS)
        · rw [if_neg (of_decide_eq_false hb)] at h
          refine HO.goP 5 (by kernel_rfl) ?_
          refine HO.done (by kernel_rfl) ?_
          refine Kseq_norm ?_
          exact H.ren hS [0] _ _ _ (by kernel_rfl) (ih_plain_L1 (false, x.1, x.2.1, x.2.2.1, x.2.2.2.1, x.2.2.2.2) r h W0 w0 S hS)
  · intro g_plain_L2 ih_plain_L2 x r h
    intro W0 w0 S hS
    haveI := hS.noEx Tryd.prog
    refine H.condS (b := x.1) (by kernel_rfl) (by kernel_rfl) (fun hb => ?_) (fun hb => ?_)
    · rw [if_pos hb] at h
      refine H.seqP (by kernel_rfl) ?_
      refine H.regP (by kernel_rfl) ?_
      refine HO.goP 1 (by kernel_rfl) ?_
      refine HO.done (by kernel_rfl) ?_
      refine Kseq_norm ?_
      refine H.retP (by kernel_rfl) ?_
      refine Kseq_ret ?_
      obtain rfl := Option.some.inj h
      exact KEnd.ret (by kernel_rfl) (by kernel_rfl) (by kernel_rfl)
    · rw [if_neg (ne_true hb)] at h
      refine H.skipP (by kernel_rfl) ?_
      refine Kseq_norm ?_
      refine H.seqP (by kernel_rfl) ?_
      refine H.seqP (by kernel_rfl) ?_
      refine H.regP (by kernel_rfl) ?_
      refine HO.goP 2 (by kernel_rfl) ?_
      refine HO.boolP x.2.2.2.1 (by kernel_rfl) (by kernel_rfl) (fun hb => ?_) (fun hb => ?_)
      · rw [if_pos hb] at h
        refine HO.goP 2 (by kernel_rfl) ?_
        refine HO.len (by kernel_rfl) (by kernel_rfl) (ls_size (encI .u8) x.2.2.2.2.1) ?_
        refine HO.goP 2 (by kernel_rfl) ?_
        refine HO.boolP (decide (0 < (x.2.2.2.2.1.length : Int))) (by kernel_rfl) (by kernel_rfl) (fun hb => ?_) (fun hb => ?_)
        · rw [if_pos (of_decide_eq_true hb)] at h
          refine HO.goP 10 (by kernel_rfl) ?_
          refine HO.done (by kernel_rfl) ?_
          refine Kseq_norm ?_
          exact H.ren hS [0] _ _ _ (by kernel_rfl) (ih_plain_L2 (true, x.2.1, x.2.2.1, x.2.2.2.1, x.2.2.2.2.1, x.2.2.2.2.2) r h W0 w0 S hS)
        · rw [if_neg (of_decide_eq_false hb)] at h
          refine HO.goP 3 (by kernel_rfl) ?_
          refine HO.boolP (!x.2.2.2.1) (by kernel_rfl) (by kernel_rfl) (fun hb => ?_) (fun hb => ?_)
          · rw [if_pos hb] at h
            refine HO.goP 2 (by kernel_rfl) ?_
            refine HO.len (by kernel_rfl) (by kernel_rfl) (ls_size enc36 x.2.2.2.2.2) ?_
            refine HO.goP 3 (by kernel_rfl) ?_
            refine HO.done (by kernel_rfl) ?_
            refine Kseq_norm ?_
            exact H.ren hS [0] _ _ _ (by kernel_rfl) (ih_plain_L2 ((decide (0 < (x.2.2.2.2.2.length : Int))), x.2.1, x.2.2.1, x.2.2.2.1, x.2.2.2.2.1, x.2.2.2.2.2) r h W0 w0 S hS)
          · rw [if_neg (ne_true hb)] at h
            refine HO.goP 6 (by kernel_rfl) ?_
            refine HO.done (by kernel_rfl) ?_
            refine Kseq_norm ?_
            exact H.ren hS [0] _ _ _ (by kernel_rfl) (ih_plain_L2 (false, x.2.1, x.2.2.1, x.2.2.2.1, x.2.2.2.2.1, x.2.2.2.2.2) r h W0 w0 S hS)
      · rw [if_neg (ne_true hb)] at h
        refine HO.goP 9 (by kernel_rfl) ?_
        refine HO.boolP (!x.2.2.2.1) (by kernel_rfl) (by kernel_rfl) (fun hb => ?_) (fun hb => ?_)
        · rw [if_pos hb] at h
          refine HO.goP 2 (by kernel_rfl) ?_
          refine HO.len (by kernel_rfl) (by kernel_rfl) (ls_size enc36 x.2.2.2.2.2) ?_
          refine HO.goP 3 (by kernel_rfl) ?_
          refine HO.done (by kernel_rfl) ?_
          refine Kseq_norm ?_
          exact H.ren hS [0] _ _ _ (by kernel_rfl) (ih_plain_L2 ((decide (0 < (x.2.2.2.2.2.length : Int))), x.2.1, x.2.2.1, x.2.2.2.1, x.2.2.2.2.1, x.2.2.2.2.2) r h W0 w0 S hS)
        · rw [if_neg (ne_true hb)] at h
          refine HO.goP 6 (by kernel_rfl) ?_
          refine HO.done (by kernel_rfl) ?_
          refine Kseq_norm ?_
          exact H.ren hS [0] _ _ _ (by kernel_rfl) (ih_plain_L2 (false, x.2.1, x.2.2.1, x.2.2.2.1, x.2.2.2.2.1, x.2.2.2.2.2) r h W0 w0 S hS)
  · intro g_containsF ih_containsF x r h
    intro W0 w0 S hS
    haveI := hS.noEx Tryd.prog
    refine H.condS (b := x.1) (by kernel_rfl) (by kernel_rfl) (fun hb => ?_) (fun hb => ?_)
    · rw [if_pos hb] at h
      refine H.seqP (by kernel_rfl) ?_
      refine H.regP (by kernel_rfl) ?_
      refine HO.goP 1 (by kernel_rfl) ?_
      refine HO.done (by kernel_rfl) ?_
      refine Kseq_norm ?_
      refine H.retP (by kernel_rfl) ?_
      refine Kseq_ret ?_
      obtain rfl := Option.some.inj h
      exact KEnd.ret (by kernel_rfl) (by kernel_rfl) (by kernel_rfl)
    · rw [if_neg (ne_true hb)] at h
      refine H.skipP (by kernel_rfl) ?_
      refine Kseq_norm ?_
      refine H.seqP (by kernel_rfl) ?_
      refine H.regP (by kernel_rfl) ?_
      refine HO.goP 2 (by kernel_rfl) ?_
      obtain ⟨y1, hy, h⟩ := bindS h
      refine HO.callW hS [.list 5 false, .keep] (ih_containsF x.2.2.2.2.2 y1 hy W0) (by kernel_rfl) (by kernel_rfl) ?_
      refine HO.goP 2 (by kernel_rfl) ?_
      refine HO.done (by kernel_rfl) ?_
      refine Kseq_norm ?_
      refine H.retP (by kernel_rfl) ?_
      obtain rfl := Option.some.inj h
      exact KEnd.ret (by kernel_rfl) (by kernel_rfl) (by kernel_rfl)
  · intro g_indexF ih_indexF x r h
    intro W0
    refine PTo.of_body (fn := Tryd.f77) (code := cB Tryd.f77) Tryd.func77 rfl rfl ?_
    intro w0 S hS
    haveI := hS.noEx Tryd.prog
    refine H.seqP (by kernel_rfl) ?_
    refine H.regP (by kernel_rfl) ?_
    refine HO.goP 1 (by kernel_rfl) ?_
    refine HO.done (by kernel_rfl) ?_
    refine Kseq_norm ?_
    refine H.seqP (by kernel_rfl) ?_
    refine H.regP (by kernel_rfl) ?_
    refine HO.goP 2 (by kernel_rfl) ?_
    obtain ⟨y1, hy, h⟩ := bindS h
    refine HO.callW hS [.list 5 false, .keep] (ih_indexF x y1 hy W0) (by kernel_rfl) (by kernel_rfl) ?_
    refine HO.goP 2 (by kernel_rfl) ?_
    refine HO.done (by kernel_rfl) ?_
    refine Kseq_norm ?_
    refine H.retP (by kernel_rfl) ?_
    obtain rfl := Option.some.inj h
    exact KEnd.ret (by kernel_rfl) (by kernel_rfl) (by kernel_rfl)
  · intro g_indexF_L1 ih_indexF_L1 x r h
    intro W0
    refine PTo.of_body (fn := Tryd.f61) (code := cB Tryd.f61) Tryd.func61 rfl rfl ?_
    intro w0 S hS
    haveI := hS.noEx Tryd.prog
    refine H.seqP (by kernel_rfl) ?_
    refine H.regP (by kernel_rfl) ?_
    refine HO.goP 1 (by kernel_rfl) ?_
    refine HO.done (by kernel_rfl) ?_
    refine Kseq_norm ?_
    refine H.seqP (by kernel_rfl) ?_
    refine H.seqP (by kernel_rfl) ?_
    refine H.regP (by kernel_rfl) ?_
    refine HO.goP 1 (by kernel_rfl) ?_
    refine HO.len (by kernel_rfl) (by kernel_rfl) (ls_size enc36 x) ?_
    refine HO.goP 1 (by kernel_rfl) ?_
    refine HO.done (by kernel_rfl) ?_
    refine Kseq_norm ?_
    refine H.blockI 0 (by kernel_rfl) ?_
    refine H.loopP (by kernel_rfl) ?_
    exact HL.ren hS [] _ _ _ (by kernel_rfl) (ih_indexF_L1 (x, (x.length : Int), 0) r h W0 w0 S hS)
theorem indexF_L1_ok : ∀ (x : (List S36) × Int × Int) (r : Int), indexF_L1 x = some r → ∀ (W0 w0 : World) (S : Own), Std W0 w0 S 0 → HL Tryd.prog w0 S 19 (cL (cL (cR (cL (cR (cB Tryd.f61)))))) (mkS [(0, ls 5 false enc36 x.1), (1, .func (.func 78) #[] #[]), (7, .int .i64 x.2.1), (8, .int .i64 x.2.2)] [] 0 []) (Kblock 0 (Kseq Tryd.prog w0 S 19 (cR (cR (cB Tryd.f61))) (KEnd Tryd.prog Tryd.f61 (PEnd w0 S (.returned (.int .i64 r)))))) := indexF_L1_grp.1
theorem plainF_ok : ∀ (x : Int × Int × Bool × (List Int) × (List S36)) (r : Bool), plainF x = some r → ∀ W0 : World, PTo Tryd.prog W0 78 #[.agg #[.int .u8 x.1, .int .u32 x.2.1, .bool x.2.2.1, ls 1 false (encI .u8) x.2.2.2.1, ls 5 false enc36 x.2.2.2.2]] (.returned (.bool r)) := indexF_L1_grp.2.1
theorem plain_ok : ∀ (x : Int × Int × Bool × (List Int) × (List S36)) (r : Bool), plain x = some r → ∀ W0 : World, PTo Tryd.prog W0 54 #[.agg #[.int .u8 x.1, .int .u32 x.2.1, .bool x.2.2.1, ls 1 false (encI .u8) x.2.2.2.1, ls 5 false enc36 x.2.2.2.2]] (.returned (.bool r)) := indexF_L1_grp.2.2.1
theorem plain_L1_ok : ∀ (x : Bool × Int × Int × Bool × (List Int) × (List S36)) (r : Bool), plain_L1 x = some r → ∀ (W0 w0 : World) (S : Own), Std W0 w0 S 0 → H Tryd.prog w0 S 44 (cR (cL (cR (cB Tryd.f54)))) (mkS [(1, .pointer (some ⟨0, 0, none⟩)), (20, .bool x.1)] [(0, .cells [.int .u8 x.2.1, .int .u32 x.2.2.1, .bool x.2.2.2.1, ls 1 false (encI .u8) x.2.2.2.2.1, ls 5 false enc36 x.2.2.2.2.2] 36 5)] 1 []) (Kseq Tryd.prog w0 S 44 (cR (cR (cB Tryd.f54))) (KEnd Tryd.prog Tryd.f54 (PEnd w0 S (.returned (.bool r))))) := indexF_L1_grp.2.2.2.1
theorem plain_L2_ok : ∀ (x : Bool × Int × Int × Bool × (List Int) × (List S36)) (r : Bool), plain_L2 x = some r → ∀ (W0 w0 : World) (S : Own), Std W0 w0 S 0 → H Tryd.prog w0 S 44 (cR (cL (cR (cR (cB Tryd.f54))))) (mkS [(1, .pointer (some ⟨0, 0, none⟩)), (39, .bool x.1)] [(0, .cells [.int .u8 x.2.1, .int .u32 x.2.2.1, .bool x.2.2.2.1, ls 1 false (encI .u8) x.2.2.2.2.1, ls 5 false enc36 x.2.2.2.2.2] 36 5)] 1 []) (Kseq Tryd.prog w0 S 44 (cR (cR (cR (cB Tryd.f54)))) (KEnd Tryd.prog Tryd.f54 (PEnd w0 S (.returned (.bool r))))) := indexF_L1_grp.2.2.2.2.1
theorem containsF_ok : ∀ (x : (List S36)) (r : Bool), containsF x = some r → ∀ W0 : World, PTo Tryd.prog W0 77 #[ls 5 false enc36 x, .func (.func 78) #[] #[]] (.returned (.bool r)) := indexF_L1_grp.2.2.2.2.2.1
theorem indexF_ok : ∀ (x : (List S36)) (r : Int), indexF x = some r → ∀ W0 : World, PTo Tryd.prog W0 61 #[ls 5 false enc36 x, .func (.func 78) #[] #[]] (.returned (.int .i64 r)) := indexF_L1_grp.2.2.2.2.2.2
def check (x : Int × Int × Bool × (List Int) × (List S36)) : Option (Int) :=
  (measure (x.1, x.2.1, x.2.2.1, x.2.2.2.1, x.2.2.2.2, 1, 0)) >>= fun y1 =>
  if (!y1.1) = true then
    some 3
  else
    (plain (x.1, x.2.1, x.2.2.1, x.2.2.2.1, x.2.2.2.2)) >>= fun y2 =>
    if (!y2) = true then
      some 1
    else
      some 0
theorem check_ok : ∀ (x : Int × Int × Bool × (List Int) × (List S36)) (r : Int), check x = some r → ∀ W0 : World, PTo Tryd.prog W0 21 #[.agg #[.int .u8 x.1, .int .u32 x.2.1, .bool x.2.2.1, ls 1 false (encI .u8) x.2.2.2.1, ls 5 false enc36 x.2.2.2.2]] (.returned (.int .i64 r)) := by
  intro x r h
  unfold check at h
  intro W0
  refine PTo.of_body (fn := Tryd.f21) (code := cB Tryd.f21) Tryd.func21 rfl rfl ?_
  intro w0 S hS
  haveI := hS.noEx Tryd.prog
  refine H.seqP (by kernel_rfl) ?_
  refine H.regP (by kernel_rfl) ?_
  refine HO.goP 2 (by kernel_rfl) ?_
  refine HO.done (by kernel_rfl) ?_
  refine Kseq_norm ?_
  refine H.seqP (by kernel_rfl) ?_
  refine H.regP (by kernel_rfl) ?_
  refine HO.goP 2 (by kernel_rfl) ?_
  refine HO.done (by kernel_rfl) ?_
  refine Kseq_norm ?_
  refine H.seqP (by kernel_rfl) ?_
  refine H.blockI 0 (by kernel_rfl) ?_
  refine H.seqP (by kernel_rfl) ?_
  refine H.regP (by kernel_rfl) ?_
  refine HO.goP 1 (by kernel_rfl) ?_
  obtain ⟨y1, hy, h⟩ := bindS h
  refine HO.callFW hS (.bool y1.1) 2 [] [(0, .cells [.int .u8 x.1, .int .u32 x.2.1, .bool x.2.2.1, ls 1 false (encI .u8) x.2.2.2.1, ls 5 false enc36 x.2.2.2.2] 36 5), (1, .cells [.int .i64 y1.2] 3 1)] [1] [.agg [.keep, .keep, .keep, .list 1 false, .list 5 false], .keep, .keep] (measure_ok (x.1, x.2.1, x.2.2.1, x.2.2.2.1, x.2.2.2.2, 1, 0) y1 hy W0) (by kernel_rfl) (by kernel_rfl) ?_
  refine HO.goP 2 (by kernel_rfl) ?_
  refine HO.done (by kernel_rfl) ?_
  refine Kseq_norm ?_
  refine H.condS (b := !y1.1) (by kernel_rfl) (by kernel_rfl) (fun hb => ?_) (fun hb => ?_)
  · rw [if_pos hb] at h
    refine H.seqP (by kernel_rfl) ?_
    refine H.regP (by kernel_rfl) ?_
    refine HO.goP 1 (by kernel_rfl) ?_
    refine HO.done (by kernel_rfl) ?_
    refine Kseq_norm ?_
    refine H.retP (by kernel_rfl) ?_
    refine Kblock_ret ?_
    refine Kseq_ret ?_
    obtain rfl := Option.some.inj h
    exact KEnd.ret (by kernel_rfl) (by kernel_rfl) (by kernel_rfl)
  · rw [if_neg (ne_true hb)] at h
    refine H.seqP (by kernel_rfl) ?_
    refine H.regP (by kernel_rfl) ?_
    refine HO.goP 1 (by kernel_rfl) ?_
    obtain ⟨y2, hy, h⟩ := bindS h
    refine HO.callW hS [.agg [.keep, .keep, .keep, .list 1 false, .list 5 false]] (plain_ok (x.1, x.2.1, x.2.2.1, x.2.2.2.1, x.2.2.2.2) y2 hy W0) (by kernel_rfl) (by kernel_rfl) ?_
    refine HO.goP 2 (by kernel_rfl) ?_
    refine HO.done (by kernel_rfl) ?_
    refine Kseq_norm ?_
    refine H.condS (b := !y2) (by kernel_rfl) (by kernel_rfl) (fun hb => ?_) (fun hb => ?_)
    · rw [if_pos hb] at h
      refine H.seqP (by kernel_rfl) ?_
      refine H.regP (by kernel_rfl) ?_
      refine HO.goP 1 (by kernel_rfl) ?_
      refine HO.done (by kernel_rfl) ?_
      refine Kseq_norm ?_
      refine H.retP (by kernel_rfl) ?_
      refine Kblock_ret ?_
      refine Kseq_ret ?_
      obtain rfl := Option.some.inj h
      exact KEnd.ret (by kernel_rfl) (by kernel_rfl) (by kernel_rfl)
    · rw [if_neg (ne_true hb)] at h
      refine H.skipP (by kernel_rfl) ?_
      refine Kblock_norm ?_
      refine Kseq_norm ?_
      refine H.seqP (by kernel_rfl) ?_
      refine H.regP (by kernel_rfl) ?_
      refine HO.goP 1 (by kernel_rfl) ?_
      refine HO.done (by kernel_rfl) ?_
      refine Kseq_norm ?_
      refine H.retP (by kernel_rfl) ?_
      obtain rfl := Option.some.inj h
      exact KEnd.ret (by kernel_rfl) (by kernel_rfl) (by kernel_rfl)
def identifier_L3 (x : (List Int) × Int × Int × Int × Bool × (List Int) × (List S36)) : Option ((List Int)) :=
  if 0 < x.2.1 then
    (shr' .u32 x.2.2.2.1 x.2.1) >>= fun y4 =>
    (app' 1 x.1 [(bOr .u8 (IntKind.u8.wrap y4) 128)]) >>= fun y5 =>
    identifier_L3 (y5, (IntKind.i64.wrap (x.2.1 - 7)), x.2.2.1, x.2.2.2.1, x.2.2.2.2.1, x.2.2.2.2.2.1, x.2.2.2.2.2.2)
  else
    (app' 1 x.1 [(IntKind.u8.wrap (bAnd .u32 x.2.2.2.1 127))]) >>= fun y6 =>
    some y6
partial_fixpoint
theorem identifier_L3_ok : ∀ (x : (List Int) × Int × Int × Int × Bool × (List Int) × (List S36)) (r : (List Int)), identifier_L3 x = some r → ∀ (W0 w0 : World) (S : Own), Std W0 w0 S 0 → HL Tryd.prog w0 S 58 (cL (cL (cL (cR (cR (cR (cR (cR (cR (cR (cB Tryd.f80))))))))))) (mkS [(0, tl 1 0 (encI .u8) x.1), (3, .pointer (some ⟨1, 0, none⟩)), (6, .int .i64 x.2.1)] [(1, .cells [.int .u8 x.2.2.1, .int .u32 x.2.2.2.1, .bool x.2.2.2.2.1, ls 1 false (encI .u8) x.2.2.2.2.2.1, ls 5 false enc36 x.2.2.2.2.2.2] 36 5)] 2 [0]) (Kblock 2 (Kseq Tryd.prog w0 S 58 (cR (cR (cR (cR (cR (cR (cR (cR (cB Tryd.f80))))))))) (KEnd Tryd.prog Tryd.f80 (FEnd w0 S (.returned (tl 1 0 (encI .u8) r)) (mkW 1 [0] []))))) := by
  refine identifier_L3.partial_correctness (fun (x : (List Int) × Int × Int × Int × Bool × (List Int) × (List S36)) (r : (List Int)) => ∀ (W0 w0 : World) (S : Own), Std W0 w0 S 0 → HL Tryd.prog w0 S 58 (cL (cL (cL (cR (cR (cR (cR (cR (cR (cR (cB Tryd.f80))))))))))) (mkS [(0, tl 1 0 (encI .u8) x.1), (3, .pointer (some ⟨1, 0, none⟩)), (6, .int .i64 x.2.1)] [(1, .cells [.int .u8 x.2.2.1, .int .u32 x.2.2.2.1, .bool x.2.2.2.2.1, ls 1 false (encI .u8) x.2.2.2.2.2.1, ls 5 false enc36 x.2.2.2.2.2.2] 36 5)] 2 [0]) (Kblock 2 (Kseq Tryd.prog w0 S 58 (cR (cR (cR (cR (cR (cR (cR (cR (cB Tryd.f80))))))))) (KEnd Tryd.prog Tryd.f80 (FEnd w0 S (.returned (tl 1 0 (encI .u8) r)) (mkW 1 [0] [])))))) ?_
  intro self ih_identifier_L3 x r h
  intro W0 w0 S hS
  haveI := hS.noEx Tryd.prog
  refine HL.round ?_
  refine H.seqP (by kernel_rfl) ?_
  refine H.seqP (by kernel_rfl) ?_
  refine H.regP (by kernel_rfl) ?_
  refine HO.goP 2 (by kernel_rfl) ?_
  refine HO.done (by kernel_rfl) ?_
  refine Kseq_norm ?_
  refine H.condS (b := decide (0 < x.2.1)) (by kernel_rfl) (by kernel_rfl) (fun hb => ?_) (fun hb => ?_)
  · rw [if_pos (of_decide_eq_true hb)] at h
    refine H.skipP (by kernel_rfl) ?_
    refine Kseq_norm ?_
    refine H.seqP (by kernel_rfl) ?_
    refine H.blockI 3 (by kernel_rfl) ?_
    refine H.regP (by kernel_rfl) ?_
    refine HO.goP 4 (by kernel_rfl) ?_
    obtain ⟨y4, hy, h⟩ := bindS h
    refine HO.valA (shr_aop hy (by kernel_rfl)) ?_
    refine HO.goP 3 (by kernel_rfl) ?_
    obtain ⟨y5, hy, h⟩ := bindS h
    refine HO.effA (app1_aop (enc := (encI .u8)) (k := 1) false 1 [.int .u8 (bOr .u8 (IntKind.u8.wrap y4) 128)] [] hy (by kernel_rfl) (by kernel_rfl) (by kernel_rfl)) ?_
    refine HO.goP 1 (by kernel_rfl) ?_
    refine HO.done (by kernel_rfl) ?_
    refine Kblock_norm ?_
    refine Kseq_norm ?_
    refine H.regP (by kernel_rfl) ?_
    refine HO.goP 3 (by kernel_rfl) ?_
    refine HO.done (by kernel_rfl) ?_
    refine Kloop_norm ?_
    exact HL.ren hS [3, 1] _ _ _ (by kernel_rfl) (ih_identifier_L3 (y5, (IntKind.i64.wrap (x.2.1 - 7)), x.2.2.1, x.2.2.2.1, x.2.2.2.2.1, x.2.2.2.2.2.1, x.2.2.2.2.2.2) r h W0 w0 S hS)
  · rw [if_neg (of_decide_eq_false hb)] at h
    refine H.exitI 2 (by kernel_rfl) ?_
    refine Kseq_exit ?_
    refine Kloop_exit ?_
    refine Kblock_hit ?_
    refine Kseq_norm ?_
    refine H.seqP (by kernel_rfl) ?_
    refine H.regP (by kernel_rfl) ?_
    refine HO.goP 6 (by kernel_rfl) ?_
    obtain ⟨y6, hy, h⟩ := bindS h
    refine HO.effA (app1_aop (enc := (encI .u8)) (k := 1) false 1 [.int .u8 (IntKind.u8.wrap (bAnd .u32 x.2.2.2.1 127))] [] hy (by kernel_rfl) (by kernel_rfl) (by kernel_rfl)) ?_
    refine HO.goP 1 (by kernel_rfl) ?_
    refine HO.done (by kernel_rfl) ?_
    refine Kseq_norm ?_
    refine H.retP (by kernel_rfl) ?_
    obtain rfl := Option.some.inj h
    exact KEnd.of (v := tl 1 3 (encI .u8) y6) (by kernel_rfl) (by kernel_rfl) (FEnd.ren hS [3] _ _ (by kernel_rfl))
def identifier_L2 (x : (List Int) × Int × Int × Int × Bool × (List Int) × (List S36)) : Option ((List Int)) :=
  (shr' .u32 x.2.2.2.1 (IntKind.i64.wrap (x.2.1 + 7))) >>= fun y3 =>
  if 0 < y3 then
    identifier_L2 (x.1, (IntKind.i64.wrap (x.2.1 + 7)), x.2.2.1, x.2.2.2.1, x.2.2.2.2.1, x.2.2.2.2.2.1, x.2.2.2.2.2.2)
  else
    identifier_L3 (x.1, x.2.1, x.2.2.1, x.2.2.2.1, x.2.2.2.2.1, x.2.2.2.2.2.1, x.2.2.2.2.2.2)
partial_fixpoint
theorem identifier_L2_ok : ∀ (x : (List Int) × Int × Int × Int × Bool × (List Int) × (List S36)) (r : (List Int)), identifier_L2 x = some r → ∀ (W0 w0 : World) (S : Own), Std W0 w0 S 0 → HL Tryd.prog w0 S 58 (cL (cL (cL (cR (cR (cR (cR (cR (cR (cB Tryd.f80)))))))))) (mkS [(0, tl 1 0 (encI .u8) x.1), (3, .pointer (some ⟨1, 0, none⟩)), (6, .int .i64 x.2.1)] [(1, .cells [.int .u8 x.2.2.1, .int .u32 x.2.2.2.1, .bool x.2.2.2.2.1, ls 1 false (encI .u8) x.2.2.2.2.2.1, ls 5 false enc36 x.2.2.2.2.2.2] 36 5)] 2 [0]) (Kblock 0 (Kseq Tryd.prog w0 S 58 (cR (cR (cR (cR (cR (cR (cR (cB Tryd.f80)))))))) (KEnd Tryd.prog Tryd.f80 (FEnd w0 S (.returned (tl 1 0 (encI .u8) r)) (mkW 1 [0] []))))) := by
  refine identifier_L2.partial_correctness (fun (x : (List Int) × Int × Int × Int × Bool × (List Int) × (List S36)) (r : (List Int)) => ∀ (W0 w0 : World) (S : Own), Std W0 w0 S 0 → HL Tryd.prog w0 S 58 (cL (cL (cL (cR (cR (cR (cR (cR (cR (cB Tryd.f80)))))))))) (mkS [(0, tl 1 0 (encI .u8) x.1), (3, .pointer (some ⟨1, 0, none⟩)), (6, .int .i64 x.2.1)] [(1, .cells [.int .u8 x.2.2.1, .int .u32 x.2.2.2.1, .bool x.2.2.2.2.1, ls 1 false (encI .u8) x.2.2.2.2.2.1, ls 5 false enc36 x.2.2.2.2.2.2] 36 5)] 2 [0]) (Kblock 0 (Kseq Tryd.prog w0 S 58 (cR (cR (cR (cR (cR (cR (cR (cB Tryd.f80)))))))) (KEnd Tryd.prog Tryd.f80 (FEnd w0 S (.returned (tl 1 0 (encI .u8) r)) (mkW 1 [0] [])))))) ?_
  intro self ih_identifier_L2 x r h
  intro W0 w0 S hS
  haveI := hS.noEx Tryd.prog
  refine HL.round ?_
  refine H.seqP (by kernel_rfl) ?_
  refine H.seqP (by kernel_rfl) ?_
  refine H.regP (by kernel_rfl) ?_
  refine HO.goP 4 (by kernel_rfl) ?_
  obtain ⟨y3, hy, h⟩ := bindS h
  refine HO.valA (shr_aop hy (by kernel_rfl)) ?_
  refine HO.goP 1 (by kernel_rfl) ?_
  refine HO.done (by kernel_rfl) ?_
  refine Kseq_norm ?_
  refine H.condS (b := decide (0 < y3)) (by kernel_rfl) (by kernel_rfl) (fun hb => ?_) (fun hb => ?_)
  · rw [if_pos (of_decide_eq_true hb)] at h
    refine H.skipP (by kernel_rfl) ?_
    refine Kseq_norm ?_
    refine H.blockI 1 (by kernel_rfl) ?_
    refine H.regP (by kernel_rfl) ?_
    refine HO.goP 3 (by kernel_rfl) ?_
    refine HO.done (by kernel_rfl) ?_
    refine Kblock_norm ?_
    refine Kloop_norm ?_
    exact HL.ren hS [0, 1] _ _ _ (by kernel_rfl) (ih_identifier_L2 (x.1, (IntKind.i64.wrap (x.2.1 + 7)), x.2.2.1, x.2.2.2.1, x.2.2.2.2.1, x.2.2.2.2.2.1, x.2.2.2.2.2.2) r h W0 w0 S hS)
  · rw [if_neg (of_decide_eq_false hb)] at h
    refine H.exitI 0 (by kernel_rfl) ?_
    refine Kseq_exit ?_
    refine Kloop_exit ?_
    refine Kblock_hit ?_
    refine Kseq_norm ?_
    refine H.seqP (by kernel_rfl) ?_
    refine H.blockI 2 (by kernel_rfl) ?_
    refine H.loopP (by kernel_rfl) ?_
    exact HL.ren hS [0, 1] _ _ _ (by kernel_rfl) (identifier_L3_ok (x.1, x.2.1, x.2.2.1, x.2.2.2.1, x.2.2.2.2.1, x.2.2.2.2.2.1, x.2.2.2.2.2.2) r h W0 w0 S hS)
def identifier_L1 (x : Int × Int × Int × Bool × (List Int) × (List S36)) : Option ((List Int)) :=
  if x.2.2.1 < 31 then
    (app' 1 [] [(bOr .u8 x.1 (IntKind.u8.wrap x.2.2.1))]) >>= fun y1 =>
    some y1
  else
    (app' 1 [] [(bOr .u8 x.1 31)]) >>= fun y2 =>
    identifier_L2 (y2, 0, x.2.1, x.2.2.1, x.2.2.2.1, x.2.2.2.2.1, x.2.2.2.2.2)
theorem identifier_L1_ok : ∀ (x : Int × Int × Int × Bool × (List Int) × (List S36)) (r : (List Int)), identifier_L1 x = some r → ∀ (W0 w0 : World) (S : Own), Std W0 w0 S 0 → H Tryd.prog w0 S 58 (cR (cR (cR (cB Tryd.f80)))) (mkS [(0, .slice none 0 0), (3, .pointer (some ⟨0, 0, none⟩)), (5, .int .u8 x.1)] [(0, .cells [.int .u8 x.2.1, .int .u32 x.2.2.1, .bool x.2.2.2.1, ls 1 false (encI .u8) x.2.2.2.2.1, ls 5 false enc36 x.2.2.2.2.2] 36 5)] 1 []) (KEnd Tryd.prog Tryd.f80 (FEnd w0 S (.returned (tl 1 0 (encI .u8) r)) (mkW 1 [0] []))) := by
  intro x r h
  unfold identifier_L1 at h
  intro W0 w0 S hS
  haveI := hS.noEx Tryd.prog
  refine H.seqP (by kernel_rfl) ?_
  refine H.seqP (by kernel_rfl) ?_
  refine H.regP (by kernel_rfl) ?_
  refine HO.goP 3 (by kernel_rfl) ?_
  refine HO.done (by kernel_rfl) ?_
  refine Kseq_norm ?_
  refine H.condS (b := decide (x.2.2.1 < 31)) (by kernel_rfl) (by kernel_rfl) (fun hb => ?_) (fun hb => ?_)
  · rw [if_pos (of_decide_eq_true hb)] at h
    refine H.seqP (by kernel_rfl) ?_
    refine H.regP (by kernel_rfl) ?_
    refine HO.goP 7 (by kernel_rfl) ?_
    refine HO.tok 17 1 (es := #[]) (by kernel_rfl) ?_
    obtain ⟨y1, hy, h⟩ := bindS h
    refine HO.effA (app1_aop (enc := (encI .u8)) (k := 1) false 1 [.int .u8 (bOr .u8 x.1 (IntKind.u8.wrap x.2.2.1))] [] hy (by kernel_rfl) (by kernel_rfl) (by kernel_rfl)) ?_
    refine HO.goP 1 (by kernel_rfl) ?_
    refine HO.done (by kernel_rfl) ?_
    refine Kseq_norm ?_
    refine H.retP (by kernel_rfl) ?_
    refine Kseq_ret ?_
    obtain rfl := Option.some.inj h
    exact KEnd.of (v := tl 1 3 (encI .u8) y1) (by kernel_rfl) (by kernel_rfl) (FEnd.ren hS [3] _ _ (by kernel_rfl))
  · rw [if_neg (of_decide_eq_false hb)] at h
    refine H.skipP (by kernel_rfl) ?_
    refine Kseq_norm ?_
    refine H.seqP (by kernel_rfl) ?_
    refine H.regP (by kernel_rfl) ?_
    refine HO.goP 4 (by kernel_rfl) ?_
    refine HO.tok 25 1 (es := #[]) (by kernel_rfl) ?_
    obtain ⟨y2, hy, h⟩ := bindS h
    refine HO.effA (app1_aop (enc := (encI .u8)) (k := 1) false 1 [.int .u8 (bOr .u8 x.1 31)] [] hy (by kernel_rfl) (by kernel_rfl) (by kernel_rfl)) ?_
    refine HO.goP 1 (by kernel_rfl) ?_
    refine HO.done (by kernel_rfl) ?_
    refine Kseq_norm ?_
    refine H.seqP (by kernel_rfl) ?_
    refine H.regP (by kernel_rfl) ?_
    refine HO.goP 1 (by kernel_rfl) ?_
    refine HO.done (by kernel_rfl) ?_
    refine Kseq_norm ?_
    refine H.seqP (by kernel_rfl) ?_
    refine H.blockI 0 (by kernel_rfl) ?_
    refine H.loopP (by kernel_rfl) ?_
    exact HL.ren hS [3, 0] _ _ _ (by kernel_rfl) (identifier_L2_ok (y2, 0, x.2.1, x.2.2.1, x.2.2.2.1, x.2.2.2.2.1, x.2.2.2.2.2) r h W0 w0 S hS)
def identifier (x : Int × Int × Bool × (List Int) × (List S36)) : Option ((List Int)) :=
  if x.2.2.1 = true then
    identifier_L1 ((bOr .u8 (shlI .u8 x.1 6) 32), x.1, x.2.1, x.2.2.1, x.2.2.2.1, x.2.2.2.2)
  else
    identifier_L1 ((shlI .u8 x.1 6), x.1, x.2.1, x.2.2.1, x.2.2.2.1, x.2.2.2.2)
theorem identifier_ok : ∀ (x : Int × Int × Bool × (List Int) × (List S36)) (r : (List Int)), identifier x = some r → ∀ W0 : World, FTo Tryd.prog W0 80 #[.slice none 0 0, .agg #[.int .u8 x.1, .int .u32 x.2.1, .bool x.2.2.1, ls 1 false (encI .u8) x.2.2.2.1, ls 5 false enc36 x.2.2.2.2]] (mkW 0 [] []) (.returned (tl 1 0 (encI .u8) r)) (mkW 1 [0] []) := by
  intro x r h
  unfold identifier at h
  intro W0
  refine FTo.of_body (fn := Tryd.f80) (code := cB Tryd.f80) Tryd.func80 rfl rfl ?_
  intro w0 S hS
  haveI := hS.noEx Tryd.prog
  refine H.seqP (by kernel_rfl) ?_
  refine H.regP (by kernel_rfl) ?_
  refine HO.goP 2 (by kernel_rfl) ?_
  refine HO.done (by kernel_rfl) ?_
  refine Kseq_norm ?_
  refine H.seqP (by kernel_rfl) ?_
  refine H.regP (by kernel_rfl) ?_
  refine HO.goP 4 (by kernel_rfl) ?_
  refine HO.done (by kernel_rfl) ?_
  refine Kseq_norm ?_
  refine H.seqP (by kernel_rfl) ?_
  refine H.seqP (by kernel_rfl) ?_
  refine H.regP (by kernel_rfl) ?_
  refine HO.goP 2 (by kernel_rfl) ?_
  refine HO.done (by kernel_rfl) ?_
  refine Kseq_norm ?_
  refine H.condS (b := x.2.2.1) (by kernel_rfl) (by kernel_rfl) (fun hb => ?_) (fun hb => ?_)
  · rw [if_pos hb] at h
    refine H.regP (by kernel_rfl) ?_
    refine HO.goP 3 (by kernel_rfl) ?_
    refine HO.done (by kernel_rfl) ?_
    refine Kseq_norm ?_
    exact H.ren hS [0] _ _ _ (by kernel_rfl) (identifier_L1_ok ((bOr .u8 (shlI .u8 x.1 6) 32), x.1, x.2.1, x.2.2.1, x.2.2.2.1, x.2.2.2.2) r h W0 w0 S hS)
  · rw [if_neg (ne_true hb)] at h
    refine H.skipP (by kernel_rfl) ?_
    refine Kseq_norm ?_
    exact H.ren hS [0] _ _ _ (by kernel_rfl) (identifier_L1_ok ((shlI .u8 x.1 6), x.1, x.2.1, x.2.2.1, x.2.2.2.1, x.2.2.2.2) r h W0 w0 S hS)
def size_L3 (x : (List Int) × Int × Int) : Option ((List Int)) :=
  if 0 ≤ x.2.2 then
    (shr' .i64 x.2.1 (IntKind.i64.wrap (8 * x.2.2))) >>= fun y4 =>
    (app' 1 x.1 [(IntKind.u8.wrap y4)]) >>= fun y5 =>
    size_L3 (y5, x.2.1, (IntKind.i64.wrap (x.2.2 - 1)))
  else
    some x.1
partial_fixpoint
theorem size_L3_ok : ∀ (x : (List Int) × Int × Int) (r : (List Int)), size_L3 x = some r → ∀ (W0 w0 : World) (S : Own), Std W0 w0 S 1 → HL Tryd.prog w0 S 47 (cL (cL (cR (cL (cR (cR (cR (cR (cR (cB Tryd.f79)))))))))) (mkS [(0, tl 1 1 (encI .u8) x.1), (1, .int .i64 x.2.1), (7, .int .i64 x.2.2)] [] 2 [1]) (Kblock 3 (Kseq Tryd.prog w0 S 47 (cR (cR (cR (cR (cR (cR (cB Tryd.f79))))))) (KEnd Tryd.prog Tryd.f79 (FEnd w0 S (.returned (tl 1 1 (encI .u8) r)) (mkW 2 [1] []))))) := by
  refine size_L3.partial_correctness (fun (x : (List Int) × Int × Int) (r : (List Int)) => ∀ (W0 w0 : World) (S : Own), Std W0 w0 S 1 → HL Tryd.prog w0 S 47 (cL (cL (cR (cL (cR (cR (cR (cR (cR (cB Tryd.f79)))))))))) (mkS [(0, tl 1 1 (encI .u8) x.1), (1, .int .i64 x.2.1), (7, .int .i64 x.2.2)] [] 2 [1]) (Kblock 3 (Kseq Tryd.prog w0 S 47 (cR (cR (cR (cR (cR (cR (cB Tryd.f79))))))) (KEnd Tryd.prog Tryd.f79 (FEnd w0 S (.returned (tl 1 1 (encI .u8) r)) (mkW 2 [1] [])))))) ?_
  intro self ih_size_L3 x r h
  intro W0 w0 S hS
  haveI := hS.noEx Tryd.prog
  refine HL.round ?_
  refine H.seqP (by kernel_rfl) ?_
  refine H.seqP (by kernel_rfl) ?_
  refine H.regP (by kernel_rfl) ?_
  refine HO.goP 2 (by kernel_rfl) ?_
  refine HO.done (by kernel_rfl) ?_
  refine Kseq_norm ?_
  refine H.condS (b := decide (0 ≤ x.2.2)) (by kernel_rfl) (by kernel_rfl) (fun hb => ?_) (fun hb => ?_)
  · rw [if_pos (of_decide_eq_true hb)] at h
    refine H.skipP (by kernel_rfl) ?_
    refine Kseq_norm ?_
    refine H.seqP (by kernel_rfl) ?_
    refine H.blockI 4 (by kernel_rfl) ?_
    refine H.regP (by kernel_rfl) ?_
    refine HO.goP 4 (by kernel_rfl) ?_
    obtain ⟨y4, hy, h⟩ := bindS h
    refine HO.valA (shr_aop hy (by kernel_rfl)) ?_
    refine HO.goP 2 (by kernel_rfl) ?_
    obtain ⟨y5, hy, h⟩ := bindS h
    refine HO.effA (app1_aop (enc := (encI .u8)) (k := 1) false 1 [.int .u8 (IntKind.u8.wrap y4)] [] hy (by kernel_rfl) (by kernel_rfl) (by kernel_rfl)) ?_
    refine HO.goP 1 (by kernel_rfl) ?_
    refine HO.done (by kernel_rfl) ?_
    refine Kblock_norm ?_
    refine Kseq_norm ?_
    refine H.regP (by kernel_rfl) ?_
    refine HO.goP 3 (by kernel_rfl) ?_
    refine HO.done (by kernel_rfl) ?_
    refine Kloop_norm ?_
    exact HL.ren hS [0, 3] _ _ _ (by kernel_rfl) (ih_size_L3 (y5, x.2.1, (IntKind.i64.wrap (x.2.2 - 1))) r h W0 w0 S hS)
  · rw [if_neg (of_decide_eq_false hb)] at h
    refine H.exitI 3 (by kernel_rfl) ?_
    refine Kseq_exit ?_
    refine Kloop_exit ?_
    refine Kblock_hit ?_
    refine Kseq_norm ?_
    refine H.seqP (by kernel_rfl) ?_
    refine H.regP (by kernel_rfl) ?_
    refine HO.goP 2 (by kernel_rfl) ?_
    refine HO.done (by kernel_rfl) ?_
    refine Kseq_norm ?_
    refine H.retP (by kernel_rfl) ?_
    obtain rfl := Option.some.inj h
    exact KEnd.of (v := tl 1 1 (encI .u8) x.1) (by kernel_rfl) (by kernel_rfl) (FEnd.ren hS [0, 1] _ _ (by kernel_rfl))
def size_L2 (x : (List Int) × Int × Int) : Option ((List Int)) :=
  (app' 1 x.1 [(IntKind.u8.wrap (128 + (IntKind.u8.wrap x.2.2)))]) >>= fun y3 =>
  size_L3 (y3, x.2.1, (IntKind.i64.wrap (x.2.2 - 1)))
theorem size_L2_ok : ∀ (x : (List Int) × Int × Int) (r : (List Int)), size_L2 x = some r → ∀ (W0 w0 : World) (S : Own), Std W0 w0 S 1 → H Tryd.prog w0 S 47 (cR (cR (cR (cR (cB Tryd.f79))))) (mkS [(0, tl 1 0 (encI .u8) x.1), (1, .int .i64 x.2.1), (7, .int .i64 x.2.2)] [] 1 [0]) (KEnd Tryd.prog Tryd.f79 (FEnd w0 S (.returned (tl 1 1 (encI .u8) r)) (mkW 2 [1] []))) := by
  intro x r h
  unfold size_L2 at h
  intro W0 w0 S hS
  haveI := hS.noEx Tryd.prog
  refine H.seqP (by kernel_rfl) ?_
  refine H.regP (by kernel_rfl) ?_
  refine HO.goP 5 (by kernel_rfl) ?_
  obtain ⟨y3, hy, h⟩ := bindS h
  refine HO.effA (app1_aop (enc := (encI .u8)) (k := 1) false 1 [.int .u8 (IntKind.u8.wrap (128 + (IntKind.u8.wrap x.2.2)))] [] hy (by kernel_rfl) (by kernel_rfl) (by kernel_rfl)) ?_
  refine HO.goP 1 (by kernel_rfl) ?_
  refine HO.done (by kernel_rfl) ?_
  refine Kseq_norm ?_
  refine H.seqP (by kernel_rfl) ?_
  refine H.seqP (by kernel_rfl) ?_
  refine H.regP (by kernel_rfl) ?_
  refine HO.goP 3 (by kernel_rfl) ?_
  refine HO.done (by kernel_rfl) ?_
  refine Kseq_norm ?_
  refine H.blockI 3 (by kernel_rfl) ?_
  refine H.loopP (by kernel_rfl) ?_
  exact HL.ren hS [0, 2] _ _ _ (by kernel_rfl) (size_L3_ok (y3, x.2.1, (IntKind.i64.wrap (x.2.2 - 1))) r h W0 w0 S hS)
def size_L1 (x : (List Int) × Int × Int × Int) : Option ((List Int)) :=
  (shr' .i64 x.2.1 (IntKind.i64.wrap (8 * x.2.2.2))) >>= fun y1 =>
  if 0 < y1 then
    size_L1 (x.1, x.2.1, x.2.2.1, (IntKind.i64.wrap (x.2.2.2 + 1)))
  else
    if x.2.2.1 = 2 then
      size_L2 (x.1, x.2.1, 4)
    else
      if x.2.1 < 128 then
        (app' 1 x.1 [(IntKind.u8.wrap x.2.1)]) >>= fun y2 =>
        some y2
      else
        size_L2 (x.1, x.2.1, x.2.2.2)
partial_fixpoint
theorem size_L1_ok : ∀ (x : (List Int) × Int × Int × Int) (r : (List Int)), size_L1 x = some r → ∀ (W0 w0 : World) (S : Own), Std W0 w0 S 1 → HL Tryd.prog w0 S 47 (cL (cL (cL (cR (cR (cB Tryd.f79)))))) (mkS [(0, tl 1 0 (encI .u8) x.1), (1, .int .i64 x.2.1), (2, .int .u8 x.2.2.1), (7, .int .i64 x.2.2.2)] [] 1 [0]) (Kblock 0 (Kseq Tryd.prog w0 S 47 (cR (cR (cR (cB Tryd.f79)))) (KEnd Tryd.prog Tryd.f79 (FEnd w0 S (.returned (tl 1 1 (encI .u8) r)) (mkW 2 [1] []))))) := by
  refine size_L1.partial_correctness (fun (x : (List Int) × Int × Int × Int) (r : (List Int)) => ∀ (W0 w0 : World) (S : Own), Std W0 w0 S 1 → HL Tryd.prog w0 S 47 (cL (cL (cL (cR (cR (cB Tryd.f79)))))) (mkS [(0, tl 1 0 (encI .u8) x.1), (1, .int .i64 x.2.1), (2, .int .u8 x.2.2.1), (7, .int .i64 x.2.2.2)] [] 1 [0]) (Kblock 0 (Kseq Tryd.prog w0 S 47 (cR (cR (cR (cB Tryd.f79)))) (KEnd Tryd.prog Tryd.f79 (FEnd w0 S (.returned (tl 1 1 (encI .u8) r)) (mkW 2 [1] [])))))) ?_
  intro self ih_size_L1 x r h
  intro W0 w0 S hS
  haveI := hS.noEx Tryd.prog
  refine HL.round ?_
  refine H.seqP (by kernel_rfl) ?_
  refine H.seqP (by kernel_rfl) ?_
  refine H.regP (by kernel_rfl) ?_
  refine HO.goP 3 (by kernel_rfl) ?_
  obtain ⟨y1, hy, h⟩ := bindS h
  refine HO.valA (shr_aop hy (by kernel_rfl)) ?_
  refine HO.goP 1 (by kernel_rfl) ?_
  refine HO.done (by kernel_rfl) ?_
  refine Kseq_norm ?_
  refine H.condS (b := decide (0 < y1)) (by kernel_rfl) (by kernel_rfl) (fun hb => ?_) (fun hb => ?_)
  · rw [if_pos (of_decide_eq_true hb)] at h
    refine H.skipP (by kernel_rfl) ?_
    refine Kseq_norm ?_
    refine H.blockI 1 (by kernel_rfl) ?_
    refine H.regP (by kernel_rfl) ?_
    refine HO.goP 3 (by kernel_rfl) ?_
    refine HO.done (by kernel_rfl) ?_
    refine Kblock_norm ?_
    refine Kloop_norm ?_
    exact HL.ren hS [0] _ _ _ (by kernel_rfl) (ih_size_L1 (x.1, x.2.1, x.2.2.1, (IntKind.i64.wrap (x.2.2.2 + 1))) r h W0 w0 S hS)
  · rw [if_neg (of_decide_eq_false hb)] at h
    refine H.exitI 0 (by kernel_rfl) ?_
    refine Kseq_exit ?_
    refine Kloop_exit ?_
    refine Kblock_hit ?_
    refine Kseq_norm ?_
    refine H.seqP (by kernel_rfl) ?_
    refine H.blockI 2 (by kernel_rfl) ?_
    refine H.seqP (by kernel_rfl) ?_
    refine H.regP (by kernel_rfl) ?_
    refine HO.goP 3 (by kernel_rfl) ?_
    refine HO.done (by kernel_rfl) ?_
    refine Kseq_norm ?_
    refine H.condS (b := decide (x.2.2.1 = 2)) (by kernel_rfl) (by kernel_rfl) (fun hb => ?_) (fun hb => ?_)
    · rw [if_pos (of_decide_eq_true hb)] at h
      refine H.regP (by kernel_rfl) ?_
      refine HO.goP 1 (by kernel_rfl) ?_
      refine HO.done (by kernel_rfl) ?_
      refine Kblock_norm ?_
      refine Kseq_norm ?_
      exact H.ren hS [0] _ _ _ (by kernel_rfl) (size_L2_ok (x.1, x.2.1, 4) r h W0 w0 S hS)
    · rw [if_neg (of_decide_eq_false hb)] at h
      refine H.seqP (by kernel_rfl) ?_
      refine H.regP (by kernel_rfl) ?_
      refine HO.goP 3 (by kernel_rfl) ?_
      refine HO.done (by kernel_rfl) ?_
      refine Kseq_norm ?_
      refine H.condS (b := decide (x.2.1 < 128)) (by kernel_rfl) (by kernel_rfl) (fun hb => ?_) (fun hb => ?_)
      · rw [if_pos (of_decide_eq_true hb)] at h
        refine H.seqP (by kernel_rfl) ?_
        refine H.regP (by kernel_rfl) ?_
        refine HO.goP 4 (by kernel_rfl) ?_
        obtain ⟨y2, hy, h⟩ := bindS h
        refine HO.effA (app1_aop (enc := (encI .u8)) (k := 1) false 1 [.int .u8 (IntKind.u8.wrap x.2.1)] [] hy (by kernel_rfl) (by kernel_rfl) (by kernel_rfl)) ?_
        refine HO.goP 1 (by kernel_rfl) ?_
        refine HO.done (by kernel_rfl) ?_
        refine Kseq_norm ?_
        refine H.retP (by kernel_rfl) ?_
        refine Kblock_ret ?_
        refine Kseq_ret ?_
        obtain rfl := Option.some.inj h
        exact KEnd.of (v := tl 1 2 (encI .u8) y2) (by kernel_rfl) (by kernel_rfl) (FEnd.ren hS [0, 2] _ _ (by kernel_rfl))
      · rw [if_neg (of_decide_eq_false hb)] at h
        refine H.skipP (by kernel_rfl) ?_
        refine Kblock_norm ?_
        refine Kseq_norm ?_
        exact H.ren hS [0] _ _ _ (by kernel_rfl) (size_L2_ok (x.1, x.2.1, x.2.2.2) r h W0 w0 S hS)
def size (x : (List Int) × Int × Int) : Option ((List Int)) :=
  size_L1 (x.1, x.2.1, x.2.2, 0)
theorem size_ok : ∀ (x : (List Int) × Int × Int) (r : (List Int)), size x = some r → ∀ W0 : World, FTo Tryd.prog W0 79 #[tl 1 0 (encI .u8) x.1, .int .i64 x.2.1, .int .u8 x.2.2] (mkW 1 [0] []) (.returned (tl 1 1 (encI .u8) r)) (mkW 2 [1] []) := by
  intro x r h
  unfold size at h
  intro W0
  refine FTo.of_body (fn := Tryd.f79) (code := cB Tryd.f79) Tryd.func79 rfl rfl ?_
  intro w0 S hS
  haveI := hS.noEx Tryd.prog
  refine H.seqP (by kernel_rfl) ?_
  refine H.regP (by kernel_rfl) ?_
  refine HO.goP 1 (by kernel_rfl) ?_
  refine HO.done (by kernel_rfl) ?_
  refine Kseq_norm ?_
  refine H.seqP (by kernel_rfl) ?_
  refine H.regP (by kernel_rfl) ?_
  refine HO.goP 1 (by kernel_rfl) ?_
  refine HO.done (by kernel_rfl) ?_
  refine Kseq_norm ?_
  refine H.seqP (by kernel_rfl) ?_
  refine H.blockI 0 (by kernel_rfl) ?_
  refine H.loopP (by kernel_rfl) ?_
  exact HL.ren hS [0] _ _ _ (by kernel_rfl) (size_L1_ok (x.1, x.2.1, x.2.2, 0) r h W0 w0 S hS)
mutual
def long_L1 (x : Int × (List S36) × Int × Int × Int × Int × Bool × (List Int)) : Option (Int) :=
  if x.2.2.2.1 < x.2.2.1 then
    (at' x.2.1 x.2.2.2.1) >>= fun y1 =>
    (long (y1.c0, y1.c1, y1.c2, y1.c3, y1.c4)) >>= fun y2 =>
    long_L1 ((IntKind.i64.wrap (x.1 + y2)), x.2.1, x.2.2.1, (IntKind.i64.wrap (x.2.2.2.1 + 1)), x.2.2.2.2.1, x.2.2.2.2.2.1, x.2.2.2.2.2.2.1, x.2.2.2.2.2.2.2)
  else
    (identifier (x.2.2.2.2.1, x.2.2.2.2.2.1, x.2.2.2.2.2.2.1, x.2.2.2.2.2.2.2, x.2.1)) >>= fun y3 =>
    (size (y3, x.1, 0)) >>= fun y4 =>
    some (IntKind.i64.wrap (x.1 + (y4.length : Int)))
partial_fixpoint
def long (x : Int × Int × Bool × (List Int) × (List S36)) : Option (Int) :=
  long_L1 ((x.2.2.2.1.length : Int), x.2.2.2.2, (x.2.2.2.2.length : Int), 0, x.1, x.2.1, x.2.2.1, x.2.2.2.1)
partial_fixpoint
end
theorem long_L1_grp : (∀ (x : Int × (List S36) × Int × Int × Int × Int × Bool × (List Int)) (r : Int), long_L1 x = some r → ∀ (W0 w0 : World) (S : Own), Std W0 w0 S 0 → HL Tryd.prog w0 S 28 (cL (cL (cR (cL (cR (cR (cB Tryd.f55))))))) (mkS [(1, .pointer (some ⟨0, 0, none⟩)), (3, .int .i64 x.1), (10, ls 5 false enc36 x.2.1), (11, .int .i64 x.2.2.1), (12, .int .i64 x.2.2.2.1)] [(0, .cells [.int .u8 x.2.2.2.2.1, .int .u32 x.2.2.2.2.2.1, .bool x.2.2.2.2.2.2.1, ls 1 false (encI .u8) x.2.2.2.2.2.2.2, ls 5 false enc36 x.2.1] 36 5)] 1 []) (Kblock 0 (Kseq Tryd.prog w0 S 28 (cR (cR (cR (cB Tryd.f55)))) (KEnd Tryd.prog Tryd.f55 (PEnd w0 S (.returned (.int .i64 r))))))) ∧
  (∀ (x : Int × Int × Bool × (List Int) × (List S36)) (r : Int), long x = some r → ∀ W0 : World, PTo Tryd.prog W0 55 #[.agg #[.int .u8 x.1, .int .u32 x.2.1, .bool x.2.2.1, ls 1 false (encI .u8) x.2.2.2.1, ls 5 false enc36 x.2.2.2.2]] (.returned (.int .i64 r))) := by
  refine long_L1.mutual_partial_correctness (fun (x : Int × (List S36) × Int × Int × Int × Int × Bool × (List Int)) (r : Int) => ∀ (W0 w0 : World) (S : Own), Std W0 w0 S 0 → HL Tryd.prog w0 S 28 (cL (cL (cR (cL (cR (cR (cB Tryd.f55))))))) (mkS [(1, .pointer (some ⟨0, 0, none⟩)), (3, .int .i64 x.1), (10, ls 5 false enc36 x.2.1), (11, .int .i64 x.2.2.1), (12, .int .i64 x.2.2.2.1)] [(0, .cells [.int .u8 x.2.2.2.2.1, .int .u32 x.2.2.2.2.2.1, .bool x.2.2.2.2.2.2.1, ls 1 false (encI .u8) x.2.2.2.2.2.2.2, ls 5 false enc36 x.2.1] 36 5)] 1 []) (Kblock 0 (Kseq Tryd.prog w0 S 28 (cR (cR (cR (cB Tryd.f55)))) (KEnd Tryd.prog Tryd.f55 (PEnd w0 S (.returned (.int .i64 r))))))) (fun (x : Int × Int × Bool × (List Int) × (List S36)) (r : Int) => ∀ W0 : World, PTo Tryd.prog W0 55 #[.agg #[.int .u8 x.1, .int .u32 x.2.1, .bool x.2.2.1, ls 1 false (encI .u8) x.2.2.2.1, ls 5 false enc36 x.2.2.2.2]] (.returned (.int .i64 r))) ?_ ?_
  · intro g_long_L1 g_long ih_long_L1 ih_long x r h
    intro W0 w0 S hS
    haveI := hS.noEx Tryd.prog
    refine HL.round ?_
    refine H.seqP (by kernel_rfl) ?_
    refine H.regP (by kernel_rfl) ?_
    refine HO.goP 1 (by kernel_rfl) ?_
    refine HO.done (by kernel_rfl) ?_
    refine Kseq_norm ?_
    refine H.seqP (by kernel_rfl) ?_
    refine H.condS (b := decide (x.2.2.2.1 < x.2.2.1)) (by kernel_rfl) (by kernel_rfl) (fun hb => ?_) (fun hb => ?_)
    · rw [if_pos (of_decide_eq_true hb)] at h
      refine H.skipP (by kernel_rfl) ?_
      refine Kseq_norm ?_
      refine H.seqP (by kernel_rfl) ?_
      refine H.blockI 1 (by kernel_rfl) ?_
      refine H.seqP (by kernel_rfl) ?_
      refine H.regP (by kernel_rfl) ?_
      obtain ⟨y1, hy, h⟩ := bindS h
      refine HO.idx (.agg #[.int .u8 y1.c0, .int .u32 y1.c1, .bool y1.c2, ls 1 false (encI .u8) y1.c3, ls 5 false enc36 y1.c4]) hy (enc36_eq y1) (by kernel_rfl) ?_
      refine HO.goP 3 (by kernel_rfl) ?_
      refine HO.done (by kernel_rfl) ?_
      refine Kseq_norm ?_
      refine H.regP (by kernel_rfl) ?_
      refine HO.goP 2 (by kernel_rfl) ?_
      obtain ⟨y2, hy, h⟩ := bindS h
      refine HO.callW hS [.agg [.keep, .keep, .keep, .list 1 false, .list 5 false]] (ih_long (y1.c0, y1.c1, y1.c2, y1.c3, y1.c4) y2 hy W0) (by kernel_rfl) (by kernel_rfl) ?_
      refine HO.goP 2 (by kernel_rfl) ?_
      refine HO.done (by kernel_rfl) ?_
      refine Kblock_norm ?_
      refine Kseq_norm ?_
      refine H.regP (by kernel_rfl) ?_
      refine HO.goP 2 (by kernel_rfl) ?_
      refine HO.done (by kernel_rfl) ?_
      refine Kloop_norm ?_
      exact HL.ren hS [0] _ _ _ (by kernel_rfl) (ih_long_L1 ((IntKind.i64.wrap (x.1 + y2)), x.2.1, x.2.2.1, (IntKind.i64.wrap (x.2.2.2.1 + 1)), x.2.2.2.2.1, x.2.2.2.2.2.1, x.2.2.2.2.2.2.1, x.2.2.2.2.2.2.2) r h W0 w0 S hS)
    · rw [if_neg (of_decide_eq_false hb)] at h
      refine H.exitI 0 (by kernel_rfl) ?_
      refine Kseq_exit ?_
      refine Kloop_exit ?_
      refine Kblock_hit ?_
      refine Kseq_norm ?_
      refine H.seqP (by kernel_rfl) ?_
      refine H.regP (by kernel_rfl) ?_
      refine HO.goP 2 (by kernel_rfl) ?_
      obtain ⟨y3, hy, h⟩ := bindS h
      refine HO.callFW hS (tl 1 1 (encI .u8) y3) 2 [1] [(0, .cells [.int .u8 x.2.2.2.2.1, .int .u32 x.2.2.2.2.2.1, .bool x.2.2.2.2.2.2.1, ls 1 false (encI .u8) x.2.2.2.2.2.2.2, ls 5 false enc36 x.2.1] 36 5)] [] [.keep, .agg [.keep, .keep, .keep, .list 1 false, .list 5 false]] (identifier_ok (x.2.2.2.2.1, x.2.2.2.2.2.1, x.2.2.2.2.2.2.1, x.2.2.2.2.2.2.2, x.2.1) y3 hy W0) (by kernel_rfl) (by kernel_rfl) ?_
      refine HO.goP 1 (by kernel_rfl) ?_
      obtain ⟨y4, hy, h⟩ := bindS h
      refine HO.callFW hS (tl 1 2 (encI .u8) y4) 3 [2] [(0, .cells [.int .u8 x.2.2.2.2.1, .int .u32 x.2.2.2.2.2.1, .bool x.2.2.2.2.2.2.1, ls 1 false (encI .u8) x.2.2.2.2.2.2.2, ls 5 false enc36 x.2.1] 36 5)] [1] [.keep, .keep, .keep] (size_ok (y3, x.1, 0) y4 hy W0) (by kernel_rfl) (by kernel_rfl) ?_
      refine HO.len (by kernel_rfl) (by kernel_rfl) (ls_size (encI .u8) y4) ?_
      refine HO.goP 2 (by kernel_rfl) ?_
      refine HO.done (by kernel_rfl) ?_
      refine Kseq_norm ?_
      refine H.retP (by kernel_rfl) ?_
      obtain rfl := Option.some.inj h
      exact KEnd.ret (by kernel_rfl) (by kernel_rfl) (by kernel_rfl)
  · intro g_long_L1 ih_long_L1 x r h
    intro W0
    refine PTo.of_body (fn := Tryd.f55) (code := cB Tryd.f55) Tryd.func55 rfl rfl ?_
    intro w0 S hS
    haveI := hS.noEx Tryd.prog
    refine H.seqP (by kernel_rfl) ?_
    refine H.regP (by kernel_rfl) ?_
    refine HO.goP 2 (by kernel_rfl) ?_
    refine HO.done (by kernel_rfl) ?_
    refine Kseq_norm ?_
    refine H.seqP (by kernel_rfl) ?_
    refine H.regP (by kernel_rfl) ?_
    refine HO.goP 2 (by kernel_rfl) ?_
    refine HO.len (by kernel_rfl) (by kernel_rfl) (ls_size (encI .u8) x.2.2.2.1) ?_
    refine HO.goP 1 (by kernel_rfl) ?_
    refine HO.done (by kernel_rfl) ?_
    refine Kseq_norm ?_
    refine H.seqP (by kernel_rfl) ?_
    refine H.seqP (by kernel_rfl) ?_
    refine H.regP (by kernel_rfl) ?_
    refine HO.goP 2 (by kernel_rfl) ?_
    refine HO.len (by kernel_rfl) (by kernel_rfl) (ls_size enc36 x.2.2.2.2) ?_
    refine HO.goP 1 (by kernel_rfl) ?_
    refine HO.done (by kernel_rfl) ?_
    refine Kseq_norm ?_
    refine H.blockI 0 (by kernel_rfl) ?_
    refine H.loopP (by kernel_rfl) ?_
    exact HL.ren hS [0] _ _ _ (by kernel_rfl) (ih_long_L1 ((x.2.2.2.1.length : Int), x.2.2.2.2, (x.2.2.2.2.length : Int), 0, x.1, x.2.1, x.2.2.1, x.2.2.2.1) r h W0 w0 S hS)
theorem long_L1_ok : ∀ (x : Int × (List S36) × Int × Int × Int × Int × Bool × (List Int)) (r : Int), long_L1 x = some r → ∀ (W0 w0 : World) (S : Own), Std W0 w0 S 0 → HL Tryd.prog w0 S 28 (cL (cL (cR (cL (cR (cR (cB Tryd.f55))))))) (mkS [(1, .pointer (some ⟨0, 0, none⟩)), (3, .int .i64 x.1), (10, ls 5 false enc36 x.2.1), (11, .int .i64 x.2.2.1), (12, .int .i64 x.2.2.2.1)] [(0, .cells [.int .u8 x.2.2.2.2.1, .int .u32 x.2.2.2.2.2.1, .bool x.2.2.2.2.2.2.1, ls 1 false (encI .u8) x.2.2.2.2.2.2.2, ls 5 false enc36 x.2.1] 36 5)] 1 []) (Kblock 0 (Kseq Tryd.prog w0 S 28 (cR (cR (cR (cB Tryd.f55)))) (KEnd Tryd.prog Tryd.f55 (PEnd w0 S (.returned (.int .i64 r)))))) := long_L1_grp.1
theorem long_ok : ∀ (x : Int × Int × Bool × (List Int) × (List S36)) (r : Int), long x = some r → ∀ W0 : World, PTo Tryd.prog W0 55 #[.agg #[.int .u8 x.1, .int .u32 x.2.1, .bool x.2.2.1, ls 1 false (encI .u8) x.2.2.2.1, ls 5 false enc36 x.2.2.2.2]] (.returned (.int .i64 r)) := long_L1_grp.2
def identifier_1_L3 (x : (List Int) × Int × Int × Int × Bool × (List Int) × (List S36)) : Option ((List Int)) :=
  if 0 < x.2.1 then
    (shr' .u32 x.2.2.2.1 x.2.1) >>= fun y4 =>
    (app' 1 x.1 [(bOr .u8 (IntKind.u8.wrap y4) 128)]) >>= fun y5 =>
    identifier_1_L3 (y5, (IntKind.i64.wrap (x.2.1 - 7)), x.2.2.1, x.2.2.2.1, x.2.2.2.2.1, x.2.2.2.2.2.1, x.2.2.2.2.2.2)
  else
    (app' 1 x.1 [(IntKind.u8.wrap (bAnd .u32 x.2.2.2.1 127))]) >>= fun y6 =>
    some y6
partial_fixpoint
theorem identifier_1_L3_ok : ∀ (x : (List Int) × Int × Int × Int × Bool × (List Int) × (List S36)) (r : (List Int)), identifier_1_L3 x = some r → ∀ (W0 w0 : World) (S : Own), Std W0 w0 S 1 → HL Tryd.prog w0 S 58 (cL (cL (cL (cR (cR (cR (cR (cR (cR (cR (cB Tryd.f80))))))))))) (mkS [(0, tl 1 1 (encI .u8) x.1), (3, .pointer (some ⟨2, 0, none⟩)), (6, .int .i64 x.2.1)] [(2, .cells [.int .u8 x.2.2.1, .int .u32 x.2.2.2.1, .bool x.2.2.2.2.1, ls 1 false (encI .u8) x.2.2.2.2.2.1, ls 5 false enc36 x.2.2.2.2.2.2] 36 5)] 3 [1]) (Kblock 2 (Kseq Tryd.prog w0 S 58 (cR (cR (cR (cR (cR (cR (cR (cR (cB Tryd.f80))))))))) (KEnd Tryd.prog Tryd.f80 (FEnd w0 S (.returned (tl 1 1 (encI .u8) r)) (mkW 2 [1] []))))) := by
  refine identifier_1_L3.partial_correctness (fun (x : (List Int) × Int × Int × Int × Bool × (List Int) × (List S36)) (r : (List Int)) => ∀ (W0 w0 : World) (S : Own), Std W0 w0 S 1 → HL Tryd.prog w0 S 58 (cL (cL (cL (cR (cR (cR (cR (cR (cR (cR (cB Tryd.f80))))))))))) (mkS [(0, tl 1 1 (encI .u8) x.1), (3, .pointer (some ⟨2, 0, none⟩)), (6, .int .i64 x.2.1)] [(2, .cells [.int .u8 x.2.2.1, .int .u32 x.2.2.2.1, .bool x.2.2.2.2.1, ls 1 false (encI .u8) x.2.2.2.2.2.1, ls 5 false enc36 x.2.2.2.2.2.2] 36 5)] 3 [1]) (Kblock 2 (Kseq Tryd.prog w0 S 58 (cR (cR (cR (cR (cR (cR (cR (cR (cB Tryd.f80))))))))) (KEnd Tryd.prog Tryd.f80 (FEnd w0 S (.returned (tl 1 1 (encI .u8) r)) (mkW 2 [1] [])))))) ?_
  intro self ih_identifier_1_L3 x r h
  intro W0 w0 S hS
  haveI := hS.noEx Tryd.prog
  refine HL.round ?_
  refine H.seqP (by kernel_rfl) ?_
  refine H.seqP (by kernel_rfl) ?_
  refine H.regP (by kernel_rfl) ?_
  refine HO.goP 2 (by kernel_rfl) ?_
  refine HO.done (by kernel_rfl) ?_
  refine Kseq_norm ?_
  refine H.condS (b := decide (0 < x.2.1)) (by kernel_rfl) (by kernel_rfl) (fun hb => ?_) (fun hb => ?_)
  · rw [if_pos (of_decide_eq_true hb)] at h
    refine H.skipP (by kernel_rfl) ?_
    refine Kseq_norm ?_
    refine H.seqP (by kernel_rfl) ?_
    refine H.blockI 3 (by kernel_rfl) ?_
    refine H.regP (by kernel_rfl) ?_
    refine HO.goP 4 (by kernel_rfl) ?_
    obtain ⟨y4, hy, h⟩ := bindS h
    refine HO.valA (shr_aop hy (by kernel_rfl)) ?_
    refine HO.goP 3 (by kernel_rfl) ?_
    obtain ⟨y5, hy, h⟩ := bindS h
    refine HO.effA (app1_aop (enc := (encI .u8)) (k := 1) false 1 [.int .u8 (bOr .u8 (IntKind.u8.wrap y4) 128)] [] hy (by kernel_rfl) (by kernel_rfl) (by kernel_rfl)) ?_
    refine HO.goP 1 (by kernel_rfl) ?_
    refine HO.done (by kernel_rfl) ?_
    refine Kblock_norm ?_
    refine Kseq_norm ?_
    refine H.regP (by kernel_rfl) ?_
    refine HO.goP 3 (by kernel_rfl) ?_
    refine HO.done (by kernel_rfl) ?_
    refine Kloop_norm ?_
    exact HL.ren hS [0, 4, 2] _ _ _ (by kernel_rfl) (ih_identifier_1_L3 (y5, (IntKind.i64.wrap (x.2.1 - 7)), x.2.2.1, x.2.2.2.1, x.2.2.2.2.1, x.2.2.2.2.2.1, x.2.2.2.2.2.2) r h W0 w0 S hS)
  · rw [if_neg (of_decide_eq_false hb)] at h
    refine H.exitI 2 (by kernel_rfl) ?_
    refine Kseq_exit ?_
    refine Kloop_exit ?_
    refine Kblock_hit ?_
    refine Kseq_norm ?_
    refine H.seqP (by kernel_rfl) ?_
    refine H.regP (by kernel_rfl) ?_
    refine HO.goP 6 (by kernel_rfl) ?_
    obtain ⟨y6, hy, h⟩ := bindS h
    refine HO.effA (app1_aop (enc := (encI .u8)) (k := 1) false 1 [.int .u8 (IntKind.u8.wrap (bAnd .u32 x.2.2.2.1 127))] [] hy (by kernel_rfl) (by kernel_rfl) (by kernel_rfl)) ?_
    refine HO.goP 1 (by kernel_rfl) ?_
    refine HO.done (by kernel_rfl) ?_
    refine Kseq_norm ?_
    refine H.retP (by kernel_rfl) ?_
    obtain rfl := Option.some.inj h
    exact KEnd.of (v := tl 1 4 (encI .u8) y6) (by kernel_rfl) (by kernel_rfl) (FEnd.ren hS [0, 4] _ _ (by kernel_rfl))
def identifier_1_L2 (x : (List Int) × Int × Int × Int × Bool × (List Int) × (List S36)) : Option ((List Int)) :=
  (shr' .u32 x.2.2.2.1 (IntKind.i64.wrap (x.2.1 + 7))) >>= fun y3 =>
  if 0 < y3 then
    identifier_1_L2 (x.1, (IntKind.i64.wrap (x.2.1 + 7)), x.2.2.1, x.2.2.2.1, x.2.2.2.2.1, x.2.2.2.2.2.1, x.2.2.2.2.2.2)
  else
    identifier_1_L3 (x.1, x.2.1, x.2.2.1, x.2.2.2.1, x.2.2.2.2.1, x.2.2.2.2.2.1, x.2.2.2.2.2.2)
partial_fixpoint
theorem identifier_1_L2_ok : ∀ (x : (List Int) × Int × Int × Int × Bool × (List Int) × (List S36)) (r : (List Int)), identifier_1_L2 x = some r → ∀ (W0 w0 : World) (S : Own), Std W0 w0 S 1 → HL Tryd.prog w0 S 58 (cL (cL (cL (cR (cR (cR (cR (cR (cR (cB Tryd.f80)))))))))) (mkS [(0, tl 1 1 (encI .u8) x.1), (3, .pointer (some ⟨2, 0, none⟩)), (6, .int .i64 x.2.1)] [(2, .cells [.int .u8 x.2.2.1, .int .u32 x.2.2.2.1, .bool x.2.2.2.2.1, ls 1 false (encI .u8) x.2.2.2.2.2.1, ls 5 false enc36 x.2.2.2.2.2.2] 36 5)] 3 [1]) (Kblock 0 (Kseq Tryd.prog w0 S 58 (cR (cR (cR (cR (cR (cR (cR (cB Tryd.f80)))))))) (KEnd Tryd.prog Tryd.f80 (FEnd w0 S (.returned (tl 1 1 (encI .u8) r)) (mkW 2 [1] []))))) := by
  refine identifier_1_L2.partial_correctness (fun (x : (List Int) × Int × Int × Int × Bool × (List Int) × (List S36)) (r : (List Int)) => ∀ (W0 w0 : World) (S : Own), Std W0 w0 S 1 → HL Tryd.prog w0 S 58 (cL (cL (cL (cR (cR (cR (cR (cR (cR (cB Tryd.f80)))))))))) (mkS [(0, tl 1 1 (encI .u8) x.1), (3, .pointer (some ⟨2, 0, none⟩)), (6, .int .i64 x.2.1)] [(2, .cells [.int .u8 x.2.2.1, .int .u32 x.2.2.2.1, .bool x.2.2.2.2.1, ls 1 false (encI .u8) x.2.2.2.2.2.1, ls 5 false enc36 x.2.2.2.2.2.2] 36 5)] 3 [1]) (Kblock 0 (Kseq Tryd.prog w0 S 58 (cR (cR (cR (cR (cR (cR (cR (cB Tryd.f80)))))))) (KEnd Tryd.prog Tryd.f80 (FEnd w0 S (.returned (tl 1 1 (encI .u8) r)) (mkW 2 [1] [])))))) ?_
  intro self ih_identifier_1_L2 x r h
  intro W0 w0 S hS
  haveI := hS.noEx Tryd.prog
  refine HL.round ?_
  refine H.seqP (by kernel_rfl) ?_
  refine H.seqP (by kernel_rfl) ?_
  refine H.regP (by kernel_rfl) ?_
  refine HO.goP 4 (by kernel_rfl) ?_
  obtain ⟨y3, hy, h⟩ := bindS h
  refine HO.valA (shr_aop hy (by kernel_rfl)) ?_
  refine HO.goP 1 (by kernel_rfl) ?_
  refine HO.done (by kernel_rfl) ?_
  refine Kseq_norm ?_
  refine H.condS (b := decide (0 < y3)) (by kernel_rfl) (by kernel_rfl) (fun hb => ?_) (fun hb => ?_)
  · rw [if_pos (of_decide_eq_true hb)] at h
    refine H.skipP (by kernel_rfl) ?_
    refine Kseq_norm ?_
    refine H.blockI 1 (by kernel_rfl) ?_
    refine H.regP (by kernel_rfl) ?_
    refine HO.goP 3 (by kernel_rfl) ?_
    refine HO.done (by kernel_rfl) ?_
    refine Kblock_norm ?_
    refine Kloop_norm ?_
    exact HL.ren hS [0, 1, 2] _ _ _ (by kernel_rfl) (ih_identifier_1_L2 (x.1, (IntKind.i64.wrap (x.2.1 + 7)), x.2.2.1, x.2.2.2.1, x.2.2.2.2.1, x.2.2.2.2.2.1, x.2.2.2.2.2.2) r h W0 w0 S hS)
  · rw [if_neg (of_decide_eq_false hb)] at h
    refine H.exitI 0 (by kernel_rfl) ?_
    refine Kseq_exit ?_
    refine Kloop_exit ?_
    refine Kblock_hit ?_
    refine Kseq_norm ?_
    refine H.seqP (by kernel_rfl) ?_
    refine H.blockI 2 (by kernel_rfl) ?_
    refine H.loopP (by kernel_rfl) ?_
    exact HL.ren hS [0, 1, 2] _ _ _ (by kernel_rfl) (identifier_1_L3_ok (x.1, x.2.1, x.2.2.1, x.2.2.2.1, x.2.2.2.2.1, x.2.2.2.2.2.1, x.2.2.2.2.2.2) r h W0 w0 S hS)
def identifier_1_L1 (x : (List Int) × Int × Int × Int × Bool × (List Int) × (List S36)) : Option ((List Int)) :=
  if x.2.2.2.1 < 31 then
    (app' 1 x.1 [(bOr .u8 x.2.1 (IntKind.u8.wrap x.2.2.2.1))]) >>= fun y1 =>
    some y1
  else
    (app' 1 x.1 [(bOr .u8 x.2.1 31)]) >>= fun y2 =>
    identifier_1_L2 (y2, 0, x.2.2.1, x.2.2.2.1, x.2.2.2.2.1, x.2.2.2.2.2.1, x.2.2.2.2.2.2)
theorem identifier_1_L1_ok : ∀ (x : (List Int) × Int × Int × Int × Bool × (List Int) × (List S36)) (r : (List Int)), identifier_1_L1 x = some r → ∀ (W0 w0 : World) (S : Own), Std W0 w0 S 1 → H Tryd.prog w0 S 58 (cR (cR (cR (cB Tryd.f80)))) (mkS [(0, tl 1 0 (encI .u8) x.1), (3, .pointer (some ⟨1, 0, none⟩)), (5, .int .u8 x.2.1)] [(1, .cells [.int .u8 x.2.2.1, .int .u32 x.2.2.2.1, .bool x.2.2.2.2.1, ls 1 false (encI .u8) x.2.2.2.2.2.1, ls 5 false enc36 x.2.2.2.2.2.2] 36 5)] 2 [0]) (KEnd Tryd.prog Tryd.f80 (FEnd w0 S (.returned (tl 1 1 (encI .u8) r)) (mkW 2 [1] []))) := by
  intro x r h
  unfold identifier_1_L1 at h
  intro W0 w0 S hS
  haveI := hS.noEx Tryd.prog
  refine H.seqP (by kernel_rfl) ?_
  refine H.seqP (by kernel_rfl) ?_
  refine H.regP (by kernel_rfl) ?_
  refine HO.goP 3 (by kernel_rfl) ?_
  refine HO.done (by kernel_rfl) ?_
  refine Kseq_norm ?_
  refine H.condS (b := decide (x.2.2.2.1 < 31)) (by kernel_rfl) (by kernel_rfl) (fun hb => ?_) (fun hb => ?_)
  · rw [if_pos (of_decide_eq_true hb)] at h
    refine H.seqP (by kernel_rfl) ?_
    refine H.regP (by kernel_rfl) ?_
    refine HO.goP 7 (by kernel_rfl) ?_
    obtain ⟨y1, hy, h⟩ := bindS h
    refine HO.effA (app1_aop (enc := (encI .u8)) (k := 1) false 1 [.int .u8 (bOr .u8 x.2.1 (IntKind.u8.wrap x.2.2.2.1))] [] hy (by kernel_rfl) (by kernel_rfl) (by kernel_rfl)) ?_
    refine HO.goP 1 (by kernel_rfl) ?_
    refine HO.done (by kernel_rfl) ?_
    refine Kseq_norm ?_
    refine H.retP (by kernel_rfl) ?_
    refine Kseq_ret ?_
    obtain rfl := Option.some.inj h
    exact KEnd.of (v := tl 1 3 (encI .u8) y1) (by kernel_rfl) (by kernel_rfl) (FEnd.ren hS [0, 3] _ _ (by kernel_rfl))
  · rw [if_neg (of_decide_eq_false hb)] at h
    refine H.skipP (by kernel_rfl) ?_
    refine Kseq_norm ?_
    refine H.seqP (by kernel_rfl) ?_
    refine H.regP (by kernel_rfl) ?_
    refine HO.goP 4 (by kernel_rfl) ?_
    obtain ⟨y2, hy, h⟩ := bindS h
    refine HO.effA (app1_aop (enc := (encI .u8)) (k := 1) false 1 [.int .u8 (bOr .u8 x.2.1 31)] [] hy (by kernel_rfl) (by kernel_rfl) (by kernel_rfl)) ?_
    refine HO.goP 1 (by kernel_rfl) ?_
    refine HO.done (by kernel_rfl) ?_
    refine Kseq_norm ?_
    refine H.seqP (by kernel_rfl) ?_
    refine H.regP (by kernel_rfl) ?_
    refine HO.goP 1 (by kernel_rfl) ?_
    refine HO.done (by kernel_rfl) ?_
    refine Kseq_norm ?_
    refine H.seqP (by kernel_rfl) ?_
    refine H.blockI 0 (by kernel_rfl) ?_
    refine H.loopP (by kernel_rfl) ?_
    exact HL.ren hS [0, 3, 1] _ _ _ (by kernel_rfl) (identifier_1_L2_ok (y2, 0, x.2.2.1, x.2.2.2.1, x.2.2.2.2.1, x.2.2.2.2.2.1, x.2.2.2.2.2.2) r h W0 w0 S hS)
def identifier_1 (x : (List Int) × Int × Int × Bool × (List Int) × (List S36)) : Option ((List Int)) :=
  if x.2.2.2.1 = true then
    identifier_1_L1 (x.1, (bOr .u8 (shlI .u8 x.2.1 6) 32), x.2.1, x.2.2.1, x.2.2.2.1, x.2.2.2.2.1, x.2.2.2.2.2)
  else
    identifier_1_L1 (x.1, (shlI .u8 x.2.1 6), x.2.1, x.2.2.1, x.2.2.2.1, x.2.2.2.2.1, x.2.2.2.2.2)
theorem identifier_1_ok : ∀ (x : (List Int) × Int × Int × Bool × (List Int) × (List S36)) (r : (List Int)), identifier_1 x = some r → ∀ W0 : World, FTo Tryd.prog W0 80 #[tl 1 0 (encI .u8) x.1, .agg #[.int .u8 x.2.1, .int .u32 x.2.2.1, .bool x.2.2.2.1, ls 1 false (encI .u8) x.2.2.2.2.1, ls 5 false enc36 x.2.2.2.2.2]] (mkW 1 [0] []) (.returned (tl 1 1 (encI .u8) r)) (mkW 2 [1] []) := by
  intro x r h
  unfold identifier_1 at h
  intro W0
  refine FTo.of_body (fn := Tryd.f80) (code := cB Tryd.f80) Tryd.func80 rfl rfl ?_
  intro w0 S hS
  haveI := hS.noEx Tryd.prog
  refine H.seqP (by kernel_rfl) ?_
  refine H.regP (by kernel_rfl) ?_
  refine HO.goP 2 (by kernel_rfl) ?_
  refine HO.done (by kernel_rfl) ?_
  refine Kseq_norm ?_
  refine H.seqP (by kernel_rfl) ?_
  refine H.regP (by kernel_rfl) ?_
  refine HO.goP 4 (by kernel_rfl) ?_
  refine HO.done (by kernel_rfl) ?_
  refine Kseq_norm ?_
  refine H.seqP (by kernel_rfl) ?_
  refine H.seqP (by kernel_rfl) ?_
  refine H.regP (by kernel_rfl) ?_
  refine HO.goP 2 (by kernel_rfl) ?_
  refine HO.done (by kernel_rfl) ?_
  refine Kseq_norm ?_
  refine H.condS (b := x.2.2.2.1) (by kernel_rfl) (by kernel_rfl) (fun hb => ?_) (fun hb => ?_)
  · rw [if_pos hb] at h
    refine H.regP (by kernel_rfl) ?_
    refine HO.goP 3 (by kernel_rfl) ?_
    refine HO.done (by kernel_rfl) ?_
    refine Kseq_norm ?_
    exact H.ren hS [0, 1] _ _ _ (by kernel_rfl) (identifier_1_L1_ok (x.1, (bOr .u8 (shlI .u8 x.2.1 6) 32), x.2.1, x.2.2.1, x.2.2.2.1, x.2.2.2.2.1, x.2.2.2.2.2) r h W0 w0 S hS)
  · rw [if_neg (ne_true hb)] at h
    refine H.skipP (by kernel_rfl) ?_
    refine Kseq_norm ?_
    exact H.ren hS [0, 1] _ _ _ (by kernel_rfl) (identifier_1_L1_ok (x.1, (shlI .u8 x.2.1 6), x.2.1, x.2.2.1, x.2.2.2.1, x.2.2.2.2.1, x.2.2.2.2.2) r h W0 w0 S hS)
def clip (x : (List Int)) : Option ((List Int)) :=
  (sub' x 0 (x.length : Int)) >>= fun y1 =>
  some y1
theorem clip_ok : ∀ (x : (List Int)) (r : (List Int)), clip x = some r → ∀ W0 : World, PTo Tryd.prog W0 57 #[ls 1 false (encI .u8) x] (.returned (ls 1 true (encI .u8) r)) := by
  intro x r h
  unfold clip at h
  intro W0
  refine PTo.of_body (fn := Tryd.f57) (code := cB Tryd.f57) Tryd.func57 rfl rfl ?_
  intro w0 S hS
  haveI := hS.noEx Tryd.prog
  refine H.seqP (by kernel_rfl) ?_
  refine H.regP (by kernel_rfl) ?_
  refine HO.goP 1 (by kernel_rfl) ?_
  refine HO.done (by kernel_rfl) ?_
  refine Kseq_norm ?_
  refine H.seqP (by kernel_rfl) ?_
  refine H.regP (by kernel_rfl) ?_
  refine HO.goP 2 (by kernel_rfl) ?_
  refine HO.len (by kernel_rfl) (by kernel_rfl) (ls_size (encI .u8) x) ?_
  refine HO.goP 1 (by kernel_rfl) ?_
  refine HO.len (by kernel_rfl) (by kernel_rfl) (ls_size (encI .u8) x) ?_
  obtain ⟨y1, hy, h⟩ := bindS h
  refine HO.valA (sl4_aop (enc := (encI .u8)) (k := 1) (j := .i64) (j' := .i64) false hy (by kernel_rfl)) ?_
  refine HO.goP 1 (by kernel_rfl) ?_
  refine HO.done (by kernel_rfl) ?_
  refine Kseq_norm ?_
  refine H.retP (by kernel_rfl) ?_
  obtain rfl := Option.some.inj h
  exact KEnd.retW (v := ls 1 true (encI .u8) y1) (.list 1 true) (by kernel_rfl) (by kernel_rfl) (by kernel_rfl) (by kernel_rfl)
def encode_1_L4 (x : (List Int)) : Option ((List Int)) :=
  (app' 1 x [0, 0]) >>= fun y7 =>
  some y7
theorem encode_1_L4_ok : ∀ (x : (List Int)) (r : (List Int)), encode_1_L4 x = some r → ∀ (W0 w0 : World) (S : Own), Std W0 w0 S 1 → H Tryd.prog w0 S 52 (cR (cL (cR (cL (cR (cR (cR (cR (cR (cB Tryd.f56)))))))))) (mkS [(0, tl 1 1 (encI .u8) x)] [] 2 [1]) (Kseq Tryd.prog w0 S 52 (cR (cR (cR (cR (cR (cR (cB Tryd.f56))))))) (KEnd Tryd.prog Tryd.f56 (FEnd w0 S (.returned (tl 1 1 (encI .u8) r)) (mkW 2 [1] [])))) := by
  intro x r h
  unfold encode_1_L4 at h
  intro W0 w0 S hS
  haveI := hS.noEx Tryd.prog
  refine H.seqP (by kernel_rfl) ?_
  refine H.regP (by kernel_rfl) ?_
  refine HO.goP 2 (by kernel_rfl) ?_
  obtain ⟨y7, hy, h⟩ := bindS h
  refine HO.effA (app1_aop (enc := (encI .u8)) (k := 1) false 2 [.int .u8 0, .int .u8 0] [] hy (by kernel_rfl) (by kernel_rfl) (by kernel_rfl)) ?_
  refine HO.goP 1 (by kernel_rfl) ?_
  refine HO.done (by kernel_rfl) ?_
  refine Kseq_norm ?_
  refine H.retP (by kernel_rfl) ?_
  refine Kseq_ret ?_
  obtain rfl := Option.some.inj h
  exact KEnd.of (v := tl 1 3 (encI .u8) y7) (by kernel_rfl) (by kernel_rfl) (FEnd.ren hS [0, 3] _ _ (by kernel_rfl))
def encode_1_L5 (x : (List Int)) : Option ((List Int)) :=
  some x
theorem encode_1_L5_ok : ∀ (x : (List Int)) (r : (List Int)), encode_1_L5 x = some r → ∀ (W0 w0 : World) (S : Own), Std W0 w0 S 1 → H Tryd.prog w0 S 52 (cR (cR (cR (cR (cR (cR (cR (cB Tryd.f56)))))))) (mkS [(6, tl 1 1 (encI .u8) x)] [] 2 [1]) (KEnd Tryd.prog Tryd.f56 (FEnd w0 S (.returned (tl 1 1 (encI .u8) r)) (mkW 2 [1] []))) := by
  intro x r h
  unfold encode_1_L5 at h
  intro W0 w0 S hS
  haveI := hS.noEx Tryd.prog
  refine H.retP (by kernel_rfl) ?_
  obtain rfl := Option.some.inj h
  exact KEnd.of (v := tl 1 1 (encI .u8) x) (by kernel_rfl) (by kernel_rfl) (FEnd.ren hS [0, 1] _ _ (by kernel_rfl))
mutual
def encode_1_L3 (x : (List Int) × Int × (List Int) × (List S36) × Int × Int) : Option ((List Int)) :=
  if x.2.2.2.2.2 < x.2.2.2.2.1 then
    (at' x.2.2.2.1 x.2.2.2.2.2) >>= fun y3 =>
    (encode_1 (x.2.2.1, y3.c0, y3.c1, y3.c2, y3.c3, y3.c4, x.2.1)) >>= fun y4 =>
    encode_1_L3 (x.1, x.2.1, y4, x.2.2.2.1, x.2.2.2.2.1, (IntKind.i64.wrap (x.2.2.2.2.2 + 1)))
  else
    if x.2.1 = 1 then
      (app' 1 x.1 [128]) >>= fun y5 =>
      (app' 1 y5 x.2.2.1) >>= fun y6 =>
      if x.2.2.1.length = 0 then
        encode_1_L4 y5
      else
        encode_1_L4 y6
    else
      (size (x.1, (x.2.2.1.length : Int), x.2.1)) >>= fun y8 =>
      (app' 1 y8 x.2.2.1) >>= fun y9 =>
      if x.2.2.1.length = 0 then
        encode_1_L5 y8
      else
        encode_1_L5 y9
partial_fixpoint
def encode_1 (x : (List Int) × Int × Int × Bool × (List Int) × (List S36) × Int) : Option ((List Int)) :=
  (identifier_1 (x.1, x.2.1, x.2.2.1, x.2.2.2.1, x.2.2.2.2.1, x.2.2.2.2.2.1)) >>= fun y1 =>
  if (!x.2.2.2.1) = true then
    encode_1_L1 (y1, x.2.2.2.2.2.2, (!decide (x.2.2.2.2.2.2 = 2)), x.2.1, x.2.2.1, x.2.2.2.1, x.2.2.2.2.1, x.2.2.2.2.2.1)
  else
    encode_1_L1 (y1, x.2.2.2.2.2.2, false, x.2.1, x.2.2.1, x.2.2.2.1, x.2.2.2.2.1, x.2.2.2.2.2.1)
partial_fixpoint
def encode_1_L1 (x : (List Int) × Int × Bool × Int × Int × Bool × (List Int) × (List S36)) : Option ((List Int)) :=
  if x.2.2.1 = true then
    encode_1_L2 (x.1, 0, x.2.2.2.1, x.2.2.2.2.1, x.2.2.2.2.2.1, x.2.2.2.2.2.2.1, x.2.2.2.2.2.2.2)
  else
    encode_1_L2 (x.1, x.2.1, x.2.2.2.1, x.2.2.2.2.1, x.2.2.2.2.2.1, x.2.2.2.2.2.2.1, x.2.2.2.2.2.2.2)
partial_fixpoint
def encode_1_L2 (x : (List Int) × Int × Int × Int × Bool × (List Int) × (List S36)) : Option ((List Int)) :=
  (clip x.2.2.2.2.2.1) >>= fun y2 =>
  encode_1_L3 (x.1, x.2.1, y2, x.2.2.2.2.2.2, (x.2.2.2.2.2.2.length : Int), 0)
partial_fixpoint
end
theorem encode_1_L3_grp : (∀ (x : (List Int) × Int × (List Int) × (List S36) × Int × Int) (r : (List Int)), encode_1_L3 x = some r → ∀ (W0 w0 : World) (S : Own), Std W0 w0 S 1 → HL Tryd.prog w0 S 52 (cL (cL (cR (cL (cR (cR (cR (cR (cB Tryd.f56))))))))) (mkS [(0, tl 1 1 (encI .u8) x.1), (2, .int .u8 x.2.1), (7, tl 1 2 (encI .u8) x.2.2.1), (24, ls 5 false enc36 x.2.2.2.1), (25, .int .i64 x.2.2.2.2.1), (26, .int .i64 x.2.2.2.2.2)] [] 3 [2, 1]) (Kblock 0 (Kseq Tryd.prog w0 S 52 (cR (cR (cR (cR (cR (cB Tryd.f56)))))) (KEnd Tryd.prog Tryd.f56 (FEnd w0 S (.returned (tl 1 1 (encI .u8) r)) (mkW 2 [1] [])))))) ∧
  (∀ (x : (List Int) × Int × Int × Bool × (List Int) × (List S36) × Int) (r : (List Int)), encode_1 x = some r → ∀ W0 : World, FTo Tryd.prog W0 56 #[tl 1 0 (encI .u8) x.1, .agg #[.int .u8 x.2.1, .int .u32 x.2.2.1, .bool x.2.2.2.1, ls 1 false (encI .u8) x.2.2.2.2.1, ls 5 false enc36 x.2.2.2.2.2.1], .int .u8 x.2.2.2.2.2.2] (mkW 1 [0] []) (.returned (tl 1 1 (encI .u8) r)) (mkW 2 [1] [])) ∧
  (∀ (x : (List Int) × Int × Bool × Int × Int × Bool × (List Int) × (List S36)) (r : (List Int)), encode_1_L1 x = some r → ∀ (W0 w0 : World) (S : Own), Std W0 w0 S 1 → H Tryd.prog w0 S 52 (cR (cL (cR (cR (cB Tryd.f56))))) (mkS [(0, tl 1 1 (encI .u8) x.1), (2, .int .u8 x.2.1), (4, .pointer (some ⟨2, 0, none⟩)), (19, .bool x.2.2.1)] [(2, .cells [.int .u8 x.2.2.2.1, .int .u32 x.2.2.2.2.1, .bool x.2.2.2.2.2.1, ls 1 false (encI .u8) x.2.2.2.2.2.2.1, ls 5 false enc36 x.2.2.2.2.2.2.2] 36 5)] 3 [1]) (Kseq Tryd.prog w0 S 52 (cR (cR (cR (cB Tryd.f56)))) (KEnd Tryd.prog Tryd.f56 (FEnd w0 S (.returned (tl 1 1 (encI .u8) r)) (mkW 2 [1] []))))) ∧
  (∀ (x : (List Int) × Int × Int × Int × Bool × (List Int) × (List S36)) (r : (List Int)), encode_1_L2 x = some r → ∀ (W0 w0 : World) (S : Own), Std W0 w0 S 1 → H Tryd.prog w0 S 52 (cR (cR (cR (cB Tryd.f56)))) (mkS [(0, tl 1 1 (encI .u8) x.1), (2, .int .u8 x.2.1), (4, .pointer (some ⟨2, 0, none⟩))] [(2, .cells [.int .u8 x.2.2.1, .int .u32 x.2.2.2.1, .bool x.2.2.2.2.1, ls 1 false (encI .u8) x.2.2.2.2.2.1, ls 5 false enc36 x.2.2.2.2.2.2] 36 5)] 3 [1]) (KEnd Tryd.prog Tryd.f56 (FEnd w0 S (.returned (tl 1 1 (encI .u8) r)) (mkW 2 [1] [])))) := by
  refine encode_1_L3.mutual_partial_correctness (fun (x : (List Int) × Int × (List Int) × (List S36) × Int × Int) (r : (List Int)) => ∀ (W0 w0 : World) (S : Own), Std W0 w0 S 1 → HL Tryd.prog w0 S 52 (cL (cL (cR (cL (cR (cR (cR (cR (cB Tryd.f56))))))))) (mkS [(0, tl 1 1 (encI .u8) x.1), (2, .int .u8 x.2.1), (7, tl 1 2 (encI .u8) x.2.2.1), (24, ls 5 false enc36 x.2.2.2.1), (25, .int .i64 x.2.2.2.2.1), (26, .int .i64 x.2.2.2.2.2)] [] 3 [2, 1]) (Kblock 0 (Kseq Tryd.prog w0 S 52 (cR (cR (cR (cR (cR (cB Tryd.f56)))))) (KEnd Tryd.prog Tryd.f56 (FEnd w0 S (.returned (tl 1 1 (encI .u8) r)) (mkW 2 [1] [])))))) (fun (x : (List Int) × Int × Int × Bool × (List Int) × (List S36) × Int) (r : (List Int)) => ∀ W0 : World, FTo Tryd.prog W0 56 #[tl 1 0 (encI .u8) x.1, .agg #[.int .u8 x.2.1, .int .u32 x.2.2.1, .bool x.2.2.2.1, ls 1 false (encI .u8) x.2.2.2.2.1, ls 5 false enc36 x.2.2.2.2.2.1], .int .u8 x.2.2.2.2.2.2] (mkW 1 [0] []) (.returned (tl 1 1 (encI .u8) r)) (mkW 2 [1] [])) (fun (x : (List Int) × Int × Bool × Int × Int × Bool × (List Int) × (List S36)) (r : (List Int)) => ∀ (W0 w0 : World) (S : Own), Std W0 w0 S 1 → H Tryd.prog w0 S 52 (cR (cL (cR (cR (cB Tryd.f56))))) (mkS [(0, tl 1 1 (encI .u8) x.1), (2, .int .u8 x.2.1), (4, .pointer (some ⟨2, 0, none⟩)), (19, .bool x.2.2.1)] [(2, .cells [.int .u8 x.2.2.2.1, .int .u32 x.2.2.2.2.1, .bool x.2.2.2.2.2.1, ls 1 false (encI .u8) x.2.2.2.2.2.2.1, ls 5 false enc36 x.2.2.2.2.2.2.2] 36 5)] 3 [1]) (Kseq Tryd.prog w0 S 52 (cR (cR (cR (cB Tryd.f56)))) (KEnd Tryd.prog Tryd.f56 (FEnd w0 S (.returned (tl 1 1 (encI .u8) r)) (mkW 2 [1] []))))) (fun (x : (List Int) × Int × Int × Int × Bool × (List Int) × (List S36)) (r : (List Int)) => ∀ (W0 w0 : World) (S : Own), Std W0 w0 S 1 → H Tryd.prog w0 S 52 (cR (cR (cR (cB Tryd.f56)))) (mkS [(0, tl 1 1 (encI .u8) x.1), (2, .int .u8 x.2.1), (4, .pointer (some ⟨2, 0, none⟩))] [(2, .cells [.int .u8 x.2.2.1, .int .u32 x.2.2.2.1, .bool x.2.2.2.2.1, ls 1 false (encI .u8) x.2.2.2.2.2.1, ls 5 false enc36 x.2.2.2.2.2.2] 36 5)] 3 [1]) (KEnd Tryd.prog Tryd.f56 (FEnd w0 S (.returned (tl 1 1 (encI .u8) r)) (mkW 2 [1] [])))) ?_ ?_ ?_ ?_
  · intro g_encode_1_L3 g_encode_1 ih_encode_1_L3 ih_encode_1 x r h
    intro W0 w0 S hS
    haveI := hS.noEx Tryd.prog
    refine HL.round ?_
    refine H.seqP (by kernel_rfl) ?_
    refine H.regP (by kernel_rfl) ?_
    refine HO.goP 1 (by kernel_rfl) ?_
    refine HO.done (by kernel_rfl) ?_
    refine Kseq_norm ?_
    refine H.seqP (by kernel_rfl) ?_
    refine H.condS (b := decide (x.2.2.2.2.2 < x.2.2.2.2.1)) (by kernel_rfl) (by kernel_rfl) (fun hb => ?_) (fun hb => ?_)
    · rw [if_pos (of_decide_eq_true hb)] at h
      refine H.skipP (by kernel_rfl) ?_
      refine Kseq_norm ?_
      refine H.seqP (by kernel_rfl) ?_
      refine H.blockI 1 (by kernel_rfl) ?_
      refine H.seqP (by kernel_rfl) ?_
      refine H.regP (by kernel_rfl) ?_
      obtain ⟨y3, hy, h⟩ := bindS h
      refine HO.idx (.agg #[.int .u8 y3.c0, .int .u32 y3.c1, .bool y3.c2, ls 1 false (encI .u8) y3.c3, ls 5 false enc36 y3.c4]) hy (enc36_eq y3) (by kernel_rfl) ?_
      refine HO.goP 3 (by kernel_rfl) ?_
      refine HO.done (by kernel_rfl) ?_
      refine Kseq_norm ?_
      refine H.regP (by kernel_rfl) ?_
      refine HO.goP 3 (by kernel_rfl) ?_
      obtain ⟨y4, hy, h⟩ := bindS h
      refine HO.callFW hS (tl 1 4 (encI .u8) y4) 5 [4, 1] [(3, .cells [.int .u8 y3.c0, .int .u32 y3.c1, .bool y3.c2, ls 1 false (encI .u8) y3.c3, ls 5 false enc36 y3.c4] 36 5)] [2] [.keep, .agg [.keep, .keep, .keep, .list 1 false, .list 5 false], .keep] (ih_encode_1 (x.2.2.1, y3.c0, y3.c1, y3.c2, y3.c3, y3.c4, x.2.1) y4 hy W0) (by kernel_rfl) (by kernel_rfl) ?_
      refine HO.goP 1 (by kernel_rfl) ?_
      refine HO.done (by kernel_rfl) ?_
      refine Kblock_norm ?_
      refine Kseq_norm ?_
      refine H.regP (by kernel_rfl) ?_
      refine HO.goP 2 (by kernel_rfl) ?_
      refine HO.done (by kernel_rfl) ?_
      refine Kloop_norm ?_
      exact HL.ren hS [0, 1, 4] _ _ _ (by kernel_rfl) (ih_encode_1_L3 (x.1, x.2.1, y4, x.2.2.2.1, x.2.2.2.2.1, (IntKind.i64.wrap (x.2.2.2.2.2 + 1))) r h W0 w0 S hS)
    · rw [if_neg (of_decide_eq_false hb)] at h
      refine H.exitI 0 (by kernel_rfl) ?_
      refine Kseq_exit ?_
      refine Kloop_exit ?_
      refine Kblock_hit ?_
      refine Kseq_norm ?_
      refine H.seqP (by kernel_rfl) ?_
      refine H.seqP (by kernel_rfl) ?_
      refine H.regP (by kernel_rfl) ?_
      refine HO.goP 2 (by kernel_rfl) ?_
      refine HO.done (by kernel_rfl) ?_
      refine Kseq_norm ?_
      refine H.condS (b := decide (x.2.1 = 1)) (by kernel_rfl) (by kernel_rfl) (fun hb => ?_) (fun hb => ?_)
      · rw [if_pos (of_decide_eq_true hb)] at h
        refine H.seqP (by kernel_rfl) ?_
        refine H.regP (by kernel_rfl) ?_
        refine HO.goP 2 (by kernel_rfl) ?_
        obtain ⟨y5, hy, h⟩ := bindS h
        refine HO.effA (app1_aop (enc := (encI .u8)) (k := 1) false 1 [.int .u8 128] [2] hy (by kernel_rfl) (by kernel_rfl) (by kernel_rfl)) ?_
        refine HO.goP 1 (by kernel_rfl) ?_
        obtain ⟨y6, hy, h⟩ := bindS h
        by_cases hb : x.2.2.1.length = 0
        · rw [if_pos hb] at h
          refine HO.valA (appN_aop (ag := false) [2] (encI_ok .u8) hy hb (by kernel_rfl)) ?_
          refine HO.goP 1 (by kernel_rfl) ?_
          refine HO.done (by kernel_rfl) ?_
          refine Kseq_norm ?_
          exact H.ren hS [0, 4] _ _ _ (by kernel_rfl) (encode_1_L4_ok y5 r h W0 w0 S hS)
        · rw [if_neg hb] at h
          refine HO.effA (appL_aop (ag := false) [2] (encI_ok .u8) hy hb (by kernel_rfl)) ?_
          refine HO.goP 1 (by kernel_rfl) ?_
          refine HO.done (by kernel_rfl) ?_
          refine Kseq_norm ?_
          exact H.ren hS [0, 5] _ _ _ (by kernel_rfl) (encode_1_L4_ok y6 r h W0 w0 S hS)
      · rw [if_neg (of_decide_eq_false hb)] at h
        refine H.skipP (by kernel_rfl) ?_
        refine Kseq_norm ?_
        refine H.seqP (by kernel_rfl) ?_
        refine H.regP (by kernel_rfl) ?_
        refine HO.goP 2 (by kernel_rfl) ?_
        refine HO.len (by kernel_rfl) (by kernel_rfl) (ls_size (encI .u8) x.2.2.1) ?_
        refine HO.goP 1 (by kernel_rfl) ?_
        obtain ⟨y8, hy, h⟩ := bindS h
        refine HO.callFW hS (tl 1 3 (encI .u8) y8) 4 [3, 2] [] [1] [.keep, .keep, .keep] (size_ok (x.1, (x.2.2.1.length : Int), x.2.1) y8 hy W0) (by kernel_rfl) (by kernel_rfl) ?_
        refine HO.goP 1 (by kernel_rfl) ?_
        obtain ⟨y9, hy, h⟩ := bindS h
        by_cases hb : x.2.2.1.length = 0
        · rw [if_pos hb] at h
          refine HO.valA (appN_aop (ag := false) [2] (encI_ok .u8) hy hb (by kernel_rfl)) ?_
          refine HO.goP 1 (by kernel_rfl) ?_
          refine HO.done (by kernel_rfl) ?_
          refine Kseq_norm ?_
          exact H.ren hS [0, 3] _ _ _ (by kernel_rfl) (encode_1_L5_ok y8 r h W0 w0 S hS)
        · rw [if_neg hb] at h
          refine HO.effA (appL_aop (ag := false) [2] (encI_ok .u8) hy hb (by kernel_rfl)) ?_
          refine HO.goP 1 (by kernel_rfl) ?_
          refine HO.done (by kernel_rfl) ?_
          refine Kseq_norm ?_
          exact H.ren hS [0, 4] _ _ _ (by kernel_rfl) (encode_1_L5_ok y9 r h W0 w0 S hS)
  · intro g_encode_1_L1 ih_encode_1_L1 x r h
    intro W0
    refine FTo.of_body (fn := Tryd.f56) (code := cB Tryd.f56) Tryd.func56 rfl rfl ?_
    intro w0 S hS
    haveI := hS.noEx Tryd.prog
    refine H.seqP (by kernel_rfl) ?_
    refine H.regP (by kernel_rfl) ?_
    refine HO.goP 2 (by kernel_rfl) ?_
    refine HO.done (by kernel_rfl) ?_
    refine Kseq_norm ?_
    refine H.seqP (by kernel_rfl) ?_
    refine H.regP (by kernel_rfl) ?_
    refine HO.goP 2 (by kernel_rfl) ?_
    obtain ⟨y1, hy, h⟩ := bindS h
    refine HO.callFW hS (tl 1 2 (encI .u8) y1) 3 [2] [(1, .cells [.int .u8 x.2.1, .int .u32 x.2.2.1, .bool x.2.2.2.1, ls 1 false (encI .u8) x.2.2.2.2.1, ls 5 false enc36 x.2.2.2.2.2.1] 36 5)] [0] [.keep, .agg [.keep, .keep, .keep, .list 1 false, .list 5 false]] (identifier_1_ok (x.1, x.2.1, x.2.2.1, x.2.2.2.1, x.2.2.2.2.1, x.2.2.2.2.2.1) y1 hy W0) (by kernel_rfl) (by kernel_rfl) ?_
    refine HO.goP 1 (by kernel_rfl) ?_
    refine HO.done (by kernel_rfl) ?_
    refine Kseq_norm ?_
    refine H.seqP (by kernel_rfl) ?_
    refine H.seqP (by kernel_rfl) ?_
    refine H.regP (by kernel_rfl) ?_
    refine HO.goP 3 (by kernel_rfl) ?_
    refine HO.boolP (!x.2.2.2.1) (by kernel_rfl) (by kernel_rfl) (fun hb => ?_) (fun hb => ?_)
    · rw [if_pos hb] at h
      refine HO.goP 3 (by kernel_rfl) ?_
      refine HO.done (by kernel_rfl) ?_
      refine Kseq_norm ?_
      exact H.ren hS [0, 2, 1] _ _ _ (by kernel_rfl) (ih_encode_1_L1 (y1, x.2.2.2.2.2.2, (!decide (x.2.2.2.2.2.2 = 2)), x.2.1, x.2.2.1, x.2.2.2.1, x.2.2.2.2.1, x.2.2.2.2.2.1) r h W0 w0 S hS)
    · rw [if_neg (ne_true hb)] at h
      refine HO.goP 3 (by kernel_rfl) ?_
      refine HO.done (by kernel_rfl) ?_
      refine Kseq_norm ?_
      exact H.ren hS [0, 2, 1] _ _ _ (by kernel_rfl) (ih_encode_1_L1 (y1, x.2.2.2.2.2.2, false, x.2.1, x.2.2.1, x.2.2.2.1, x.2.2.2.2.1, x.2.2.2.2.2.1) r h W0 w0 S hS)
  · intro g_encode_1_L2 ih_encode_1_L2 x r h
    intro W0 w0 S hS
    haveI := hS.noEx Tryd.prog
    refine H.condS (b := x.2.2.1) (by kernel_rfl) (by kernel_rfl) (fun hb => ?_) (fun hb => ?_)
    · rw [if_pos hb] at h
      refine H.regP (by kernel_rfl) ?_
      refine HO.goP 1 (by kernel_rfl) ?_
      refine HO.done (by kernel_rfl) ?_
      refine Kseq_norm ?_
      exact H.ren hS [0, 1, 2] _ _ _ (by kernel_rfl) (ih_encode_1_L2 (x.1, 0, x.2.2.2.1, x.2.2.2.2.1, x.2.2.2.2.2.1, x.2.2.2.2.2.2.1, x.2.2.2.2.2.2.2) r h W0 w0 S hS)
    · rw [if_neg (ne_true hb)] at h
      refine H.skipP (by kernel_rfl) ?_
      refine Kseq_norm ?_
      exact H.ren hS [0, 1, 2] _ _ _ (by kernel_rfl) (ih_encode_1_L2 (x.1, x.2.1, x.2.2.2.1, x.2.2.2.2.1, x.2.2.2.2.2.1, x.2.2.2.2.2.2.1, x.2.2.2.2.2.2.2) r h W0 w0 S hS)
  · intro g_encode_1_L3 ih_encode_1_L3 x r h
    intro W0 w0 S hS
    haveI := hS.noEx Tryd.prog
    refine H.seqP (by kernel_rfl) ?_
    refine H.regP (by kernel_rfl) ?_
    refine HO.goP 2 (by kernel_rfl) ?_
    obtain ⟨y2, hy, h⟩ := bindS h
    refine HO.callW hS [.list 1 false] (clip_ok x.2.2.2.2.2.1 y2 hy W0) (by kernel_rfl) (by kernel_rfl) ?_
    refine HO.goP 1 (by kernel_rfl) ?_
    refine HO.done (by kernel_rfl) ?_
    refine Kseq_norm ?_
    refine H.seqP (by kernel_rfl) ?_
    refine H.seqP (by kernel_rfl) ?_
    refine H.regP (by kernel_rfl) ?_
    refine HO.goP 2 (by kernel_rfl) ?_
    refine HO.len (by kernel_rfl) (by kernel_rfl) (ls_size enc36 x.2.2.2.2.2.2) ?_
    refine HO.goP 1 (by kernel_rfl) ?_
    refine HO.done (by kernel_rfl) ?_
    refine Kseq_norm ?_
    refine H.blockI 0 (by kernel_rfl) ?_
    refine H.loopP (by kernel_rfl) ?_
    refine HL.tok 7 1 (es := (y2.map (encI .u8)).toArray) (by kernel_rfl) ?_
    exact HL.ren hS [0, 1, 3] _ _ _ (by kernel_rfl) (ih_encode_1_L3 (x.1, x.2.1, y2, x.2.2.2.2.2.2, (x.2.2.2.2.2.2.length : Int), 0) r h W0 w0 S hS)
theorem encode_1_L3_ok : ∀ (x : (List Int) × Int × (List Int) × (List S36) × Int × Int) (r : (List Int)), encode_1_L3 x = some r → ∀ (W0 w0 : World) (S : Own), Std W0 w0 S 1 → HL Tryd.prog w0 S 52 (cL (cL (cR (cL (cR (cR (cR (cR (cB Tryd.f56))))))))) (mkS [(0, tl 1 1 (encI .u8) x.1), (2, .int .u8 x.2.1), (7, tl 1 2 (encI .u8) x.2.2.1), (24, ls 5 false enc36 x.2.2.2.1), (25, .int .i64 x.2.2.2.2.1), (26, .int .i64 x.2.2.2.2.2)] [] 3 [2, 1]) (Kblock 0 (Kseq Tryd.prog w0 S 52 (cR (cR (cR (cR (cR (cB Tryd.f56)))))) (KEnd Tryd.prog Tryd.f56 (FEnd w0 S (.returned (tl 1 1 (encI .u8) r)) (mkW 2 [1] []))))) := encode_1_L3_grp.1
theorem encode_1_ok : ∀ (x : (List Int) × Int × Int × Bool × (List Int) × (List S36) × Int) (r : (List Int)), encode_1 x = some r → ∀ W0 : World, FTo Tryd.prog W0 56 #[tl 1 0 (encI .u8) x.1, .agg #[.int .u8 x.2.1, .int .u32 x.2.2.1, .bool x.2.2.2.1, ls 1 false (encI .u8) x.2.2.2.2.1, ls 5 false enc36 x.2.2.2.2.2.1], .int .u8 x.2.2.2.2.2.2] (mkW 1 [0] []) (.returned (tl 1 1 (encI .u8) r)) (mkW 2 [1] []) := encode_1_L3_grp.2.1
theorem encode_1_L1_ok : ∀ (x : (List Int) × Int × Bool × Int × Int × Bool × (List Int) × (List S36)) (r : (List Int)), encode_1_L1 x = some r → ∀ (W0 w0 : World) (S : Own), Std W0 w0 S 1 → H Tryd.prog w0 S 52 (cR (cL (cR (cR (cB Tryd.f56))))) (mkS [(0, tl 1 1 (encI .u8) x.1), (2, .int .u8 x.2.1), (4, .pointer (some ⟨2, 0, none⟩)), (19, .bool x.2.2.1)] [(2, .cells [.int .u8 x.2.2.2.1, .int .u32 x.2.2.2.2.1, .bool x.2.2.2.2.2.1, ls 1 false (encI .u8) x.2.2.2.2.2.2.1, ls 5 false enc36 x.2.2.2.2.2.2.2] 36 5)] 3 [1]) (Kseq Tryd.prog w0 S 52 (cR (cR (cR (cB Tryd.f56)))) (KEnd Tryd.prog Tryd.f56 (FEnd w0 S (.returned (tl 1 1 (encI .u8) r)) (mkW 2 [1] [])))) := encode_1_L3_grp.2.2.1
theorem encode_1_L2_ok : ∀ (x : (List Int) × Int × Int × Int × Bool × (List Int) × (List S36)) (r : (List Int)), encode_1_L2 x = some r → ∀ (W0 w0 : World) (S : Own), Std W0 w0 S 1 → H Tryd.prog w0 S 52 (cR (cR (cR (cB Tryd.f56)))) (mkS [(0, tl 1 1 (encI .u8) x.1), (2, .int .u8 x.2.1), (4, .pointer (some ⟨2, 0, none⟩))] [(2, .cells [.int .u8 x.2.2.1, .int .u32 x.2.2.2.1, .bool x.2.2.2.2.1, ls 1 false (encI .u8) x.2.2.2.2.2.1, ls 5 false enc36 x.2.2.2.2.2.2] 36 5)] 3 [1]) (KEnd Tryd.prog Tryd.f56 (FEnd w0 S (.returned (tl 1 1 (encI .u8) r)) (mkW 2 [1] []))) := encode_1_L3_grp.2.2.2
def encode_L4 (x : (List Int)) : Option ((List Int)) :=
  (app' 1 x [0, 0]) >>= fun y7 =>
  some y7
theorem encode_L4_ok : ∀ (x : (List Int)) (r : (List Int)), encode_L4 x = some r → ∀ (W0 w0 : World) (S : Own), Std W0 w0 S 0 → H Tryd.prog w0 S 52 (cR (cL (cR (cL (cR (cR (cR (cR (cR (cB Tryd.f56)))))))))) (mkS [(0, tl 1 0 (encI .u8) x)] [] 1 [0]) (Kseq Tryd.prog w0 S 52 (cR (cR (cR (cR (cR (cR (cB Tryd.f56))))))) (KEnd Tryd.prog Tryd.f56 (FEnd w0 S (.returned (tl 1 0 (encI .u8) r)) (mkW 1 [0] [])))) := by
  intro x r h
  unfold encode_L4 at h
  intro W0 w0 S hS
  haveI := hS.noEx Tryd.prog
  refine H.seqP (by kernel_rfl) ?_
  refine H.regP (by kernel_rfl) ?_
  refine HO.goP 2 (by kernel_rfl) ?_
  obtain ⟨y7, hy, h⟩ := bindS h
  refine HO.effA (app1_aop (enc := (encI .u8)) (k := 1) false 2 [.int .u8 0, .int .u8 0] [] hy (by kernel_rfl) (by kernel_rfl) (by kernel_rfl)) ?_
  refine HO.goP 1 (by kernel_rfl) ?_
  refine HO.done (by kernel_rfl) ?_
  refine Kseq_norm ?_
  refine H.retP (by kernel_rfl) ?_
  refine Kseq_ret ?_
  obtain rfl := Option.some.inj h
  exact KEnd.of (v := tl 1 2 (encI .u8) y7) (by kernel_rfl) (by kernel_rfl) (FEnd.ren hS [2] _ _ (by kernel_rfl))
def encode_L5 (x : (List Int)) : Option ((List Int)) :=
  some x
theorem encode_L5_ok : ∀ (x : (List Int)) (r : (List Int)), encode_L5 x = some r → ∀ (W0 w0 : World) (S : Own), Std W0 w0 S 0 → H Tryd.prog w0 S 52 (cR (cR (cR (cR (cR (cR (cR (cB Tryd.f56)))))))) (mkS [(6, tl 1 0 (encI .u8) x)] [] 1 [0]) (KEnd Tryd.prog Tryd.f56 (FEnd w0 S (.returned (tl 1 0 (encI .u8) r)) (mkW 1 [0] []))) := by
  intro x r h
  unfold encode_L5 at h
  intro W0 w0 S hS
  haveI := hS.noEx Tryd.prog
  refine H.retP (by kernel_rfl) ?_
  obtain rfl := Option.some.inj h
  exact KEnd.of (v := tl 1 0 (encI .u8) x) (by kernel_rfl) (by kernel_rfl) (FEnd.ren hS [0] _ _ (by kernel_rfl))
def encode_L3 (x : (List Int) × Int × (List Int) × (List S36) × Int × Int) : Option ((List Int)) :=
  if x.2.2.2.2.2 < x.2.2.2.2.1 then
    (at' x.2.2.2.1 x.2.2.2.2.2) >>= fun y3 =>
    (encode_1 (x.2.2.1, y3.c0, y3.c1, y3.c2, y3.c3, y3.c4, x.2.1)) >>= fun y4 =>
    encode_L3 (x.1, x.2.1, y4, x.2.2.2.1, x.2.2.2.2.1, (IntKind.i64.wrap (x.2.2.2.2.2 + 1)))
  else
    if x.2.1 = 1 then
      (app' 1 x.1 [128]) >>= fun y5 =>
      (app' 1 y5 x.2.2.1) >>= fun y6 =>
      if x.2.2.1.length = 0 then
        encode_L4 y5
      else
        encode_L4 y6
    else
      (size (x.1, (x.2.2.1.length : Int), x.2.1)) >>= fun y8 =>
      (app' 1 y8 x.2.2.1) >>= fun y9 =>
      if x.2.2.1.length = 0 then
        encode_L5 y8
      else
        encode_L5 y9
partial_fixpoint
theorem encode_L3_ok : ∀ (x : (List Int) × Int × (List Int) × (List S36) × Int × Int) (r : (List Int)), encode_L3 x = some r → ∀ (W0 w0 : World) (S : Own), Std W0 w0 S 0 → HL Tryd.prog w0 S 52 (cL (cL (cR (cL (cR (cR (cR (cR (cB Tryd.f56))))))))) (mkS [(0, tl 1 0 (encI .u8) x.1), (2, .int .u8 x.2.1), (7, tl 1 1 (encI .u8) x.2.2.1), (24, ls 5 false enc36 x.2.2.2.1), (25, .int .i64 x.2.2.2.2.1), (26, .int .i64 x.2.2.2.2.2)] [] 2 [1, 0]) (Kblock 0 (Kseq Tryd.prog w0 S 52 (cR (cR (cR (cR (cR (cB Tryd.f56)))))) (KEnd Tryd.prog Tryd.f56 (FEnd w0 S (.returned (tl 1 0 (encI .u8) r)) (mkW 1 [0] []))))) := by
  refine encode_L3.partial_correctness (fun (x : (List Int) × Int × (List Int) × (List S36) × Int × Int) (r : (List Int)) => ∀ (W0 w0 : World) (S : Own), Std W0 w0 S 0 → HL Tryd.prog w0 S 52 (cL (cL (cR (cL (cR (cR (cR (cR (cB Tryd.f56))))))))) (mkS [(0, tl 1 0 (encI .u8) x.1), (2, .int .u8 x.2.1), (7, tl 1 1 (encI .u8) x.2.2.1), (24, ls 5 false enc36 x.2.2.2.1), (25, .int .i64 x.2.2.2.2.1), (26, .int .i64 x.2.2.2.2.2)] [] 2 [1, 0]) (Kblock 0 (Kseq Tryd.prog w0 S 52 (cR (cR (cR (cR (cR (cB Tryd.f56)))))) (KEnd Tryd.prog Tryd.f56 (FEnd w0 S (.returned (tl 1 0 (encI .u8) r)) (mkW 1 [0] [])))))) ?_
  intro self ih_encode_L3 x r h
  intro W0 w0 S hS
  haveI := hS.noEx Tryd.prog
  refine HL.round ?_
  refine H.seqP (by kernel_rfl) ?_
  refine H.regP (by kernel_rfl) ?_
  refine HO.goP 1 (by kernel_rfl) ?_
  refine HO.done (by kernel_rfl) ?_
  refine Kseq_norm ?_
  refine H.seqP (by kernel_rfl) ?_
  refine H.condS (b := decide (x.2.2.2.2.2 < x.2.2.2.2.1)) (by kernel_rfl) (by kernel_rfl) (fun hb => ?_) (fun hb => ?_)
  · rw [if_pos (of_decide_eq_true hb)] at h
    refine H.skipP (by kernel_rfl) ?_
    refine Kseq_norm ?_
    refine H.seqP (by kernel_rfl) ?_
    refine H.blockI 1 (by kernel_rfl) ?_
    refine H.seqP (by kernel_rfl) ?_
    refine H.regP (by kernel_rfl) ?_
    obtain ⟨y3, hy, h⟩ := bindS h
    refine HO.idx (.agg #[.int .u8 y3.c0, .int .u32 y3.c1, .bool y3.c2, ls 1 false (encI .u8) y3.c3, ls 5 false enc36 y3.c4]) hy (enc36_eq y3) (by kernel_rfl) ?_
    refine HO.goP 3 (by kernel_rfl) ?_
    refine HO.done (by kernel_rfl) ?_
    refine Kseq_norm ?_
    refine H.regP (by kernel_rfl) ?_
    refine HO.goP 3 (by kernel_rfl) ?_
    obtain ⟨y4, hy, h⟩ := bindS h
    refine HO.callFW hS (tl 1 3 (encI .u8) y4) 4 [3, 0] [(2, .cells [.int .u8 y3.c0, .int .u32 y3.c1, .bool y3.c2, ls 1 false (encI .u8) y3.c3, ls 5 false enc36 y3.c4] 36 5)] [1] [.keep, .agg [.keep, .keep, .keep, .list 1 false, .list 5 false], .keep] (encode_1_ok (x.2.2.1, y3.c0, y3.c1, y3.c2, y3.c3, y3.c4, x.2.1) y4 hy W0) (by kernel_rfl) (by kernel_rfl) ?_
    refine HO.goP 1 (by kernel_rfl) ?_
    refine HO.done (by kernel_rfl) ?_
    refine Kblock_norm ?_
    refine Kseq_norm ?_
    refine H.regP (by kernel_rfl) ?_
    refine HO.goP 2 (by kernel_rfl) ?_
    refine HO.done (by kernel_rfl) ?_
    refine Kloop_norm ?_
    exact HL.ren hS [0, 3] _ _ _ (by kernel_rfl) (ih_encode_L3 (x.1, x.2.1, y4, x.2.2.2.1, x.2.2.2.2.1, (IntKind.i64.wrap (x.2.2.2.2.2 + 1))) r h W0 w0 S hS)
  · rw [if_neg (of_decide_eq_false hb)] at h
    refine H.exitI 0 (by kernel_rfl) ?_
    refine Kseq_exit ?_
    refine Kloop_exit ?_
    refine Kblock_hit ?_
    refine Kseq_norm ?_
    refine H.seqP (by kernel_rfl) ?_
    refine H.seqP (by kernel_rfl) ?_
    refine H.regP (by kernel_rfl) ?_
    refine HO.goP 2 (by kernel_rfl) ?_
    refine HO.done (by kernel_rfl) ?_
    refine Kseq_norm ?_
    refine H.condS (b := decide (x.2.1 = 1)) (by kernel_rfl) (by kernel_rfl) (fun hb => ?_) (fun hb => ?_)
    · rw [if_pos (of_decide_eq_true hb)] at h
      refine H.seqP (by kernel_rfl) ?_
      refine H.regP (by kernel_rfl) ?_
      refine HO.goP 2 (by kernel_rfl) ?_
      obtain ⟨y5, hy, h⟩ := bindS h
      refine HO.effA (app1_aop (enc := (encI .u8)) (k := 1) false 1 [.int .u8 128] [1] hy (by kernel_rfl) (by kernel_rfl) (by kernel_rfl)) ?_
      refine HO.goP 1 (by kernel_rfl) ?_
      obtain ⟨y6, hy, h⟩ := bindS h
      by_cases hb : x.2.2.1.length = 0
      · rw [if_pos hb] at h
        refine HO.valA (appN_aop (ag := false) [1] (encI_ok .u8) hy hb (by kernel_rfl)) ?_
        refine HO.goP 1 (by kernel_rfl) ?_
        refine HO.done (by kernel_rfl) ?_
        refine Kseq_norm ?_
        exact H.ren hS [3] _ _ _ (by kernel_rfl) (encode_L4_ok y5 r h W0 w0 S hS)
      · rw [if_neg hb] at h
        refine HO.effA (appL_aop (ag := false) [1] (encI_ok .u8) hy hb (by kernel_rfl)) ?_
        refine HO.goP 1 (by kernel_rfl) ?_
        refine HO.done (by kernel_rfl) ?_
        refine Kseq_norm ?_
        exact H.ren hS [4] _ _ _ (by kernel_rfl) (encode_L4_ok y6 r h W0 w0 S hS)
    · rw [if_neg (of_decide_eq_false hb)] at h
      refine H.skipP (by kernel_rfl) ?_
      refine Kseq_norm ?_
      refine H.seqP (by kernel_rfl) ?_
      refine H.regP (by kernel_rfl) ?_
      refine HO.goP 2 (by kernel_rfl) ?_
      refine HO.len (by kernel_rfl) (by kernel_rfl) (ls_size (encI .u8) x.2.2.1) ?_
      refine HO.goP 1 (by kernel_rfl) ?_
      obtain ⟨y8, hy, h⟩ := bindS h
      refine HO.callFW hS (tl 1 2 (encI .u8) y8) 3 [2, 1] [] [0] [.keep, .keep, .keep] (size_ok (x.1, (x.2.2.1.length : Int), x.2.1) y8 hy W0) (by kernel_rfl) (by kernel_rfl) ?_
      refine HO.goP 1 (by kernel_rfl) ?_
      obtain ⟨y9, hy, h⟩ := bindS h
      by_cases hb : x.2.2.1.length = 0
      · rw [if_pos hb] at h
        refine HO.valA (appN_aop (ag := false) [1] (encI_ok .u8) hy hb (by kernel_rfl)) ?_
        refine HO.goP 1 (by kernel_rfl) ?_
        refine HO.done (by kernel_rfl) ?_
        refine Kseq_norm ?_
        exact H.ren hS [2] _ _ _ (by kernel_rfl) (encode_L5_ok y8 r h W0 w0 S hS)
      · rw [if_neg hb] at h
        refine HO.effA (appL_aop (ag := false) [1] (encI_ok .u8) hy hb (by kernel_rfl)) ?_
        refine HO.goP 1 (by kernel_rfl) ?_
        refine HO.done (by kernel_rfl) ?_
        refine Kseq_norm ?_
        exact H.ren hS [3] _ _ _ (by kernel_rfl) (encode_L5_ok y9 r h W0 w0 S hS)
def encode_L2 (x : (List Int) × Int × Int × Int × Bool × (List Int) × (List S36)) : Option ((List Int)) :=
  (clip x.2.2.2.2.2.1) >>= fun y2 =>
  encode_L3 (x.1, x.2.1, y2, x.2.2.2.2.2.2, (x.2.2.2.2.2.2.length : Int), 0)
theorem encode_L2_ok : ∀ (x : (List Int) × Int × Int × Int × Bool × (List Int) × (List S36)) (r : (List Int)), encode_L2 x = some r → ∀ (W0 w0 : World) (S : Own), Std W0 w0 S 0 → H Tryd.prog w0 S 52 (cR (cR (cR (cB Tryd.f56)))) (mkS [(0, tl 1 0 (encI .u8) x.1), (2, .int .u8 x.2.1), (4, .pointer (some ⟨1, 0, none⟩))] [(1, .cells [.int .u8 x.2.2.1, .int .u32 x.2.2.2.1, .bool x.2.2.2.2.1, ls 1 false (encI .u8) x.2.2.2.2.2.1, ls 5 false enc36 x.2.2.2.2.2.2] 36 5)] 2 [0]) (KEnd Tryd.prog Tryd.f56 (FEnd w0 S (.returned (tl 1 0 (encI .u8) r)) (mkW 1 [0] []))) := by
  intro x r h
  unfold encode_L2 at h
  intro W0 w0 S hS
  haveI := hS.noEx Tryd.prog
  refine H.seqP (by kernel_rfl) ?_
  refine H.regP (by kernel_rfl) ?_
  refine HO.goP 2 (by kernel_rfl) ?_
  obtain ⟨y2, hy, h⟩ := bindS h
  refine HO.callW hS [.list 1 false] (clip_ok x.2.2.2.2.2.1 y2 hy W0) (by kernel_rfl) (by kernel_rfl) ?_
  refine HO.goP 1 (by kernel_rfl) ?_
  refine HO.done (by kernel_rfl) ?_
  refine Kseq_norm ?_
  refine H.seqP (by kernel_rfl) ?_
  refine H.seqP (by kernel_rfl) ?_
  refine H.regP (by kernel_rfl) ?_
  refine HO.goP 2 (by kernel_rfl) ?_
  refine HO.len (by kernel_rfl) (by kernel_rfl) (ls_size enc36 x.2.2.2.2.2.2) ?_
  refine HO.goP 1 (by kernel_rfl) ?_
  refine HO.done (by kernel_rfl) ?_
  refine Kseq_norm ?_
  refine H.blockI 0 (by kernel_rfl) ?_
  refine H.loopP (by kernel_rfl) ?_
  refine HL.tok 7 1 (es := (y2.map (encI .u8)).toArray) (by kernel_rfl) ?_
  exact HL.ren hS [0, 2] _ _ _ (by kernel_rfl) (encode_L3_ok (x.1, x.2.1, y2, x.2.2.2.2.2.2, (x.2.2.2.2.2.2.length : Int), 0) r h W0 w0 S hS)
def encode_L1 (x : (List Int) × Int × Bool × Int × Int × Bool × (List Int) × (List S36)) : Option ((List Int)) :=
  if x.2.2.1 = true then
    encode_L2 (x.1, 0, x.2.2.2.1, x.2.2.2.2.1, x.2.2.2.2.2.1, x.2.2.2.2.2.2.1, x.2.2.2.2.2.2.2)
  else
    encode_L2 (x.1, x.2.1, x.2.2.2.1, x.2.2.2.2.1, x.2.2.2.2.2.1, x.2.2.2.2.2.2.1, x.2.2.2.2.2.2.2)
theorem encode_L1_ok : ∀ (x : (List Int) × Int × Bool × Int × Int × Bool × (List Int) × (List S36)) (r : (List Int)), encode_L1 x = some r → ∀ (W0 w0 : World) (S : Own), Std W0 w0 S 0 → H Tryd.prog w0 S 52 (cR (cL (cR (cR (cB Tryd.f56))))) (mkS [(0, tl 1 0 (encI .u8) x.1), (2, .int .u8 x.2.1), (4, .pointer (some ⟨1, 0, none⟩)), (19, .bool x.2.2.1)] [(1, .cells [.int .u8 x.2.2.2.1, .int .u32 x.2.2.2.2.1, .bool x.2.2.2.2.2.1, ls 1 false (encI .u8) x.2.2.2.2.2.2.1, ls 5 false enc36 x.2.2.2.2.2.2.2] 36 5)] 2 [0]) (Kseq Tryd.prog w0 S 52 (cR (cR (cR (cB Tryd.f56)))) (KEnd Tryd.prog Tryd.f56 (FEnd w0 S (.returned (tl 1 0 (encI .u8) r)) (mkW 1 [0] [])))) := by
  intro x r h
  unfold encode_L1 at h
  intro W0 w0 S hS
  haveI := hS.noEx Tryd.prog
  refine H.condS (b := x.2.2.1) (by kernel_rfl) (by kernel_rfl) (fun hb => ?_) (fun hb => ?_)
  · rw [if_pos hb] at h
    refine H.regP (by kernel_rfl) ?_
    refine HO.goP 1 (by kernel_rfl) ?_
    refine HO.done (by kernel_rfl) ?_
    refine Kseq_norm ?_
    exact H.ren hS [0, 1] _ _ _ (by kernel_rfl) (encode_L2_ok (x.1, 0, x.2.2.2.1, x.2.2.2.2.1, x.2.2.2.2.2.1, x.2.2.2.2.2.2.1, x.2.2.2.2.2.2.2) r h W0 w0 S hS)
  · rw [if_neg (ne_true hb)] at h
    refine H.skipP (by kernel_rfl) ?_
    refine Kseq_norm ?_
    exact H.ren hS [0, 1] _ _ _ (by kernel_rfl) (encode_L2_ok (x.1, x.2.1, x.2.2.2.1, x.2.2.2.2.1, x.2.2.2.2.2.1, x.2.2.2.2.2.2.1, x.2.2.2.2.2.2.2) r h W0 w0 S hS)
def encode (x : Int × Int × Bool × (List Int) × (List S36) × Int) : Option ((List Int)) :=
  (identifier_1 ([], x.1, x.2.1, x.2.2.1, x.2.2.2.1, x.2.2.2.2.1)) >>= fun y1 =>
  if (!x.2.2.1) = true then
    encode_L1 (y1, x.2.2.2.2.2, (!decide (x.2.2.2.2.2 = 2)), x.1, x.2.1, x.2.2.1, x.2.2.2.1, x.2.2.2.2.1)
  else
    encode_L1 (y1, x.2.2.2.2.2, false, x.1, x.2.1, x.2.2.1, x.2.2.2.1, x.2.2.2.2.1)
theorem encode_ok : ∀ (x : Int × Int × Bool × (List Int) × (List S36) × Int) (r : (List Int)), encode x = some r → ∀ W0 : World, FTo Tryd.prog W0 56 #[.slice none 0 0, .agg #[.int .u8 x.1, .int .u32 x.2.1, .bool x.2.2.1, ls 1 false (encI .u8) x.2.2.2.1, ls 5 false enc36 x.2.2.2.2.1], .int .u8 x.2.2.2.2.2] (mkW 0 [] []) (.returned (tl 1 0 (encI .u8) r)) (mkW 1 [0] []) := by
  intro x r h
  unfold encode at h
  intro W0
  refine FTo.of_body (fn := Tryd.f56) (code := cB Tryd.f56) Tryd.func56 rfl rfl ?_
  intro w0 S hS
  haveI := hS.noEx Tryd.prog
  refine H.seqP (by kernel_rfl) ?_
  refine H.regP (by kernel_rfl) ?_
  refine HO.goP 2 (by kernel_rfl) ?_
  refine HO.done (by kernel_rfl) ?_
  refine Kseq_norm ?_
  refine H.seqP (by kernel_rfl) ?_
  refine H.regP (by kernel_rfl) ?_
  refine HO.goP 2 (by kernel_rfl) ?_
  refine HO.tok 10 1 (es := #[]) (by kernel_rfl) ?_
  obtain ⟨y1, hy, h⟩ := bindS h
  refine HO.callFW hS (tl 1 2 (encI .u8) y1) 3 [2] [(0, .cells [.int .u8 x.1, .int .u32 x.2.1, .bool x.2.2.1, ls 1 false (encI .u8) x.2.2.2.1, ls 5 false enc36 x.2.2.2.2.1] 36 5)] [1] [.keep, .agg [.keep, .keep, .keep, .list 1 false, .list 5 false]] (identifier_1_ok ([], x.1, x.2.1, x.2.2.1, x.2.2.2.1, x.2.2.2.2.1) y1 hy W0) (by kernel_rfl) (by kernel_rfl) ?_
  refine HO.goP 1 (by kernel_rfl) ?_
  refine HO.done (by kernel_rfl) ?_
  refine Kseq_norm ?_
  refine H.seqP (by kernel_rfl) ?_
  refine H.seqP (by kernel_rfl) ?_
  refine H.regP (by kernel_rfl) ?_
  refine HO.goP 3 (by kernel_rfl) ?_
  refine HO.boolP (!x.2.2.1) (by kernel_rfl) (by kernel_rfl) (fun hb => ?_) (fun hb => ?_)
  · rw [if_pos hb] at h
    refine HO.goP 3 (by kernel_rfl) ?_
    refine HO.done (by kernel_rfl) ?_
    refine Kseq_norm ?_
    exact H.ren hS [2, 0] _ _ _ (by kernel_rfl) (encode_L1_ok (y1, x.2.2.2.2.2, (!decide (x.2.2.2.2.2 = 2)), x.1, x.2.1, x.2.2.1, x.2.2.2.1, x.2.2.2.2.1) r h W0 w0 S hS)
  · rw [if_neg (ne_true hb)] at h
    refine HO.goP 3 (by kernel_rfl) ?_
    refine HO.done (by kernel_rfl) ?_
    refine Kseq_norm ?_
    exact H.ren hS [2, 0] _ _ _ (by kernel_rfl) (encode_L1_ok (y1, x.2.2.2.2.2, false, x.1, x.2.1, x.2.2.1, x.2.2.2.1, x.2.2.2.2.1) r h W0 w0 S hS)
def encodeAs (x : Int × Int × Bool × (List Int) × (List S36) × Int) : Option ((List Int) × Int) :=
  (check (x.1, x.2.1, x.2.2.1, x.2.2.2.1, x.2.2.2.2.1)) >>= fun y1 =>
  if (!decide (y1 = 0)) = true then
    some ([], y1)
  else
    if 2 < x.2.2.2.2.2 then
      some ([], 1)
    else
      (long (x.1, x.2.1, x.2.2.1, x.2.2.2.1, x.2.2.2.2.1)) >>= fun y2 =>
      if 65536 < y2 then
        some ([], 3)
      else
        (encode (x.1, x.2.1, x.2.2.1, x.2.2.2.1, x.2.2.2.2.1, x.2.2.2.2.2)) >>= fun y3 =>
        if 65536 < (y3.length : Int) then
          some ([], 3)
        else
          (clip y3) >>= fun y4 =>
          some (y4, 0)
theorem encodeAs_ok : ∀ (x : Int × Int × Bool × (List Int) × (List S36) × Int) (r : (List Int) × Int), encodeAs x = some r → ∀ W0 : World, PTo Tryd.prog W0 22 #[.agg #[.int .u8 x.1, .int .u32 x.2.1, .bool x.2.2.1, ls 1 false (encI .u8) x.2.2.2.1, ls 5 false enc36 x.2.2.2.2.1], .int .u8 x.2.2.2.2.2] (.returned (.tuple #[ls 1 true (encI .u8) r.1, .int .i64 r.2])) := by
  intro x r h
  unfold encodeAs at h
  intro W0
  refine PTo.of_body (fn := Tryd.f22) (code := cB Tryd.f22) Tryd.func22 rfl rfl ?_
  intro w0 S hS
  haveI := hS.noEx Tryd.prog
  refine H.seqP (by kernel_rfl) ?_
  refine H.regP (by kernel_rfl) ?_
  refine HO.goP 3 (by kernel_rfl) ?_
  refine HO.done (by kernel_rfl) ?_
  refine Kseq_norm ?_
  refine H.seqP (by kernel_rfl) ?_
  refine H.seqP (by kernel_rfl) ?_
  refine H.regP (by kernel_rfl) ?_
  refine HO.goP 1 (by kernel_rfl) ?_
  obtain ⟨y1, hy, h⟩ := bindS h
  refine HO.callW hS [.agg [.keep, .keep, .keep, .list 1 false, .list 5 false]] (check_ok (x.1, x.2.1, x.2.2.1, x.2.2.2.1, x.2.2.2.2.1) y1 hy W0) (by kernel_rfl) (by kernel_rfl) ?_
  refine HO.goP 1 (by kernel_rfl) ?_
  refine HO.done (by kernel_rfl) ?_
  refine Kseq_norm ?_
  refine H.blockI 0 (by kernel_rfl) ?_
  refine H.seqP (by kernel_rfl) ?_
  refine H.regP (by kernel_rfl) ?_
  refine HO.goP 3 (by kernel_rfl) ?_
  refine HO.done (by kernel_rfl) ?_
  refine Kseq_norm ?_
  refine H.condS (b := !decide (y1 = 0)) (by kernel_rfl) (by kernel_rfl) (fun hb => ?_) (fun hb => ?_)
  · rw [if_pos hb] at h
    refine H.seqP (by kernel_rfl) ?_
    refine H.regP (by kernel_rfl) ?_
    refine HO.goP 3 (by kernel_rfl) ?_
    refine HO.done (by kernel_rfl) ?_
    refine Kseq_norm ?_
    refine H.retP (by kernel_rfl) ?_
    refine Kblock_ret ?_
    refine Kseq_ret ?_
    obtain rfl := Option.some.inj h
    exact KEnd.retW (v := .tuple #[.slice none 0 0, .int .i64 y1]) (.tuple [.list 1 true, .keep]) (by kernel_rfl) (by kernel_rfl) (by kernel_rfl) (by kernel_rfl)
  · rw [if_neg (ne_true hb)] at h
    refine H.seqP (by kernel_rfl) ?_
    refine H.regP (by kernel_rfl) ?_
    refine HO.goP 3 (by kernel_rfl) ?_
    refine HO.done (by kernel_rfl) ?_
    refine Kseq_norm ?_
    refine H.condS (b := decide (2 < x.2.2.2.2.2)) (by kernel_rfl) (by kernel_rfl) (fun hb => ?_) (fun hb => ?_)
    · rw [if_pos (of_decide_eq_true hb)] at h
      refine H.seqP (by kernel_rfl) ?_
      refine H.regP (by kernel_rfl) ?_
      refine HO.goP 2 (by kernel_rfl) ?_
      refine HO.done (by kernel_rfl) ?_
      refine Kseq_norm ?_
      refine H.retP (by kernel_rfl) ?_
      refine Kblock_ret ?_
      refine Kseq_ret ?_
      obtain rfl := Option.some.inj h
      exact KEnd.retW (v := .tuple #[.slice none 0 0, .int .i64 1]) (.tuple [.list 1 true, .keep]) (by kernel_rfl) (by kernel_rfl) (by kernel_rfl) (by kernel_rfl)
    · rw [if_neg (of_decide_eq_false hb)] at h
      refine H.skipP (by kernel_rfl) ?_
      refine Kblock_norm ?_
      refine Kseq_norm ?_
      refine H.seqP (by kernel_rfl) ?_
      refine H.seqP (by kernel_rfl) ?_
      refine H.regP (by kernel_rfl) ?_
      refine HO.goP 1 (by kernel_rfl) ?_
      obtain ⟨y2, hy, h⟩ := bindS h
      refine HO.callW hS [.agg [.keep, .keep, .keep, .list 1 false, .list 5 false]] (long_ok (x.1, x.2.1, x.2.2.1, x.2.2.2.1, x.2.2.2.2.1) y2 hy W0) (by kernel_rfl) (by kernel_rfl) ?_
      refine HO.goP 1 (by kernel_rfl) ?_
      refine HO.done (by kernel_rfl) ?_
      refine Kseq_norm ?_
      refine H.condS (b := decide (65536 < y2)) (by kernel_rfl) (by kernel_rfl) (fun hb => ?_) (fun hb => ?_)
      · rw [if_pos (of_decide_eq_true hb)] at h
        refine H.seqP (by kernel_rfl) ?_
        refine H.regP (by kernel_rfl) ?_
        refine HO.goP 2 (by kernel_rfl) ?_
        refine HO.done (by kernel_rfl) ?_
        refine Kseq_norm ?_
        refine H.retP (by kernel_rfl) ?_
        refine Kseq_ret ?_
        obtain rfl := Option.some.inj h
        exact KEnd.retW (v := .tuple #[.slice none 0 0, .int .i64 3]) (.tuple [.list 1 true, .keep]) (by kernel_rfl) (by kernel_rfl) (by kernel_rfl) (by kernel_rfl)
      · rw [if_neg (of_decide_eq_false hb)] at h
        refine H.skipP (by kernel_rfl) ?_
        refine Kseq_norm ?_
        refine H.seqP (by kernel_rfl) ?_
        refine H.regP (by kernel_rfl) ?_
        refine HO.goP 2 (by kernel_rfl) ?_
        obtain ⟨y3, hy, h⟩ := bindS h
        refine HO.callFW hS (tl 1 1 (encI .u8) y3) 2 [1] [(0, .cells [.int .u8 x.1, .int .u32 x.2.1, .bool x.2.2.1, ls 1 false (encI .u8) x.2.2.2.1, ls 5 false enc36 x.2.2.2.2.1] 36 5)] [] [.keep, .agg [.keep, .keep, .keep, .list 1 false, .list 5 false], .keep] (encode_ok (x.1, x.2.1, x.2.2.1, x.2.2.2.1, x.2.2.2.2.1, x.2.2.2.2.2) y3 hy W0) (by kernel_rfl) (by kernel_rfl) ?_
        refine HO.goP 1 (by kernel_rfl) ?_
        refine HO.done (by kernel_rfl) ?_
        refine Kseq_norm ?_
        refine H.seqP (by kernel_rfl) ?_
        refine H.seqP (by kernel_rfl) ?_
        refine H.regP (by kernel_rfl) ?_
        refine HO.goP 1 (by kernel_rfl) ?_
        refine HO.len (by kernel_rfl) (by kernel_rfl) (ls_size (encI .u8) y3) ?_
        refine HO.goP 1 (by kernel_rfl) ?_
        refine HO.done (by kernel_rfl) ?_
        refine Kseq_norm ?_
        refine H.condS (b := decide (65536 < (y3.length : Int))) (by kernel_rfl) (by kernel_rfl) (fun hb => ?_) (fun hb => ?_)
        · rw [if_pos (of_decide_eq_true hb)] at h
          refine H.seqP (by kernel_rfl) ?_
          refine H.regP (by kernel_rfl) ?_
          refine HO.goP 2 (by kernel_rfl) ?_
          refine HO.done (by kernel_rfl) ?_
          refine Kseq_norm ?_
          refine H.retP (by kernel_rfl) ?_
          refine Kseq_ret ?_
          obtain rfl := Option.some.inj h
          exact KEnd.retW (v := .tuple #[.slice none 0 0, .int .i64 3]) (.tuple [.list 1 true, .keep]) (by kernel_rfl) (by kernel_rfl) (by kernel_rfl) (by kernel_rfl)
        · rw [if_neg (of_decide_eq_false hb)] at h
          refine H.skipP (by kernel_rfl) ?_
          refine Kseq_norm ?_
          refine H.seqP (by kernel_rfl) ?_
          refine H.regP (by kernel_rfl) ?_
          refine HO.goP 1 (by kernel_rfl) ?_
          obtain ⟨y4, hy, h⟩ := bindS h
          refine HO.callW hS [.list 1 false] (clip_ok y3 y4 hy W0) (by kernel_rfl) (by kernel_rfl) ?_
          refine HO.goP 2 (by kernel_rfl) ?_
          refine HO.done (by kernel_rfl) ?_
          refine Kseq_norm ?_
          refine H.retP (by kernel_rfl) ?_
          obtain rfl := Option.some.inj h
          exact KEnd.retW (v := .tuple #[ls 1 true (encI .u8) y4, .int .i64 0]) (.tuple [.list 1 true, .keep]) (by kernel_rfl) (by kernel_rfl) (by kernel_rfl) (by kernel_rfl)
def must (x : Bool × Int) : Option (Except Int Unit) :=
  if (!x.1) = true then
    some (.error x.2)
  else
    some (.ok ())
theorem must_ok : ∀ (x : Bool × Int) (r : Except Int Unit), must x = some r → ∀ W0 : World, PTo Tryd.prog W0 81 #[.bool x.1, .int .i64 x.2] (match r with | .ok r => .returned (.tuple #[]) | .error e => panE (.iface 25 (.int .i64 e))) := by
  intro x r h
  unfold must at h
  intro W0
  refine PTo.of_body (fn := Tryd.f81) (code := cB Tryd.f81) Tryd.func81 rfl rfl ?_
  intro w0 S hS
  haveI := hS.noEx Tryd.prog
  refine H.seqP (by kernel_rfl) ?_
  refine H.regP (by kernel_rfl) ?_
  refine HO.goP 2 (by kernel_rfl) ?_
  refine HO.done (by kernel_rfl) ?_
  refine Kseq_norm ?_
  refine H.condS (b := !x.1) (by kernel_rfl) (by kernel_rfl) (fun hb => ?_) (fun hb => ?_)
  · rw [if_pos hb] at h
    refine H.regP (by kernel_rfl) ?_
    refine HO.goP 2 (by kernel_rfl) ?_
    refine HO.pan1 (.iface 25 (.int .i64 x.2)) (by kernel_rfl) ?_
    obtain rfl := Option.some.inj h
    exact KEnd.pan (by kernel_rfl) (by kernel_rfl)
  · rw [if_neg (ne_true hb)] at h
    refine H.skipP (by kernel_rfl) ?_
    obtain rfl := Option.some.inj h
    exact KEnd.ret (by kernel_rfl) (by kernel_rfl) (by kernel_rfl)
def take (x : Int × (List Int) × Int) : Option (Except Int ((List Int) × (List Int) × Int)) :=
  if (x.2.1.length : Int) < x.1 then
    some (.error 4)
  else
    (sub' x.2.1 0 x.1) >>= fun y1 =>
    (sub' x.2.1 x.1 (x.2.1.length : Int)) >>= fun y2 =>
    some (.ok (y1, y2, x.2.2))
theorem take_ok : ∀ (x : Int × (List Int) × Int) (r : Except Int ((List Int) × (List Int) × Int)), take x = some r → ∀ W0 : World, FTo Tryd.prog W0 86 #[.pointer (some ⟨0, 0, none⟩), .int .i64 x.1] (mkW 1 [] [(0, .cells [ls 1 false (encI .u8) x.2.1, .int .i64 x.2.2] 121 2)]) (match r with | .ok r => .returned (ls 1 false (encI .u8) r.1) | .error e => panE (.iface 25 (.int .i64 e))) (match r with | .ok r => (mkW 1 [] [(0, .cells [ls 1 false (encI .u8) r.2.1, .int .i64 r.2.2] 121 2)]) | .error _ => (mkW 1 [] [])) := by
  intro x r h
  unfold take at h
  intro W0
  refine FTo.of_body (fn := Tryd.f86) (code := cB Tryd.f86) Tryd.func86 rfl rfl ?_
  intro w0 S hS
  haveI := hS.noEx Tryd.prog
  refine H.seqP (by kernel_rfl) ?_
  refine H.regP (by kernel_rfl) ?_
  refine HO.goP 1 (by kernel_rfl) ?_
  refine HO.done (by kernel_rfl) ?_
  refine Kseq_norm ?_
  refine H.seqP (by kernel_rfl) ?_
  refine H.seqP (by kernel_rfl) ?_
  refine H.regP (by kernel_rfl) ?_
  refine HO.goP 5 (by kernel_rfl) ?_
  refine HO.len (by kernel_rfl) (by kernel_rfl) (ls_size (encI .u8) x.2.1) ?_
  refine HO.goP 1 (by kernel_rfl) ?_
  refine HO.done (by kernel_rfl) ?_
  refine Kseq_norm ?_
  refine H.condS (b := decide ((x.2.1.length : Int) < x.1)) (by kernel_rfl) (by kernel_rfl) (fun hb => ?_) (fun hb => ?_)
  · rw [if_pos (of_decide_eq_true hb)] at h
    refine H.regP (by kernel_rfl) ?_
    refine HO.goP 1 (by kernel_rfl) ?_
    refine HO.pan1 (.iface 25 (.int .i64 4)) (by kernel_rfl) ?_
    refine Kseq_pan ?_
    obtain rfl := Option.some.inj h
    exact KEnd.ofPan (by kernel_rfl) (FEnd.pan hS [0] [] [] (by kernel_rfl))
  · rw [if_neg (of_decide_eq_false hb)] at h
    refine H.skipP (by kernel_rfl) ?_
    refine Kseq_norm ?_
    refine H.seqP (by kernel_rfl) ?_
    refine H.regP (by kernel_rfl) ?_
    refine HO.goP 5 (by kernel_rfl) ?_
    obtain ⟨y1, hy, h⟩ := bindS h
    refine HO.valA (sl2_aop (enc := (encI .u8)) (k := 1) (j := .i64) hy (by kernel_rfl)) ?_
    refine HO.goP 1 (by kernel_rfl) ?_
    refine HO.done (by kernel_rfl) ?_
    refine Kseq_norm ?_
    refine H.seqP (by kernel_rfl) ?_
    refine H.regP (by kernel_rfl) ?_
    refine HO.goP 6 (by kernel_rfl) ?_
    obtain ⟨y2, hy, h⟩ := bindS h
    refine HO.valA (sl1_aop (enc := (encI .u8)) (k := 1) (j := .i64) false hy (by kernel_rfl)) ?_
    refine HO.goP 3 (by kernel_rfl) ?_
    refine HO.done (by kernel_rfl) ?_
    refine Kseq_norm ?_
    refine H.seqP (by kernel_rfl) ?_
    refine H.regP (by kernel_rfl) ?_
    refine HO.goP 2 (by kernel_rfl) ?_
    refine HO.done (by kernel_rfl) ?_
    refine Kseq_norm ?_
    refine H.retP (by kernel_rfl) ?_
    obtain rfl := Option.some.inj h
    exact KEnd.of (v := ls 1 false (encI .u8) y1) (by kernel_rfl) (by kernel_rfl) (FEnd.wk (v1 := ls 1 false (encI .u8) y1) (.list 1 false) (by kernel_rfl) (FEnd.ren hS [0] _ _ (by kernel_rfl)))
def next (x : (List Int) × Int) : Option (Except Int (Int × (List Int) × Int)) :=
  (take (1, x.1, x.2)) >>= fun y1 =>
  match y1 with
  | .error y1 =>
    some (.error y1)
  | .ok y1 =>
    (at' y1.1 0) >>= fun y2 =>
    some (.ok (y2, y1.2.1, y1.2.2))
theorem next_ok : ∀ (x : (List Int) × Int) (r : Except Int (Int × (List Int) × Int)), next x = some r → ∀ W0 : World, FTo Tryd.prog W0 82 #[.pointer (some ⟨0, 0, none⟩)] (mkW 1 [] [(0, .cells [ls 1 false (encI .u8) x.1, .int .i64 x.2] 121 2)]) (match r with | .ok r => .returned (.int .u8 r.1) | .error e => panE (.iface 25 (.int .i64 e))) (match r with | .ok r => (mkW 1 [] [(0, .cells [ls 1 false (encI .u8) r.2.1, .int .i64 r.2.2] 121 2)]) | .error _ => (mkW 1 [] [])) := by
  intro x r h
  unfold next at h
  intro W0
  refine FTo.of_body (fn := Tryd.f82) (code := cB Tryd.f82) Tryd.func82 rfl rfl ?_
  intro w0 S hS
  haveI := hS.noEx Tryd.prog
  refine H.seqP (by kernel_rfl) ?_
  refine H.regP (by kernel_rfl) ?_
  refine HO.goP 1 (by kernel_rfl) ?_
  refine HO.done (by kernel_rfl) ?_
  refine Kseq_norm ?_
  refine H.seqP (by kernel_rfl) ?_
  refine H.regP (by kernel_rfl) ?_
  refine HO.goP 1 (by kernel_rfl) ?_
  obtain ⟨y1, hy, h⟩ := bindS h
  rcases y1 with y1 | y1
  · dsimp only at h
    refine HO.panFW hS 1 [] [] [0] [.keep, .keep] (take_ok (1, x.1, x.2) (.error y1) hy W0) (by kernel_rfl) (by kernel_rfl) ?_
    refine Kseq_pan ?_
    obtain rfl := Option.some.inj h
    exact KEnd.ofPan (by kernel_rfl) (FEnd.pan hS [0] [] [] (by kernel_rfl))
  · dsimp only at h
    refine HO.callFW hS (ls 1 false (encI .u8) y1.1) 1 [] [(0, .cells [ls 1 false (encI .u8) y1.2.1, .int .i64 y1.2.2] 121 2)] [0] [.keep, .keep] (take_ok (1, x.1, x.2) (.ok y1) hy W0) (by kernel_rfl) (by kernel_rfl) ?_
    obtain ⟨y2, hy, h⟩ := bindS h
    refine HO.idx (.int .u8 y2) hy rfl (by kernel_rfl) ?_
    refine HO.goP 2 (by kernel_rfl) ?_
    refine HO.done (by kernel_rfl) ?_
    refine Kseq_norm ?_
    refine H.retP (by kernel_rfl) ?_
    obtain rfl := Option.some.inj h
    exact KEnd.of (v := .int .u8 y2) (by kernel_rfl) (by kernel_rfl) (FEnd.ren hS [0] _ _ (by kernel_rfl))
mutual
def numberT_L2 (x : Int × Int × (List Int) × Int) : Option (Except Int (Int × (List Int) × Int)) :=
  (must ((decide ((bOr .u32 (shlI .u32 x.1 7) (IntKind.u32.wrap (bAnd .u8 x.2.1 127))) ≤ 2097151)), 3)) >>= fun y4 =>
  match y4 with
  | .error y4 =>
    some (.error y4)
  | .ok y4 =>
    if x.2.1 < 128 then
      (must ((decide (31 ≤ (bOr .u32 (shlI .u32 x.1 7) (IntKind.u32.wrap (bAnd .u8 x.2.1 127))))), 4)) >>= fun y5 =>
      match y5 with
      | .error y5 =>
        some (.error y5)
      | .ok y5 =>
        some (.ok ((bOr .u32 (shlI .u32 x.1 7) (IntKind.u32.wrap (bAnd .u8 x.2.1 127))), x.2.2.1, x.2.2.2))
    else
      numberT_L1 ((bOr .u32 (shlI .u32 x.1 7) (IntKind.u32.wrap (bAnd .u8 x.2.1 127))), false, x.2.2.1, x.2.2.2)
partial_fixpoint
def numberT_L1 (x : Int × Bool × (List Int) × Int) : Option (Except Int (Int × (List Int) × Int)) :=
  (next (x.2.2.1, x.2.2.2)) >>= fun y1 =>
  match y1 with
  | .error y1 =>
    some (.error y1)
  | .ok y1 =>
    if (!x.2.1) = true then
      (must (true, 4)) >>= fun y2 =>
      match y2 with
      | .error y2 =>
        some (.error y2)
      | .ok y2 =>
        numberT_L2 (x.1, y1.1, y1.2.1, y1.2.2)
    else
      (must ((!decide (y1.1 = 128)), 4)) >>= fun y3 =>
      match y3 with
      | .error y3 =>
        some (.error y3)
      | .ok y3 =>
        numberT_L2 (x.1, y1.1, y1.2.1, y1.2.2)
partial_fixpoint
end
theorem numberT_L2_grp : (∀ (x : Int × Int × (List Int) × Int) (r : Except Int (Int × (List Int) × Int)), numberT_L2 x = some r → ∀ (W0 w0 : World) (S : Own), Std W0 w0 S 1 → H Tryd.prog w0 S 32 (cR (cR (cL (cL (cL (cL (cR (cR (cR (cB Tryd.f83)))))))))) (mkS [(0, .pointer (some ⟨0, 0, none⟩)), (3, .int .u32 x.1), (5, .int .u8 x.2.1)] [(0, .cells [ls 1 false (encI .u8) x.2.2.1, .int .i64 x.2.2.2] 121 2)] 1 []) (Kblock 1 (Kseq Tryd.prog w0 S 32 (cR (cL (cL (cR (cR (cR (cB Tryd.f83))))))) (Kloop Tryd.prog w0 S 32 (cL (cL (cR (cR (cR (cB Tryd.f83)))))) (Kblock 0 (KEnd Tryd.prog Tryd.f83 (FEnd w0 S (match r with | .ok r => .returned (.int .u32 r.1) | .error e => panE (.iface 25 (.int .i64 e))) (match r with | .ok r => (mkW 1 [] [(0, .cells [ls 1 false (encI .u8) r.2.1, .int .i64 r.2.2] 121 2)]) | .error _ => (mkW 1 [] []))))))))) ∧
  (∀ (x : Int × Bool × (List Int) × Int) (r : Except Int (Int × (List Int) × Int)), numberT_L1 x = some r → ∀ (W0 w0 : World) (S : Own), Std W0 w0 S 1 → HL Tryd.prog w0 S 32 (cL (cL (cR (cR (cR (cB Tryd.f83)))))) (mkS [(0, .pointer (some ⟨0, 0, none⟩)), (3, .int .u32 x.1), (4, .bool x.2.1)] [(0, .cells [ls 1 false (encI .u8) x.2.2.1, .int .i64 x.2.2.2] 121 2)] 1 []) (Kblock 0 (KEnd Tryd.prog Tryd.f83 (FEnd w0 S (match r with | .ok r => .returned (.int .u32 r.1) | .error e => panE (.iface 25 (.int .i64 e))) (match r with | .ok r => (mkW 1 [] [(0, .cells [ls 1 false (encI .u8) r.2.1, .int .i64 r.2.2] 121 2)]) | .error _ => (mkW 1 [] [])))))) := by
  refine numberT_L2.mutual_partial_correctness (fun (x : Int × Int × (List Int) × Int) (r : Except Int (Int × (List Int) × Int)) => ∀ (W0 w0 : World) (S : Own), Std W0 w0 S 1 → H Tryd.prog w0 S 32 (cR (cR (cL (cL (cL (cL (cR (cR (cR (cB Tryd.f83)))))))))) (mkS [(0, .pointer (some ⟨0, 0, none⟩)), (3, .int .u32 x.1), (5, .int .u8 x.2.1)] [(0, .cells [ls 1 false (encI .u8) x.2.2.1, .int .i64 x.2.2.2] 121 2)] 1 []) (Kblock 1 (Kseq Tryd.prog w0 S 32 (cR (cL (cL (cR (cR (cR (cB Tryd.f83))))))) (Kloop Tryd.prog w0 S 32 (cL (cL (cR (cR (cR (cB Tryd.f83)))))) (Kblock 0 (KEnd Tryd.prog Tryd.f83 (FEnd w0 S (match r with | .ok r => .returned (.int .u32 r.1) | .error e => panE (.iface 25 (.int .i64 e))) (match r with | .ok r => (mkW 1 [] [(0, .cells [ls 1 false (encI .u8) r.2.1, .int .i64 r.2.2] 121 2)]) | .error _ => (mkW 1 [] []))))))))) (fun (x : Int × Bool × (List Int) × Int) (r : Except Int (Int × (List Int) × Int)) => ∀ (W0 w0 : World) (S : Own), Std W0 w0 S 1 → HL Tryd.prog w0 S 32 (cL (cL (cR (cR (cR (cB Tryd.f83)))))) (mkS [(0, .pointer (some ⟨0, 0, none⟩)), (3, .int .u32 x.1), (4, .bool x.2.1)] [(0, .cells [ls 1 false (encI .u8) x.2.2.1, .int .i64 x.2.2.2] 121 2)] 1 []) (Kblock 0 (KEnd Tryd.prog Tryd.f83 (FEnd w0 S (match r with | .ok r => .returned (.int .u32 r.1) | .error e => panE (.iface 25 (.int .i64 e))) (match r with | .ok r => (mkW 1 [] [(0, .cells [ls 1 false (encI .u8) r.2.1, .int .i64 r.2.2] 121 2)]) | .error _ => (mkW 1 [] [])))))) ?_ ?_
  · intro g_numberT_L1 ih_numberT_L1 x r h
    intro W0 w0 S hS
    haveI := hS.noEx Tryd.prog
    refine H.seqP (by kernel_rfl) ?_
    refine H.regP (by kernel_rfl) ?_
    refine HO.goP 7 (by kernel_rfl) ?_
    refine HO.done (by kernel_rfl) ?_
    refine Kseq_norm ?_
    refine H.seqP (by kernel_rfl) ?_
    refine H.regP (by kernel_rfl) ?_
    refine HO.goP 2 (by kernel_rfl) ?_
    obtain ⟨y4, hy, h⟩ := bindS h
    rcases y4 with y4 | y4
    · dsimp only at h
      refine HO.panW hS [.keep, .keep] (must_ok ((decide ((bOr .u32 (shlI .u32 x.1 7) (IntKind.u32.wrap (bAnd .u8 x.2.1 127))) ≤ 2097151)), 3) (.error y4) hy W0) (by kernel_rfl) (by kernel_rfl) ?_
      refine Kseq_pan ?_
      refine Kblock_pan ?_
      refine Kseq_pan ?_
      refine Kloop_pan ?_
      refine Kblock_pan ?_
      obtain rfl := Option.some.inj h
      exact KEnd.ofPan (by kernel_rfl) (FEnd.pan hS [0] [] [] (by kernel_rfl))
    · dsimp only at h
      refine HO.callW hS [.keep, .keep] (must_ok ((decide ((bOr .u32 (shlI .u32 x.1 7) (IntKind.u32.wrap (bAnd .u8 x.2.1 127))) ≤ 2097151)), 3) (.ok y4) hy W0) (by kernel_rfl) (by kernel_rfl) ?_
      refine HO.done (by kernel_rfl) ?_
      refine Kseq_norm ?_
      refine H.seqP (by kernel_rfl) ?_
      refine H.regP (by kernel_rfl) ?_
      refine HO.goP 2 (by kernel_rfl) ?_
      refine HO.done (by kernel_rfl) ?_
      refine Kseq_norm ?_
      refine H.condS (b := decide (x.2.1 < 128)) (by kernel_rfl) (by kernel_rfl) (fun hb => ?_) (fun hb => ?_)
      · rw [if_pos (of_decide_eq_true hb)] at h
        refine H.seqP (by kernel_rfl) ?_
        refine H.regP (by kernel_rfl) ?_
        refine HO.goP 2 (by kernel_rfl) ?_
        obtain ⟨y5, hy, h⟩ := bindS h
        rcases y5 with y5 | y5
        · dsimp only at h
          refine HO.panW hS [.keep, .keep] (must_ok ((decide (31 ≤ (bOr .u32 (shlI .u32 x.1 7) (IntKind.u32.wrap (bAnd .u8 x.2.1 127))))), 4) (.error y5) hy W0) (by kernel_rfl) (by kernel_rfl) ?_
          refine Kseq_pan ?_
          refine Kblock_pan ?_
          refine Kseq_pan ?_
          refine Kloop_pan ?_
          refine Kblock_pan ?_
          obtain rfl := Option.some.inj h
          exact KEnd.ofPan (by kernel_rfl) (FEnd.pan hS [0] [] [] (by kernel_rfl))
        · dsimp only at h
          refine HO.callW hS [.keep, .keep] (must_ok ((decide (31 ≤ (bOr .u32 (shlI .u32 x.1 7) (IntKind.u32.wrap (bAnd .u8 x.2.1 127))))), 4) (.ok y5) hy W0) (by kernel_rfl) (by kernel_rfl) ?_
          refine HO.done (by kernel_rfl) ?_
          refine Kseq_norm ?_
          refine H.seqP (by kernel_rfl) ?_
          refine H.regP (by kernel_rfl) ?_
          refine HO.goP 2 (by kernel_rfl) ?_
          refine HO.done (by kernel_rfl) ?_
          refine Kseq_norm ?_
          refine H.retP (by kernel_rfl) ?_
          refine Kblock_ret ?_
          refine Kseq_ret ?_
          refine Kloop_ret ?_
          refine Kblock_ret ?_
          obtain rfl := Option.some.inj h
          exact KEnd.of (v := .int .u32 (bOr .u32 (shlI .u32 x.1 7) (IntKind.u32.wrap (bAnd .u8 x.2.1 127)))) (by kernel_rfl) (by kernel_rfl) (FEnd.ren hS [0] _ _ (by kernel_rfl))
      · rw [if_neg (of_decide_eq_false hb)] at h
        refine H.skipP (by kernel_rfl) ?_
        refine Kblock_norm ?_
        refine Kseq_norm ?_
        refine H.regP (by kernel_rfl) ?_
        refine HO.goP 1 (by kernel_rfl) ?_
        refine HO.done (by kernel_rfl) ?_
        refine Kloop_norm ?_
        exact HL.ren hS [0] _ _ _ (by kernel_rfl) (ih_numberT_L1 ((bOr .u32 (shlI .u32 x.1 7) (IntKind.u32.wrap (bAnd .u8 x.2.1 127))), false, x.2.2.1, x.2.2.2) r h W0 w0 S hS)
  · intro g_numberT_L2 ih_numberT_L2 x r h
    intro W0 w0 S hS
    haveI := hS.noEx Tryd.prog
    refine HL.round ?_
    refine H.seqP (by kernel_rfl) ?_
    refine H.blockI 1 (by kernel_rfl) ?_
    refine H.seqP (by kernel_rfl) ?_
    refine H.regP (by kernel_rfl) ?_
    refine HO.goP 3 (by kernel_rfl) ?_
    obtain ⟨y1, hy, h⟩ := bindS h
    rcases y1 with y1 | y1
    · dsimp only at h
      refine HO.panFW hS 1 [] [] [0] [.keep] (next_ok (x.2.2.1, x.2.2.2) (.error y1) hy W0) (by kernel_rfl) (by kernel_rfl) ?_
      refine Kseq_pan ?_
      refine Kblock_pan ?_
      refine Kseq_pan ?_
      refine Kloop_pan ?_
      refine Kblock_pan ?_
      obtain rfl := Option.some.inj h
      exact KEnd.ofPan (by kernel_rfl) (FEnd.pan hS [0] [] [] (by kernel_rfl))
    · dsimp only at h
      refine HO.callFW hS (.int .u8 y1.1) 1 [] [(0, .cells [ls 1 false (encI .u8) y1.2.1, .int .i64 y1.2.2] 121 2)] [0] [.keep] (next_ok (x.2.2.1, x.2.2.2) (.ok y1) hy W0) (by kernel_rfl) (by kernel_rfl) ?_
      refine HO.goP 1 (by kernel_rfl) ?_
      refine HO.done (by kernel_rfl) ?_
      refine Kseq_norm ?_
      refine H.seqP (by kernel_rfl) ?_
      refine H.regP (by kernel_rfl) ?_
      refine HO.goP 2 (by kernel_rfl) ?_
      refine HO.boolP (!x.2.1) (by kernel_rfl) (by kernel_rfl) (fun hb => ?_) (fun hb => ?_)
      · rw [if_pos hb] at h
        refine HO.goP 3 (by kernel_rfl) ?_
        obtain ⟨y2, hy, h⟩ := bindS h
        rcases y2 with y2 | y2
        · dsimp only at h
          refine HO.panW hS [.keep, .keep] (must_ok (true, 4) (.error y2) hy W0) (by kernel_rfl) (by kernel_rfl) ?_
          refine Kseq_pan ?_
          refine Kblock_pan ?_
          refine Kseq_pan ?_
          refine Kloop_pan ?_
          refine Kblock_pan ?_
          obtain rfl := Option.some.inj h
          exact KEnd.ofPan (by kernel_rfl) (FEnd.pan hS [0] [] [] (by kernel_rfl))
        · dsimp only at h
          refine HO.callW hS [.keep, .keep] (must_ok (true, 4) (.ok y2) hy W0) (by kernel_rfl) (by kernel_rfl) ?_
          refine HO.done (by kernel_rfl) ?_
          refine Kseq_norm ?_
          exact H.ren hS [0] _ _ _ (by kernel_rfl) (ih_numberT_L2 (x.1, y1.1, y1.2.1, y1.2.2) r h W0 w0 S hS)
      · rw [if_neg (ne_true hb)] at h
        refine HO.goP 3 (by kernel_rfl) ?_
        obtain ⟨y3, hy, h⟩ := bindS h
        rcases y3 with y3 | y3
        · dsimp only at h
          refine HO.panW hS [.keep, .keep] (must_ok ((!decide (y1.1 = 128)), 4) (.error y3) hy W0) (by kernel_rfl) (by kernel_rfl) ?_
          refine Kseq_pan ?_
          refine Kblock_pan ?_
          refine Kseq_pan ?_
          refine Kloop_pan ?_
          refine Kblock_pan ?_
          obtain rfl := Option.some.inj h
          exact KEnd.ofPan (by kernel_rfl) (FEnd.pan hS [0] [] [] (by kernel_rfl))
        · dsimp only at h
          refine HO.callW hS [.keep, .keep] (must_ok ((!decide (y1.1 = 128)), 4) (.ok y3) hy W0) (by kernel_rfl) (by kernel_rfl) ?_
          refine HO.done (by kernel_rfl) ?_
          refine Kseq_norm ?_
          exact H.ren hS [0] _ _ _ (by kernel_rfl) (ih_numberT_L2 (x.1, y1.1, y1.2.1, y1.2.2) r h W0 w0 S hS)
theorem numberT_L2_ok : ∀ (x : Int × Int × (List Int) × Int) (r : Except Int (Int × (List Int) × Int)), numberT_L2 x = some r → ∀ (W0 w0 : World) (S : Own), Std W0 w0 S 1 → H Tryd.prog w0 S 32 (cR (cR (cL (cL (cL (cL (cR (cR (cR (cB Tryd.f83)))))))))) (mkS [(0, .pointer (some ⟨0, 0, none⟩)), (3, .int .u32 x.1), (5, .int .u8 x.2.1)] [(0, .cells [ls 1 false (encI .u8) x.2.2.1, .int .i64 x.2.2.2] 121 2)] 1 []) (Kblock 1 (Kseq Tryd.prog w0 S 32 (cR (cL (cL (cR (cR (cR (cB Tryd.f83))))))) (Kloop Tryd.prog w0 S 32 (cL (cL (cR (cR (cR (cB Tryd.f83)))))) (Kblock 0 (KEnd Tryd.prog Tryd.f83 (FEnd w0 S (match r with | .ok r => .returned (.int .u32 r.1) | .error e => panE (.iface 25 (.int .i64 e))) (match r with | .ok r => (mkW 1 [] [(0, .cells [ls 1 false (encI .u8) r.2.1, .int .i64 r.2.2] 121 2)]) | .error _ => (mkW 1 [] [])))))))) := numberT_L2_grp.1
theorem numberT_L1_ok : ∀ (x : Int × Bool × (List Int) × Int) (r : Except Int (Int × (List Int) × Int)), numberT_L1 x = some r → ∀ (W0 w0 : World) (S : Own), Std W0 w0 S 1 → HL Tryd.prog w0 S 32 (cL (cL (cR (cR (cR (cB Tryd.f83)))))) (mkS [(0, .pointer (some ⟨0, 0, none⟩)), (3, .int .u32 x.1), (4, .bool x.2.1)] [(0, .cells [ls 1 false (encI .u8) x.2.2.1, .int .i64 x.2.2.2] 121 2)] 1 []) (Kblock 0 (KEnd Tryd.prog Tryd.f83 (FEnd w0 S (match r with | .ok r => .returned (.int .u32 r.1) | .error e => panE (.iface 25 (.int .i64 e))) (match r with | .ok r => (mkW 1 [] [(0, .cells [ls 1 false (encI .u8) r.2.1, .int .i64 r.2.2] 121 2)]) | .error _ => (mkW 1 [] []))))) := numberT_L2_grp.2
def numberT (x : (List Int) × Int) : Option (Except Int (Int × (List Int) × Int)) :=
  numberT_L1 (0, true, x.1, x.2)
theorem numberT_ok : ∀ (x : (List Int) × Int) (r : Except Int (Int × (List Int) × Int)), numberT x = some r → ∀ W0 : World, FTo Tryd.prog W0 83 #[.pointer (some ⟨0, 0, none⟩)] (mkW 1 [] [(0, .cells [ls 1 false (encI .u8) x.1, .int .i64 x.2] 121 2)]) (match r with | .ok r => .returned (.int .u32 r.1) | .error e => panE (.iface 25 (.int .i64 e))) (match r with | .ok r => (mkW 1 [] [(0, .cells [ls 1 false (encI .u8) r.2.1, .int .i64 r.2.2] 121 2)]) | .error _ => (mkW 1 [] [])) := by
  intro x r h
  unfold numberT at h
  intro W0
  refine FTo.of_body (fn := Tryd.f83) (code := cB Tryd.f83) Tryd.func83 rfl rfl ?_
  intro w0 S hS
  haveI := hS.noEx Tryd.prog
  refine H.seqP (by kernel_rfl) ?_
  refine H.regP (by kernel_rfl) ?_
  refine HO.goP 1 (by kernel_rfl) ?_
  refine HO.done (by kernel_rfl) ?_
  refine Kseq_norm ?_
  refine H.seqP (by kernel_rfl) ?_
  refine H.regP (by kernel_rfl) ?_
  refine HO.goP 1 (by kernel_rfl) ?_
  refine HO.done (by kernel_rfl) ?_
  refine Kseq_norm ?_
  refine H.seqP (by kernel_rfl) ?_
  refine H.regP (by kernel_rfl) ?_
  refine HO.goP 1 (by kernel_rfl) ?_
  refine HO.done (by kernel_rfl) ?_
  refine Kseq_norm ?_
  refine H.blockI 0 (by kernel_rfl) ?_
  refine H.loopP (by kernel_rfl) ?_
  exact HL.ren hS [0] _ _ _ (by kernel_rfl) (numberT_L1_ok (0, true, x.1, x.2) r h W0 w0 S hS)
def lengthT_L1 (x : Int × (List Int) × Int × Int × (List Int) × Int) : Option (Except Int (Int × Bool × (List Int) × Int)) :=
  if x.2.2.2.1 < x.2.2.1 then
    (at' x.2.1 x.2.2.2.1) >>= fun y5 =>
    lengthT_L1 ((minI (bOr .i64 (shlI .i64 x.1 8) (IntKind.i64.wrap y5)) 65537), x.2.1, x.2.2.1, (IntKind.i64.wrap (x.2.2.2.1 + 1)), x.2.2.2.2.1, x.2.2.2.2.2)
  else
    some (.ok (x.1, true, x.2.2.2.2.1, x.2.2.2.2.2))
partial_fixpoint
theorem lengthT_L1_ok : ∀ (x : Int × (List Int) × Int × Int × (List Int) × Int) (r : Except Int (Int × Bool × (List Int) × Int)), lengthT_L1 x = some r → ∀ (W0 w0 : World) (S : Own), Std W0 w0 S 1 → HL Tryd.prog w0 S 48 (cL (cL (cR (cL (cR (cR (cR (cR (cR (cB Tryd.f84)))))))))) (mkS [(7, .int .i64 x.1), (34, ls 1 false (encI .u8) x.2.1), (35, .int .i64 x.2.2.1), (36, .int .i64 x.2.2.2.1)] [(0, .cells [ls 1 false (encI .u8) x.2.2.2.2.1, .int .i64 x.2.2.2.2.2] 121 2)] 1 []) (Kblock 1 (Kseq Tryd.prog w0 S 48 (cR (cR (cR (cR (cR (cR (cB Tryd.f84))))))) (KEnd Tryd.prog Tryd.f84 (FEnd w0 S (match r with | .ok r => .returned (.tuple #[.int .i64 r.1, .bool r.2.1]) | .error e => panE (.iface 25 (.int .i64 e))) (match r with | .ok r => (mkW 1 [] [(0, .cells [ls 1 false (encI .u8) r.2.2.1, .int .i64 r.2.2.2] 121 2)]) | .error _ => (mkW 1 [] [])))))) := by
  refine lengthT_L1.partial_correctness (fun (x : Int × (List Int) × Int × Int × (List Int) × Int) (r : Except Int (Int × Bool × (List Int) × Int)) => ∀ (W0 w0 : World) (S : Own), Std W0 w0 S 1 → HL Tryd.prog w0 S 48 (cL (cL (cR (cL (cR (cR (cR (cR (cR (cB Tryd.f84)))))))))) (mkS [(7, .int .i64 x.1), (34, ls 1 false (encI .u8) x.2.1), (35, .int .i64 x.2.2.1), (36, .int .i64 x.2.2.2.1)] [(0, .cells [ls 1 false (encI .u8) x.2.2.2.2.1, .int .i64 x.2.2.2.2.2] 121 2)] 1 []) (Kblock 1 (Kseq Tryd.prog w0 S 48 (cR (cR (cR (cR (cR (cR (cB Tryd.f84))))))) (KEnd Tryd.prog Tryd.f84 (FEnd w0 S (match r with | .ok r => .returned (.tuple #[.int .i64 r.1, .bool r.2.1]) | .error e => panE (.iface 25 (.int .i64 e))) (match r with | .ok r => (mkW 1 [] [(0, .cells [ls 1 false (encI .u8) r.2.2.1, .int .i64 r.2.2.2] 121 2)]) | .error _ => (mkW 1 [] []))))))) ?_
  intro self ih_lengthT_L1 x r h
  intro W0 w0 S hS
  haveI := hS.noEx Tryd.prog
  refine HL.round ?_
  refine H.seqP (by kernel_rfl) ?_
  refine H.regP (by kernel_rfl) ?_
  refine HO.goP 1 (by kernel_rfl) ?_
  refine HO.done (by kernel_rfl) ?_
  refine Kseq_norm ?_
  refine H.seqP (by kernel_rfl) ?_
  refine H.condS (b := decide (x.2.2.2.1 < x.2.2.1)) (by kernel_rfl) (by kernel_rfl) (fun hb => ?_) (fun hb => ?_)
  · rw [if_pos (of_decide_eq_true hb)] at h
    refine H.skipP (by kernel_rfl) ?_
    refine Kseq_norm ?_
    refine H.seqP (by kernel_rfl) ?_
    refine H.blockI 2 (by kernel_rfl) ?_
    refine H.seqP (by kernel_rfl) ?_
    refine H.regP (by kernel_rfl) ?_
    obtain ⟨y5, hy, h⟩ := bindS h
    refine HO.idx (.int .u8 y5) hy rfl (by kernel_rfl) ?_
    refine HO.goP 2 (by kernel_rfl) ?_
    refine HO.done (by kernel_rfl) ?_
    refine Kseq_norm ?_
    refine H.regP (by kernel_rfl) ?_
    refine HO.goP 7 (by kernel_rfl) ?_
    refine HO.done (by kernel_rfl) ?_
    refine Kblock_norm ?_
    refine Kseq_norm ?_
    refine H.regP (by kernel_rfl) ?_
    refine HO.goP 2 (by kernel_rfl) ?_
    refine HO.done (by kernel_rfl) ?_
    refine Kloop_norm ?_
    exact HL.ren hS [0] _ _ _ (by kernel_rfl) (ih_lengthT_L1 ((minI (bOr .i64 (shlI .i64 x.1 8) (IntKind.i64.wrap y5)) 65537), x.2.1, x.2.2.1, (IntKind.i64.wrap (x.2.2.2.1 + 1)), x.2.2.2.2.1, x.2.2.2.2.2) r h W0 w0 S hS)
  · rw [if_neg (of_decide_eq_false hb)] at h
    refine H.exitI 1 (by kernel_rfl) ?_
    refine Kseq_exit ?_
    refine Kloop_exit ?_
    refine Kblock_hit ?_
    refine Kseq_norm ?_
    refine H.seqP (by kernel_rfl) ?_
    refine H.regP (by kernel_rfl) ?_
    refine HO.goP 3 (by kernel_rfl) ?_
    refine HO.done (by kernel_rfl) ?_
    refine Kseq_norm ?_
    refine H.retP (by kernel_rfl) ?_
    obtain rfl := Option.some.inj h
    exact KEnd.of (v := .tuple #[.int .i64 x.1, .bool true]) (by kernel_rfl) (by kernel_rfl) (FEnd.ren hS [0] _ _ (by kernel_rfl))
end Vf
