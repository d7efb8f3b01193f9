import Derived.Test.YtcokmnpgeokfpaaGreatDoorProg
import Derived.Test.YtcokmnpgeokfpaaGreatDoorVxD
set_option linter.unusedVariables false
set_option linter.unusedSimpArgs false
set_option maxHeartbeats 4000000
namespace Vf
open Go Go.Vx Go.Proofs
structure S27 where
 mk ::
 c0 : Int
 c1 : Int
 c2 : Int
 c3 : Int
 c4 : Int
 c5 : (List Int)
 deriving Inhabited
def enc27 (x : S27) : Value := .agg #[.int .u8 x.c0, .int .u8 x.c1, .int .u8 x.c2, .int .u8 x.c3, .int .u8 x.c4, ls 1 false (encI .u8) x.c5]
theorem enc27_eq (x : S27) : enc27 x = .agg #[.int .u8 x.c0, .int .u8 x.c1, .int .u8 x.c2, .int .u8 x.c3, .int .u8 x.c4, ls 1 false (encI .u8) x.c5] := rfl
theorem enc27_ok : EncOk 6 true enc27 := by
 refine ⟨fun x => by rw [enc27_eq]; rfl, fun x c h => ?_, fun x => ⟨_, enc27_eq x⟩⟩
 rw [enc27_eq] at h
 simp only [Value.cells, List.mem_cons, List.not_mem_nil, or_false] at h
 rcases h with rfl | rfl | rfl | rfl | rfl | rfl <;> exact ⟨rfl, rfl⟩
structure S30 where
 mk ::
 c0 : Int
 c1 : Int
 c2 : Bool
 c3 : (List Int)
 c4 : Int
 deriving Inhabited
def enc30 (x : S30) : Value := .agg #[.int .u8 x.c0, .int .u32 x.c1, .bool x.c2, ls 1 false (encI .u8) x.c3, .int .u8 x.c4]
theorem enc30_eq (x : S30) : enc30 x = .agg #[.int .u8 x.c0, .int .u32 x.c1, .bool x.c2, ls 1 false (encI .u8) x.c3, .int .u8 x.c4] := rfl
theorem enc30_ok : EncOk 5 true enc30 := by
 refine ⟨fun x => by rw [enc30_eq]; rfl, fun x c h => ?_, fun x => ⟨_, enc30_eq x⟩⟩
 rw [enc30_eq] at h
 simp only [Value.cells, List.mem_cons, List.not_mem_nil, or_false] at h
 rcases h with rfl | rfl | rfl | rfl | rfl <;> exact ⟨rfl, rfl⟩
structure S38 where
 mk ::
 c0 : Int
 c1 : Int
 c2 : Int
 c3 : Int
 c4 : Int
 c5 : (List Int)
 deriving Inhabited
def enc38 (x : S38) : Value := .agg #[.int .u8 x.c0, .int .i64 x.c1, .int .i64 x.c2, .int .i64 x.c3, .int .u8 x.c4, ls 1 false (encI .u8) x.c5]
theorem enc38_eq (x : S38) : enc38 x = .agg #[.int .u8 x.c0, .int .i64 x.c1, .int .i64 x.c2, .int .i64 x.c3, .int .u8 x.c4, ls 1 false (encI .u8) x.c5] := rfl
theorem enc38_ok : EncOk 6 true enc38 := by
 refine ⟨fun x => by rw [enc38_eq]; rfl, fun x c h => ?_, fun x => ⟨_, enc38_eq x⟩⟩
 rw [enc38_eq] at h
 simp only [Value.cells, List.mem_cons, List.not_mem_nil, or_false] at h
 rcases h with rfl | rfl | rfl | rfl | rfl | rfl <;> exact ⟨rfl, rfl⟩
structure S41 where
 mk ::
 c0 : Int
 c1 : Int
 c2 : Bool
 c3 : (List Int)
 c4 : (List S41)
 deriving Inhabited
mutual
def enc41 : S41 → Value
 | .mk c0 c1 c2 c3 c4 => .agg #[.int .u8 c0, .int .u32 c1, .bool c2, ls 1 false (encI .u8) c3, lst 5 false (enc41L c4).toArray]
def enc41L : List S41 → List Value
 | [] => []
 | a :: l => enc41 a :: enc41L l
end
theorem enc41L_eq : ∀ l : List S41, enc41L l = l.map enc41
 | [] => by rw [enc41L]; rfl
 | a :: l => by rw [enc41L, enc41L_eq l]; rfl
theorem enc41_eq (x : S41) : enc41 x = .agg #[.int .u8 x.c0, .int .u32 x.c1, .bool x.c2, ls 1 false (encI .u8) x.c3, ls 5 false enc41 x.c4] := by
 cases x
 rw [enc41]
 simp only [enc41L_eq]
 rfl
theorem enc41_ok : EncOk 5 true enc41 := by
 refine ⟨fun x => by rw [enc41_eq]; rfl, fun x c h => ?_, fun x => ⟨_, enc41_eq x⟩⟩
 rw [enc41_eq] at h
 simp only [Value.cells, List.mem_cons, List.not_mem_nil, or_false] at h
 rcases h with rfl | rfl | rfl | rfl | rfl <;> exact ⟨rfl, rfl⟩
def cloneB (x : List Int) : Option (List Int) := app' 1 [] x
theorem cloneB_L1 (x : List Int) : ∀ (W0 w0 : World) (S : Own), Std W0 w0 S 0 → H Tryz.prog w0 S 8 (cR (cR (cR (cB Tryz.f126)))) (mkS [(2, tl 1 0 (encI .u8) x)] [] 1 [0]) (KEnd Tryz.prog Tryz.f126 (PEnd w0 S (.returned (ls 1 false (encI .u8) x)))) := by
 intro W0 w0 S hS
 haveI := hS.noEx Tryz.prog
 refine H.ret' ?_
 exact KEnd.retW (v := tl 1 0 (encI .u8) x) (.list 1 false) (by kernel_rfl) (by kernel_rfl) (by kernel_rfl) (by kernel_rfl)
theorem cloneB_ok : ∀ (x : List Int) (r : List Int), cloneB x = some r → ∀ W0 : World, PTo Tryz.prog W0 126 #[ls 1 false (encI .u8) x] (.returned (ls 1 false (encI .u8) r)) := by
 intro x r h
 unfold cloneB at h
 intro W0
 refine PTo.of_body (fn := Tryz.f126) (code := cB Tryz.f126) Tryz.func126 rfl rfl ?_
 intro w0 S hS
 haveI := hS.noEx Tryz.prog
 refine H.seq' ?_
 refine H.reg' ?_
 refine HO.go' 1 ?_
 refine HO.end' ?_
 refine Kseq_norm ?_
 refine H.seq' ?_
 refine H.seq' ?_
 refine H.reg' ?_
 refine HO.go' 1 ?_
 refine HO.nilB (eq := true) (es := (x.map (encI .u8)).toArray) (by kernel_rfl) (fun b hb0 => ?_)
 cases b with
 | true =>
  have hx : x = [] := List.eq_nil_of_length_eq_zero (by simpa using hb0 rfl)
  subst hx
  have hr : r = [] := by
   have := (app'_spec h).2
   simpa using this
  subst hr
  refine HO.end' ?_
  refine Kseq_norm ?_
  refine H.cT' ?_
  refine H.seq' ?_
  refine H.reg' ?_
  refine HO.go' 1 ?_
  refine HO.end' ?_
  refine Kseq_norm ?_
  refine H.ret' ?_
  refine Kseq_ret ?_
  exact KEnd.retW (v := .slice none 0 0) (.list 1 false) (by kernel_rfl) (by kernel_rfl) (by kernel_rfl) (by kernel_rfl)
 | false =>
  refine HO.end' ?_
  refine Kseq_norm ?_
  refine H.cF' ?_
  refine H.skp' ?_
  refine Kseq_norm ?_
  refine H.seq' ?_
  refine H.reg' ?_
  refine HO.go' 2 ?_
  refine HO.tkz [5] 0 0 0 1 5 ([].map (encI .u8)).toArray [] (by kernel_rfl) ?_
  have hr := (app'_spec h).2
  by_cases hb : x.length = 0
  ·have hr0 : r = [] := by rw [hr]; simpa using List.eq_nil_of_length_eq_zero hb
   subst hr0
   refine HO.valA (appN_aop (ag := false) [] (encI_ok .u8) h hb (by kernel_rfl)) ?_
   refine HO.go' 1 ?_
   refine HO.end' ?_
   refine Kseq_norm ?_
   exact H.ren' hS [1] (cloneB_L1 [] W0 w0 S hS)
  ·refine HO.effA (appL_aop (ag := false) [] (encI_ok .u8) h hb (by kernel_rfl)) ?_
   refine HO.go' 1 ?_
   refine HO.end' ?_
   refine Kseq_norm ?_
   exact H.ren' hS [2] (cloneB_L1 r W0 w0 S hS)

def cloneS (x : List Int) : Option (List Int) := app' 1 [] x
theorem cloneS_L1 (x : List Int) : ∀ (W0 w0 : World) (S : Own), Std W0 w0 S 0 → H Tryz.prog w0 S 8 (cR (cR (cR (cB Tryz.f90)))) (mkS [(2, tl 1 0 (encI .u8) x)] [] 1 [0]) (KEnd Tryz.prog Tryz.f90 (PEnd w0 S (.returned (ls 1 false (encI .u8) x)))) := by
 intro W0 w0 S hS
 haveI := hS.noEx Tryz.prog
 refine H.ret' ?_
 exact KEnd.retW (v := tl 1 0 (encI .u8) x) (.list 1 false) (by kernel_rfl) (by kernel_rfl) (by kernel_rfl) (by kernel_rfl)
theorem cloneS_ok : ∀ (x : List Int) (r : List Int), cloneS x = some r → ∀ W0 : World, PTo Tryz.prog W0 90 #[ls 1 false (encI .u8) x] (.returned (ls 1 false (encI .u8) r)) := by
 intro x r h
 unfold cloneS at h
 intro W0
 refine PTo.of_body (fn := Tryz.f90) (code := cB Tryz.f90) Tryz.func90 rfl rfl ?_
 intro w0 S hS
 haveI := hS.noEx Tryz.prog
 refine H.seq' ?_
 refine H.reg' ?_
 refine HO.go' 1 ?_
 refine HO.end' ?_
 refine Kseq_norm ?_
 refine H.seq' ?_
 refine H.seq' ?_
 refine H.reg' ?_
 refine HO.go' 1 ?_
 refine HO.nilB (eq := true) (es := (x.map (encI .u8)).toArray) (by kernel_rfl) (fun b hb0 => ?_)
 cases b with
 | true =>
  have hx : x = [] := List.eq_nil_of_length_eq_zero (by simpa using hb0 rfl)
  subst hx
  have hr : r = [] := by
   have := (app'_spec h).2
   simpa using this
  subst hr
  refine HO.end' ?_
  refine Kseq_norm ?_
  refine H.cT' ?_
  refine H.seq' ?_
  refine H.reg' ?_
  refine HO.go' 1 ?_
  refine HO.end' ?_
  refine Kseq_norm ?_
  refine H.ret' ?_
  refine Kseq_ret ?_
  exact KEnd.retW (v := .slice none 0 0) (.list 1 false) (by kernel_rfl) (by kernel_rfl) (by kernel_rfl) (by kernel_rfl)
 | false =>
  refine HO.end' ?_
  refine Kseq_norm ?_
  refine H.cF' ?_
  refine H.skp' ?_
  refine Kseq_norm ?_
  refine H.seq' ?_
  refine H.reg' ?_
  refine HO.go' 2 ?_
  refine HO.tkz [5] 0 0 0 1 5 ([].map (encI .u8)).toArray [] (by kernel_rfl) ?_
  have hr := (app'_spec h).2
  by_cases hb : x.length = 0
  ·have hr0 : r = [] := by rw [hr]; simpa using List.eq_nil_of_length_eq_zero hb
   subst hr0
   refine HO.valA (appN_aop (ag := false) [] (encI_ok .u8) h hb (by kernel_rfl)) ?_
   refine HO.go' 1 ?_
   refine HO.end' ?_
   refine Kseq_norm ?_
   exact H.ren' hS [1] (cloneS_L1 [] W0 w0 S hS)
  ·refine HO.effA (appL_aop (ag := false) [] (encI_ok .u8) h hb (by kernel_rfl)) ?_
   refine HO.go' 1 ?_
   refine HO.end' ?_
   refine Kseq_norm ?_
   exact H.ren' hS [2] (cloneS_L1 r W0 w0 S hS)

def big31_L3 (x : Bool) : Option (Bool) :=
 some x
theorem big31_L3_ok : ∀ (x : Bool) (r : Bool), big31_L3 x = some r → ∀ (W0 w0 : World) (S : Own), Std W0 w0 S 0 → H Tryz.prog w0 S 30 (cR (cR (cR (cR (cB Tryz.f14))))) (mkS [(2, .bool x)] [] 0 []) (KEnd Tryz.prog Tryz.f14 (PEnd w0 S (.returned (.bool r)))) := by
 intro x r h
 unfold big31_L3 at h
 intro W0 w0 S hS
 haveI := hS.noEx Tryz.prog
 refine H.ret' ?_
 obtain rfl := Option.some.inj h
 exact KEnd.r'
mutual
def big31_L2 (x : (List S30) × Int × Int × Bool) : Option (Bool) :=
 if x.2.2.2 = true then
  (at' x.1 x.2.2.1) >>= fun y1 =>
  big31_L1 (x.1, (IntKind.i64.wrap (x.2.1 + (y1.c3.length : Int))), (IntKind.i64.wrap (x.2.2.1 + 1)))
 else
  if 40 < (x.1.length : Int) then
   big31_L3 true
  else
   big31_L3 (decide (2000 < x.2.1))
partial_fixpoint
def big31_L1 (x : (List S30) × Int × Int) : Option (Bool) :=
 if x.2.2 < (x.1.length : Int) then
  big31_L2 (x.1, x.2.1, x.2.2, (decide (x.2.2 < 50)))
 else
  big31_L2 (x.1, x.2.1, x.2.2, false)
partial_fixpoint
end
abbrev T_big31_L2 (x : (List S30) × Int × Int × Bool) (r : Bool) : Prop := ∀ (W0 w0 : World) (S : Own), Std W0 w0 S 0 → H Tryz.prog w0 S 30 (cR (cL (cL (cL (cR (cL (cR (cR (cB Tryz.f14))))))))) (mkS [(0, ls 5 false enc30 x.1), (3, .int .i64 x.2.1), (4, .int .i64 x.2.2.1), (12, .bool x.2.2.2)] [] 0 []) (Kseq Tryz.prog w0 S 30 (cR (cL (cL (cR (cL (cR (cR (cB Tryz.f14)))))))) (Kloop Tryz.prog w0 S 30 (cL (cL (cR (cL (cR (cR (cB Tryz.f14))))))) (Kblock 0 (Kseq Tryz.prog w0 S 30 (cR (cR (cR (cB Tryz.f14)))) (KEnd Tryz.prog Tryz.f14 (PEnd w0 S (.returned (.bool r))))))))
abbrev T_big31_L1 (x : (List S30) × Int × Int) (r : Bool) : Prop := ∀ (W0 w0 : World) (S : Own), Std W0 w0 S 0 → HL Tryz.prog w0 S 30 (cL (cL (cR (cL (cR (cR (cB Tryz.f14))))))) (mkS [(0, ls 5 false enc30 x.1), (3, .int .i64 x.2.1), (4, .int .i64 x.2.2)] [] 0 []) (Kblock 0 (Kseq Tryz.prog w0 S 30 (cR (cR (cR (cB Tryz.f14)))) (KEnd Tryz.prog Tryz.f14 (PEnd w0 S (.returned (.bool r))))))
theorem big31_L2_grp : (∀ x r, big31_L2 x = some r → T_big31_L2 x r) ∧
 (∀ x r, big31_L1 x = some r → T_big31_L1 x r) := by
 refine big31_L2.mutual_partial_correctness T_big31_L2 T_big31_L1 ?_ ?_
 ·intro g_big31_L1 ih_big31_L1 x r h
  intro W0 w0 S hS
  haveI := hS.noEx Tryz.prog
  refine H.cS' (x.2.2.2) (fun hb => ?_) (fun hb => ?_)
  ·rw [if_pos hb] at h
   refine H.skp' ?_
   refine Kseq_norm ?_
   refine H.seq' ?_
   refine H.blk' 1 ?_
   refine H.reg' ?_
   refine HO.go' 3 ?_
   obtain ⟨y1, hy, h⟩ := bindS h
   refine HO.idx (.agg #[.int .u8 y1.c0, .int .u32 y1.c1, .bool y1.c2, ls 1 false (encI .u8) y1.c3, .int .u8 y1.c4]) hy (enc30_eq y1) (by kernel_rfl) ?_
   refine HO.go' 2 ?_
   refine HO.len (by kernel_rfl) (by kernel_rfl) (ls_size (encI .u8) y1.c3) ?_
   refine HO.go' 2 ?_
   refine HO.end' ?_
   refine Kblock_norm ?_
   refine Kseq_norm ?_
   refine H.reg' ?_
   refine HO.go' 3 ?_
   refine HO.end' ?_
   refine Kloop_norm ?_
   exact HL.ren' hS [] (ih_big31_L1 (x.1, (IntKind.i64.wrap (x.2.1 + (y1.c3.length : Int))), (IntKind.i64.wrap (x.2.2.1 + 1))) r h W0 w0 S hS)
  rw [if_neg (ne_true hb)] at h
  refine H.ext' 0 ?_
  refine Kseq_exit ?_
  refine Kloop_exit ?_
  refine Kblock_hit ?_
  refine Kseq_norm ?_
  refine H.sg' ?_
  refine HO.go' 1 ?_
  refine HO.len (by kernel_rfl) (by kernel_rfl) (ls_size enc30 x.1) ?_
  refine HO.go' 1 ?_
  refine HO.bo' (decide (40 < (x.1.length : Int))) (fun hb => ?_) (fun hb => ?_)
  ·rw [if_pos (of_decide_eq_true hb)] at h
   refine HO.fin' 4 ?_
   exact H.ren' hS [] (big31_L3_ok true r h W0 w0 S hS)
  rw [if_neg (of_decide_eq_false hb)] at h
  refine HO.fin' 4 ?_
  exact H.ren' hS [] (big31_L3_ok (decide (2000 < x.2.1)) r h W0 w0 S hS)
 ·intro g_big31_L2 ih_big31_L2 x r h
  intro W0 w0 S hS
  haveI := hS.noEx Tryz.prog
  refine HL.round ?_
  refine H.seq' ?_
  refine H.sg' ?_
  refine HO.go' 2 ?_
  refine HO.len (by kernel_rfl) (by kernel_rfl) (ls_size enc30 x.1) ?_
  refine HO.go' 1 ?_
  refine HO.bo' (decide (x.2.2 < (x.1.length : Int))) (fun hb => ?_) (fun hb => ?_)
  ·rw [if_pos (of_decide_eq_true hb)] at h
   refine HO.fin' 3 ?_
   exact H.ren' hS [] (ih_big31_L2 (x.1, x.2.1, x.2.2, (decide (x.2.2 < 50))) r h W0 w0 S hS)
  rw [if_neg (of_decide_eq_false hb)] at h
  refine HO.fin' 3 ?_
  exact H.ren' hS [] (ih_big31_L2 (x.1, x.2.1, x.2.2, false) r h W0 w0 S hS)
theorem big31_L2_ok : ∀ x r, big31_L2 x = some r → T_big31_L2 x r := big31_L2_grp.1
theorem big31_L1_ok : ∀ x r, big31_L1 x = some r → T_big31_L1 x r := big31_L2_grp.2
def big31 (x : (List S30)) : Option (Bool) :=
 big31_L1 (x, 0, 0)
theorem big31_ok : ∀ (x : (List S30)) (r : Bool), big31 x = some r → ∀ W0 : World, PTo Tryz.prog W0 14 #[ls 5 false enc30 x] (.returned (.bool r)) := by
 intro x r h
 unfold big31 at h
 intro W0
 refine PTo.of_body (fn := Tryz.f14) (code := cB Tryz.f14) Tryz.func14 rfl rfl ?_
 intro w0 S hS
 haveI := hS.noEx Tryz.prog
 refine H.sr' 1 ?_
 refine H.sr' 1 ?_
 refine H.seq' ?_
 refine H.sr' 1 ?_
 refine H.blk' 0 ?_
 refine H.lop' ?_
 exact HL.ren' hS [] (big31_L1_ok (x, 0, 0) r h W0 w0 S hS)
def kOf_L2 (x : Int × Int × Int × Int × (List Int)) : Option (Int × Int × Int × Int × Int × (List Int)) :=
 some (x.1, x.2.1, x.2.2.1, x.2.2.2.1, 0, x.2.2.2.2)
theorem kOf_L2_ok : ∀ (x : Int × Int × Int × Int × (List Int)) (r : Int × Int × Int × Int × Int × (List Int)), kOf_L2 x = some r → ∀ (W0 w0 : World) (S : Own), Std W0 w0 S 0 → H Tryz.prog w0 S 50 (cR (cR (cR (cR (cR (cR (cB Tryz.f41))))))) (mkS [(2, .pointer (some ⟨0, 0, none⟩)), (3, .pointer (some ⟨1, 0, none⟩))] [(0, .cells [.int .u8 0, .int .i64 0, .int .i64 0, .int .i64 0, .int .u8 0, .slice none 0 0] 38 6), (1, .cells [.int .u8 x.1, .int .i64 x.2.1, .int .i64 x.2.2.1, .int .i64 x.2.2.2.1, .int .u8 0, tl 1 2 (encI .u8) x.2.2.2.2] 38 6)] 3 [2]) (KEnd Tryz.prog Tryz.f41 (PEnd w0 S (.returned (.agg #[.int .u8 r.1, .int .i64 r.2.1, .int .i64 r.2.2.1, .int .i64 r.2.2.2.1, .int .u8 r.2.2.2.2.1, ls 1 false (encI .u8) r.2.2.2.2.2])))) := by
 intro x r h
 unfold kOf_L2 at h
 intro W0 w0 S hS
 haveI := hS.noEx Tryz.prog
 refine H.sr' 2 ?_
 refine H.ret' ?_
 obtain rfl := Option.some.inj h
 exact KEnd.retW (v := .agg #[.int .u8 x.1, .int .i64 x.2.1, .int .i64 x.2.2.1, .int .i64 x.2.2.2.1, .int .u8 0, tl 1 2 (encI .u8) x.2.2.2.2]) (.agg [.keep, .keep, .keep, .keep, .keep, .list 1 false]) (by kernel_rfl) (by kernel_rfl) (by kernel_rfl) (by kernel_rfl)
def kOf_L1 (x : Int × Int × Int × Int × Int × (List Int) × Int × Int × Int) : Option (Int × Int × Int × Int × Int × (List Int)) :=
 (sub' x.2.2.2.2.2.1 0 (minI (x.2.2.2.2.2.1.length : Int) 2000)) >>= fun y1 =>
 (app' 1 [] y1) >>= fun y2 =>
 if y1.length = 0 then
  kOf_L2 (x.2.2.2.2.2.2.1, x.2.2.2.2.2.2.2.1, x.2.2.2.2.2.2.2.2, (IntKind.i64.wrap x.2.2.2.1), [])
 else
  kOf_L2 (x.2.2.2.2.2.2.1, x.2.2.2.2.2.2.2.1, x.2.2.2.2.2.2.2.2, (IntKind.i64.wrap x.2.2.2.1), y2)
theorem kOf_L1_ok : ∀ (x : Int × Int × Int × Int × Int × (List Int) × Int × Int × Int) (r : Int × Int × Int × Int × Int × (List Int)), kOf_L1 x = some r → ∀ (W0 w0 : World) (S : Own), Std W0 w0 S 0 → H Tryz.prog w0 S 50 (cR (cR (cR (cR (cB Tryz.f41))))) (mkS [(1, .pointer (some ⟨0, 0, none⟩)), (2, .pointer (some ⟨1, 0, none⟩)), (3, .pointer (some ⟨2, 0, none⟩))] [(0, .cells [.int .u8 x.1, .int .u8 x.2.1, .int .u8 x.2.2.1, .int .u8 x.2.2.2.1, .int .u8 x.2.2.2.2.1, ls 1 false (encI .u8) x.2.2.2.2.2.1] 27 6), (1, .cells [.int .u8 0, .int .i64 0, .int .i64 0, .int .i64 0, .int .u8 0, .slice none 0 0] 38 6), (2, .cells [.int .u8 x.2.2.2.2.2.2.1, .int .i64 x.2.2.2.2.2.2.2.1, .int .i64 x.2.2.2.2.2.2.2.2, .int .i64 0, .int .u8 0, .slice none 0 0] 38 6)] 3 []) (KEnd Tryz.prog Tryz.f41 (PEnd w0 S (.returned (.agg #[.int .u8 r.1, .int .i64 r.2.1, .int .i64 r.2.2.1, .int .i64 r.2.2.2.1, .int .u8 r.2.2.2.2.1, ls 1 false (encI .u8) r.2.2.2.2.2])))) := by
 intro x r h
 unfold kOf_L1 at h
 intro W0 w0 S hS
 haveI := hS.noEx Tryz.prog
 refine H.sr' 5 ?_
 refine H.sg' ?_
 refine HO.go' 5 ?_
 refine HO.len (by kernel_rfl) (by kernel_rfl) (ls_size (encI .u8) x.2.2.2.2.2.1) ?_
 refine HO.go' 1 ?_
 obtain ⟨y1, hy, h⟩ := bindS h
 refine HO.valA (sl2_aop (enc := (encI .u8)) (k := 1) (j := .i64) hy (by kernel_rfl)) ?_
 refine HO.tkz [39] 3 0 0 1 5 ([].map (encI .u8)).toArray [] (by kernel_rfl) ?_
 obtain ⟨y2, hy, h⟩ := bindS h
 by_cases hb : y1.length = 0
 ·rw [if_pos hb] at h
  refine HO.valA (appN_aop (ag := false) [] (encI_ok .u8) hy hb (by kernel_rfl)) ?_
  refine HO.fin' 2 ?_
  exact H.ren' hS [1, 2, 4] (kOf_L2_ok (x.2.2.2.2.2.2.1, x.2.2.2.2.2.2.2.1, x.2.2.2.2.2.2.2.2, (IntKind.i64.wrap x.2.2.2.1), []) r h W0 w0 S hS)
 rw [if_neg hb] at h
 refine HO.effA (appL_aop (ag := false) [] (encI_ok .u8) hy hb (by kernel_rfl)) ?_
 refine HO.fin' 2 ?_
 exact H.ren' hS [1, 2, 5] (kOf_L2_ok (x.2.2.2.2.2.2.1, x.2.2.2.2.2.2.2.1, x.2.2.2.2.2.2.2.2, (IntKind.i64.wrap x.2.2.2.1), y2) r h W0 w0 S hS)
def kOf (x : Int × Int × Int × Int × Int × (List Int)) : Option (Int × Int × Int × Int × Int × (List Int)) :=
 if (IntKind.u8.wrap (1 + (remI .u8 x.1 5))) = 5 then
  some ((IntKind.u8.wrap (1 + (remI .u8 x.1 5))), (IntKind.i64.wrap ((IntKind.i64.wrap (remI .u8 x.2.1 128)) - 1)), 0, 0, (IntKind.u8.wrap (1 + (remI .u8 x.2.2.2.2.1 7))), [])
 else
  if (IntKind.u8.wrap (1 + (remI .u8 x.1 5))) = 1 then
   kOf_L1 (x.1, x.2.1, x.2.2.1, x.2.2.2.1, x.2.2.2.2.1, x.2.2.2.2.2, (IntKind.u8.wrap (1 + (remI .u8 x.1 5))), (IntKind.i64.wrap (remI .u8 x.2.1 128)), (IntKind.i64.wrap ((IntKind.i64.wrap (remI .u8 x.2.2.1 129)) - 1)))
  else
   kOf_L1 (x.1, x.2.1, x.2.2.1, x.2.2.2.1, x.2.2.2.2.1, x.2.2.2.2.2, (IntKind.u8.wrap (1 + (remI .u8 x.1 5))), (IntKind.i64.wrap (remI .u8 x.2.1 128)), 0)
theorem kOf_ok : ∀ (x : Int × Int × Int × Int × Int × (List Int)) (r : Int × Int × Int × Int × Int × (List Int)), kOf x = some r → ∀ W0 : World, PTo Tryz.prog W0 41 #[.agg #[.int .u8 x.1, .int .u8 x.2.1, .int .u8 x.2.2.1, .int .u8 x.2.2.2.1, .int .u8 x.2.2.2.2.1, ls 1 false (encI .u8) x.2.2.2.2.2]] (.returned (.agg #[.int .u8 r.1, .int .i64 r.2.1, .int .i64 r.2.2.1, .int .i64 r.2.2.2.1, .int .u8 r.2.2.2.2.1, ls 1 false (encI .u8) r.2.2.2.2.2])) := by
 intro x r h
 unfold kOf at h
 intro W0
 refine PTo.of_body (fn := Tryz.f41) (code := cB Tryz.f41) Tryz.func41 rfl rfl ?_
 intro w0 S hS
 haveI := hS.noEx Tryz.prog
 refine H.sr' 2 ?_
 refine H.sr' 11 ?_
 refine H.seq' ?_
 refine H.sr' 3 ?_
 refine H.cS' (decide ((IntKind.u8.wrap (1 + (remI .u8 x.1 5))) = 5)) (fun hb => ?_) (fun hb => ?_)
 ·rw [if_pos (of_decide_eq_true hb)] at h
  refine H.sr' 5 ?_
  refine H.sr' 6 ?_
  refine H.sr' 2 ?_
  refine H.ret' ?_
  refine Kseq_ret ?_
  obtain rfl := Option.some.inj h
  exact KEnd.retW (v := .agg #[.int .u8 (IntKind.u8.wrap (1 + (remI .u8 x.1 5))), .int .i64 (IntKind.i64.wrap ((IntKind.i64.wrap (remI .u8 x.2.1 128)) - 1)), .int .i64 0, .int .i64 0, .int .u8 (IntKind.u8.wrap (1 + (remI .u8 x.2.2.2.2.1 7))), .slice none 0 0]) (.agg [.keep, .keep, .keep, .keep, .keep, .list 1 false]) (by kernel_rfl) (by kernel_rfl) (by kernel_rfl) (by kernel_rfl)
 rw [if_neg (of_decide_eq_false hb)] at h
 refine H.skp' ?_
 refine Kseq_norm ?_
 refine H.seq' ?_
 refine H.sr' 3 ?_
 refine H.cS' (decide ((IntKind.u8.wrap (1 + (remI .u8 x.1 5))) = 1)) (fun hb => ?_) (fun hb => ?_)
 rotate_left
 ·rw [if_neg (of_decide_eq_false hb)] at h
  refine H.skp' ?_
  refine Kseq_norm ?_
  exact H.ren' hS [0, 1, 2] (kOf_L1_ok (x.1, x.2.1, x.2.2.1, x.2.2.2.1, x.2.2.2.2.1, x.2.2.2.2.2, (IntKind.u8.wrap (1 + (remI .u8 x.1 5))), (IntKind.i64.wrap (remI .u8 x.2.1 128)), 0) r h W0 w0 S hS)
 rw [if_pos (of_decide_eq_true hb)] at h
 refine H.reg' ?_
 refine HO.fin' 7 ?_
 exact H.ren' hS [0, 1, 2] (kOf_L1_ok (x.1, x.2.1, x.2.2.1, x.2.2.2.1, x.2.2.2.2.1, x.2.2.2.2.2, (IntKind.u8.wrap (1 + (remI .u8 x.1 5))), (IntKind.i64.wrap (remI .u8 x.2.1 128)), (IntKind.i64.wrap ((IntKind.i64.wrap (remI .u8 x.2.2.1 129)) - 1))) r h W0 w0 S hS)
mutual
def listK_L2 (x : (List S27) × (List S38) × Int × Bool) : Option ((List S38)) :=
 if x.2.2.2 = true then
  (at' x.1 x.2.2.1) >>= fun y1 =>
  (kOf (y1.c0, y1.c1, y1.c2, y1.c3, y1.c4, y1.c5)) >>= fun y2 =>
  (app' 64 x.2.1 [(S38.mk y2.1 y2.2.1 y2.2.2.1 y2.2.2.2.1 y2.2.2.2.2.1 y2.2.2.2.2.2)]) >>= fun y3 =>
  listK_L1 (x.1, y3, (IntKind.i64.wrap (x.2.2.1 + 1)))
 else
  some x.2.1
partial_fixpoint
def listK_L1 (x : (List S27) × (List S38) × Int) : Option ((List S38)) :=
 if x.2.2 < (x.1.length : Int) then
  listK_L2 (x.1, x.2.1, x.2.2, (decide (x.2.2 < 16)))
 else
  listK_L2 (x.1, x.2.1, x.2.2, false)
partial_fixpoint
end
abbrev T_listK_L2 (x : (List S27) × (List S38) × Int × Bool) (r : (List S38)) : Prop := ∀ (W0 w0 : World) (S : Own), Std W0 w0 S 0 → H Tryz.prog w0 S 24 (cR (cL (cL (cL (cR (cL (cR (cR (cB Tryz.f16))))))))) (mkS [(0, ls 6 false enc27 x.1), (3, tl 6 0 enc38 x.2.1), (4, .int .i64 x.2.2.1), (12, .bool x.2.2.2)] [] 1 [0]) (Kseq Tryz.prog w0 S 24 (cR (cL (cL (cR (cL (cR (cR (cB Tryz.f16)))))))) (Kloop Tryz.prog w0 S 24 (cL (cL (cR (cL (cR (cR (cB Tryz.f16))))))) (Kblock 0 (Kseq Tryz.prog w0 S 24 (cR (cR (cR (cB Tryz.f16)))) (KEnd Tryz.prog Tryz.f16 (PEnd w0 S (.returned (ls 6 false enc38 r))))))))
abbrev T_listK_L1 (x : (List S27) × (List S38) × Int) (r : (List S38)) : Prop := ∀ (W0 w0 : World) (S : Own), Std W0 w0 S 0 → HL Tryz.prog w0 S 24 (cL (cL (cR (cL (cR (cR (cB Tryz.f16))))))) (mkS [(0, ls 6 false enc27 x.1), (3, tl 6 0 enc38 x.2.1), (4, .int .i64 x.2.2)] [] 1 [0]) (Kblock 0 (Kseq Tryz.prog w0 S 24 (cR (cR (cR (cB Tryz.f16)))) (KEnd Tryz.prog Tryz.f16 (PEnd w0 S (.returned (ls 6 false enc38 r))))))
theorem listK_L2_grp : (∀ x r, listK_L2 x = some r → T_listK_L2 x r) ∧
 (∀ x r, listK_L1 x = some r → T_listK_L1 x r) := by
 refine listK_L2.mutual_partial_correctness T_listK_L2 T_listK_L1 ?_ ?_
 ·intro g_listK_L1 ih_listK_L1 x r h
  intro W0 w0 S hS
  haveI := hS.noEx Tryz.prog
  refine H.cS' (x.2.2.2) (fun hb => ?_) (fun hb => ?_)
  rotate_left
  ·rw [if_neg (ne_true hb)] at h
   refine H.ext' 0 ?_
   refine Kseq_exit ?_
   refine Kloop_exit ?_
   refine Kblock_hit ?_
   refine Kseq_norm ?_
   refine H.sr' 2 ?_
   refine H.ret' ?_
   obtain rfl := Option.some.inj h
   exact KEnd.retW (v := tl 6 0 enc38 x.2.1) (.list 6 false) (by kernel_rfl) (by kernel_rfl) (by kernel_rfl) (by kernel_rfl)
  rw [if_pos hb] at h
  refine H.skp' ?_
  refine Kseq_norm ?_
  refine H.seq' ?_
  refine H.blk' 1 ?_
  refine H.reg' ?_
  refine HO.go' 3 ?_
  obtain ⟨y1, hy, h⟩ := bindS h
  refine HO.idx (.agg #[.int .u8 y1.c0, .int .u8 y1.c1, .int .u8 y1.c2, .int .u8 y1.c3, .int .u8 y1.c4, ls 1 false (encI .u8) y1.c5]) hy (enc27_eq y1) (by kernel_rfl) ?_
  refine HO.go' 1 ?_
  obtain ⟨y2, hy, h⟩ := bindS h
  refine HO.callW hS [.agg [.keep, .keep, .keep, .keep, .keep, .list 1 false]] (kOf_ok (y1.c0, y1.c1, y1.c2, y1.c3, y1.c4, y1.c5) y2 hy W0) (by kernel_rfl) (by kernel_rfl) ?_
  refine HO.go' 1 ?_
  obtain ⟨y3, hy, h⟩ := bindS h
  refine HO.effA (app1_aop (enc := enc38) (k := 6) true 1 [.int .u8 y2.1, .int .i64 y2.2.1, .int .i64 y2.2.2.1, .int .i64 y2.2.2.2.1, .int .u8 y2.2.2.2.2.1, ls 1 false (encI .u8) y2.2.2.2.2.2] [] hy (by kernel_rfl) (by kernel_rfl) (by simp only [List.map_cons, List.map_nil, enc38_eq]; kernel_rfl)) ?_
  refine HO.go' 1 ?_
  refine HO.end' ?_
  refine Kblock_norm ?_
  refine Kseq_norm ?_
  refine H.reg' ?_
  refine HO.go' 3 ?_
  refine HO.end' ?_
  refine Kloop_norm ?_
  exact HL.ren' hS [2] (ih_listK_L1 (x.1, y3, (IntKind.i64.wrap (x.2.2.1 + 1))) r h W0 w0 S hS)
 ·intro g_listK_L2 ih_listK_L2 x r h
  intro W0 w0 S hS
  haveI := hS.noEx Tryz.prog
  refine HL.round ?_
  refine H.seq' ?_
  refine H.sg' ?_
  refine HO.go' 2 ?_
  refine HO.len (by kernel_rfl) (by kernel_rfl) (ls_size enc27 x.1) ?_
  refine HO.go' 1 ?_
  refine HO.bo' (decide (x.2.2 < (x.1.length : Int))) (fun hb => ?_) (fun hb => ?_)
  ·rw [if_pos (of_decide_eq_true hb)] at h
   refine HO.fin' 3 ?_
   exact H.ren' hS [0] (ih_listK_L2 (x.1, x.2.1, x.2.2, (decide (x.2.2 < 16))) r h W0 w0 S hS)
  rw [if_neg (of_decide_eq_false hb)] at h
  refine HO.fin' 3 ?_
  exact H.ren' hS [0] (ih_listK_L2 (x.1, x.2.1, x.2.2, false) r h W0 w0 S hS)
theorem listK_L2_ok : ∀ x r, listK_L2 x = some r → T_listK_L2 x r := listK_L2_grp.1
theorem listK_L1_ok : ∀ x r, listK_L1 x = some r → T_listK_L1 x r := listK_L2_grp.2
def listK (x : (List S27)) : Option ((List S38)) :=
 listK_L1 (x, [], 0)
theorem listK_ok : ∀ (x : (List S27)) (r : (List S38)), listK x = some r → ∀ W0 : World, PTo Tryz.prog W0 16 #[ls 6 false enc27 x] (.returned (ls 6 false enc38 r)) := by
 intro x r h
 unfold listK at h
 intro W0
 refine PTo.of_body (fn := Tryz.f16) (code := cB Tryz.f16) Tryz.func16 rfl rfl ?_
 intro w0 S hS
 haveI := hS.noEx Tryz.prog
 refine H.sr' 1 ?_
 refine H.sr' 1 ?_
 refine H.seq' ?_
 refine H.sr' 1 ?_
 refine H.blk' 0 ?_
 refine H.lop' ?_
 refine HL.tok 3 6 (es := #[]) (by kernel_rfl) ?_
 exact HL.ren' hS [0] (listK_L1_ok (x, [], 0) r h W0 w0 S hS)
def within_L1 (x : Bool) : Option (Bool) :=
 some x
theorem within_L1_ok : ∀ (x : Bool) (r : Bool), within_L1 x = some r → ∀ (W0 w0 : World) (S : Own), Std W0 w0 S 0 → H Tryz.prog w0 S 15 (cR (cR (cB Tryz.f56))) (mkS [(6, .bool x)] [] 0 []) (KEnd Tryz.prog Tryz.f56 (PEnd w0 S (.returned (.bool r)))) := by
 intro x r h
 unfold within_L1 at h
 intro W0 w0 S hS
 haveI := hS.noEx Tryz.prog
 refine H.ret' ?_
 obtain rfl := Option.some.inj h
 exact KEnd.r'
def within (x : Int × Int × Int) : Option (Bool) :=
 if x.2.1 ≤ x.1 then
  within_L1 (decide (x.1 ≤ x.2.2))
 else
  within_L1 false
theorem within_ok : ∀ (x : Int × Int × Int) (r : Bool), within x = some r → ∀ W0 : World, PTo Tryz.prog W0 56 #[.int .i64 x.1, .int .i64 x.2.1, .int .i64 x.2.2] (.returned (.bool r)) := by
 intro x r h
 unfold within at h
 intro W0
 refine PTo.of_body (fn := Tryz.f56) (code := cB Tryz.f56) Tryz.func56 rfl rfl ?_
 intro w0 S hS
 haveI := hS.noEx Tryz.prog
 refine H.sr' 1 ?_
 refine H.sg' ?_
 refine HO.go' 3 ?_
 refine HO.bo' (decide (x.2.1 ≤ x.1)) (fun hb => ?_) (fun hb => ?_)
 ·rw [if_pos (of_decide_eq_true hb)] at h
  refine HO.fin' 5 ?_
  exact H.ren' hS [] (within_L1_ok (decide (x.1 ≤ x.2.2)) r h W0 w0 S hS)
 rw [if_neg (of_decide_eq_false hb)] at h
 refine HO.fin' 5 ?_
 exact H.ren' hS [] (within_L1_ok false r h W0 w0 S hS)
def cpCheck_L2 (x : Bool) : Option (Int) :=
 if (!x) = true then
  some 1
 else
  some 0
theorem cpCheck_L2_ok : ∀ (x : Bool) (r : Int), cpCheck_L2 x = some r → ∀ (W0 w0 : World) (S : Own), Std W0 w0 S 0 → H Tryz.prog w0 S 81 (cR (cR (cR (cR (cB Tryz.f22))))) (mkS [(3, .bool x)] [] 0 []) (KEnd Tryz.prog Tryz.f22 (PEnd w0 S (.returned (.int .i64 r)))) := by
 intro x r h
 unfold cpCheck_L2 at h
 intro W0 w0 S hS
 haveI := hS.noEx Tryz.prog
 refine H.seq' ?_
 refine H.sr' 2 ?_
 refine H.cS' (!x) (fun hb => ?_) (fun hb => ?_)
 ·rw [if_pos hb] at h
  refine H.sr' 1 ?_
  refine H.ret' ?_
  refine Kseq_ret ?_
  obtain rfl := Option.some.inj h
  exact KEnd.r'
 rw [if_neg (ne_true hb)] at h
 refine H.skp' ?_
 refine Kseq_norm ?_
 refine H.sr' 1 ?_
 refine H.ret' ?_
 obtain rfl := Option.some.inj h
 exact KEnd.r'
def cpCheck_L1 (x : Int × Bool × Int × Int × Int × Int × (List Int)) : Option (Int) :=
 if x.2.1 = true then
  (within (x.2.2.1, 0, 127)) >>= fun y4 =>
  if y4 = true then
   if x.2.2.2.1 = 0 then
    (within (x.2.2.2.2.1, 0, 255)) >>= fun y5 =>
    if y5 = true then
     cpCheck_L2 (decide (x.2.2.2.2.2.1 = 0))
    else
     cpCheck_L2 false
   else
    cpCheck_L2 false
  else
   cpCheck_L2 false
 else
  if x.1 = 5 then
   (within (x.2.2.1, (-1), 127)) >>= fun y6 =>
   if y6 = true then
    if (((x.2.2.2.1 : Int) == 0) && (((x.2.2.2.2.1 : Int) == 0) && ((((x.2.2.2.2.2.2.length : Int) : Int) == 0) && (true)))) = true then
     if 1 ≤ x.2.2.2.2.2.1 then
      cpCheck_L2 (decide (x.2.2.2.2.2.1 ≤ 7))
     else
      cpCheck_L2 false
    else
     cpCheck_L2 false
   else
    cpCheck_L2 false
  else
   cpCheck_L2 false
theorem cpCheck_L1_ok : ∀ (x : Int × Bool × Int × Int × Int × Int × (List Int)) (r : Int), cpCheck_L1 x = some r → ∀ (W0 w0 : World) (S : Own), Std W0 w0 S 0 → H Tryz.prog w0 S 81 (cR (cR (cR (cL (cR (cL (cR (cR (cR (cB Tryz.f22)))))))))) (mkS [(1, .pointer (some ⟨0, 0, none⟩)), (3, .bool false), (9, .int .u8 x.1), (30, .bool x.2.1)] [(0, .cells [.int .u8 x.1, .int .i64 x.2.2.1, .int .i64 x.2.2.2.1, .int .i64 x.2.2.2.2.1, .int .u8 x.2.2.2.2.2.1, ls 1 false (encI .u8) x.2.2.2.2.2.2] 38 6)] 1 []) (Kblock 0 (Kseq Tryz.prog w0 S 81 (cR (cR (cR (cR (cB Tryz.f22))))) (KEnd Tryz.prog Tryz.f22 (PEnd w0 S (.returned (.int .i64 r)))))) := by
 intro x r h
 unfold cpCheck_L1 at h
 intro W0 w0 S hS
 haveI := hS.noEx Tryz.prog
 refine H.cS' (x.2.1) (fun hb => ?_) (fun hb => ?_)
 ·rw [if_pos hb] at h
  refine H.reg' ?_
  refine HO.go' 2 ?_
  obtain ⟨y4, hy, h⟩ := bindS h
  refine HO.callW hS [.keep, .keep, .keep] (within_ok (x.2.2.1, 0, 127) y4 hy W0) (by kernel_rfl) (by kernel_rfl) ?_
  refine HO.bo' y4 (fun hb => ?_) (fun hb => ?_)
  rotate_left
  ·rw [if_neg (ne_true hb)] at h
   refine HO.go' 15 ?_
   refine HO.end' ?_
   refine Kblock_norm ?_
   refine Kseq_norm ?_
   exact H.ren' hS [] (cpCheck_L2_ok false r h W0 w0 S hS)
  rw [if_pos hb] at h
  refine HO.go' 4 ?_
  refine HO.bo' (decide (x.2.2.2.1 = 0)) (fun hb => ?_) (fun hb => ?_)
  rotate_left
  ·rw [if_neg (of_decide_eq_false hb)] at h
   refine HO.go' 10 ?_
   refine HO.end' ?_
   refine Kblock_norm ?_
   refine Kseq_norm ?_
   exact H.ren' hS [] (cpCheck_L2_ok false r h W0 w0 S hS)
  rw [if_pos (of_decide_eq_true hb)] at h
  refine HO.go' 2 ?_
  obtain ⟨y5, hy, h⟩ := bindS h
  refine HO.callW hS [.keep, .keep, .keep] (within_ok (x.2.2.2.2.1, 0, 255) y5 hy W0) (by kernel_rfl) (by kernel_rfl) ?_
  refine HO.go' 1 ?_
  refine HO.bo' y5 (fun hb => ?_) (fun hb => ?_)
  ·rw [if_pos hb] at h
   refine HO.go' 5 ?_
   refine HO.end' ?_
   refine Kblock_norm ?_
   refine Kseq_norm ?_
   exact H.ren' hS [] (cpCheck_L2_ok (decide (x.2.2.2.2.2.1 = 0)) r h W0 w0 S hS)
  rw [if_neg (ne_true hb)] at h
  refine HO.go' 5 ?_
  refine HO.end' ?_
  refine Kblock_norm ?_
  refine Kseq_norm ?_
  exact H.ren' hS [] (cpCheck_L2_ok false r h W0 w0 S hS)
 rw [if_neg (ne_true hb)] at h
 refine H.sr' 2 ?_
 refine H.cS' (decide (x.1 = 5)) (fun hb => ?_) (fun hb => ?_)
 rotate_left
 ·rw [if_neg (of_decide_eq_false hb)] at h
  refine H.skp' ?_
  refine Kblock_norm ?_
  refine Kseq_norm ?_
  exact H.ren' hS [] (cpCheck_L2_ok false r h W0 w0 S hS)
 rw [if_pos (of_decide_eq_true hb)] at h
 refine H.reg' ?_
 refine HO.go' 2 ?_
 obtain ⟨y6, hy, h⟩ := bindS h
 refine HO.callW hS [.keep, .keep, .keep] (within_ok (x.2.2.1, (-1), 127) y6 hy W0) (by kernel_rfl) (by kernel_rfl) ?_
 refine HO.bo' y6 (fun hb => ?_) (fun hb => ?_)
 rotate_left
 ·rw [if_neg (ne_true hb)] at h
  refine HO.go' 22 ?_
  refine HO.end' ?_
  refine Kblock_norm ?_
  refine Kseq_norm ?_
  exact H.ren' hS [] (cpCheck_L2_ok false r h W0 w0 S hS)
 rw [if_pos hb] at h
 refine HO.go' 6 ?_
 refine HO.len (by kernel_rfl) (by kernel_rfl) (ls_size (encI .u8) x.2.2.2.2.2.2) ?_
 refine HO.go' 2 ?_
 refine HO.valA (eqA_aop (r := (((x.2.2.2.1 : Int) == 0) && (((x.2.2.2.2.1 : Int) == 0) && ((((x.2.2.2.2.2.2.length : Int) : Int) == 0) && (true))))) false (by kernel_rfl)) ?_
 refine HO.go' 1 ?_
 refine HO.bo' (((x.2.2.2.1 : Int) == 0) && (((x.2.2.2.2.1 : Int) == 0) && ((((x.2.2.2.2.2.2.length : Int) : Int) == 0) && (true)))) (fun hb => ?_) (fun hb => ?_)
 rotate_left
 ·rw [if_neg (ne_true hb)] at h
  refine HO.go' 10 ?_
  refine HO.end' ?_
  refine Kblock_norm ?_
  refine Kseq_norm ?_
  exact H.ren' hS [] (cpCheck_L2_ok false r h W0 w0 S hS)
 rw [if_pos hb] at h
 refine HO.go' 4 ?_
 refine HO.bo' (decide (1 ≤ x.2.2.2.2.2.1)) (fun hb => ?_) (fun hb => ?_)
 ·rw [if_pos (of_decide_eq_true hb)] at h
  refine HO.go' 5 ?_
  refine HO.end' ?_
  refine Kblock_norm ?_
  refine Kseq_norm ?_
  exact H.ren' hS [] (cpCheck_L2_ok (decide (x.2.2.2.2.2.1 ≤ 7)) r h W0 w0 S hS)
 rw [if_neg (of_decide_eq_false hb)] at h
 refine HO.go' 5 ?_
 refine HO.end' ?_
 refine Kblock_norm ?_
 refine Kseq_norm ?_
 exact H.ren' hS [] (cpCheck_L2_ok false r h W0 w0 S hS)
def cpCheck (x : Int × Int × Int × Int × Int × (List Int)) : Option (Int) :=
 if 2000 < (x.2.2.2.2.2.length : Int) then
  some 3
 else
  if x.1 = 1 then
   (within (x.2.1, 0, 127)) >>= fun y1 =>
   if y1 = true then
    (within (x.2.2.1, (-1), 127)) >>= fun y2 =>
    if y2 = true then
     (within (x.2.2.2.1, 0, 255)) >>= fun y3 =>
     if y3 = true then
      cpCheck_L2 (decide (x.2.2.2.2.1 = 0))
     else
      cpCheck_L2 false
    else
     cpCheck_L2 false
   else
    cpCheck_L2 false
  else
   if x.1 = 2 then
    cpCheck_L1 (x.1, (decide (x.1 = 2)), x.2.1, x.2.2.1, x.2.2.2.1, x.2.2.2.2.1, x.2.2.2.2.2)
   else
    if x.1 = 3 then
     cpCheck_L1 (x.1, (decide (x.1 = 3)), x.2.1, x.2.2.1, x.2.2.2.1, x.2.2.2.2.1, x.2.2.2.2.2)
    else
     cpCheck_L1 (x.1, (decide (x.1 = 4)), x.2.1, x.2.2.1, x.2.2.2.1, x.2.2.2.2.1, x.2.2.2.2.2)
theorem cpCheck_ok : ∀ (x : Int × Int × Int × Int × Int × (List Int)) (r : Int), cpCheck x = some r → ∀ W0 : World, PTo Tryz.prog W0 22 #[.agg #[.int .u8 x.1, .int .i64 x.2.1, .int .i64 x.2.2.1, .int .i64 x.2.2.2.1, .int .u8 x.2.2.2.2.1, ls 1 false (encI .u8) x.2.2.2.2.2]] (.returned (.int .i64 r)) := by
 intro x r h
 unfold cpCheck at h
 intro W0
 refine PTo.of_body (fn := Tryz.f22) (code := cB Tryz.f22) Tryz.func22 rfl rfl ?_
 intro w0 S hS
 haveI := hS.noEx Tryz.prog
 refine H.sr' 2 ?_
 refine H.seq' ?_
 refine H.sg' ?_
 refine HO.go' 2 ?_
 refine HO.len (by kernel_rfl) (by kernel_rfl) (ls_size (encI .u8) x.2.2.2.2.2) ?_
 refine HO.fin' 1 ?_
 refine H.cS' (decide (2000 < (x.2.2.2.2.2.length : Int))) (fun hb => ?_) (fun hb => ?_)
 ·rw [if_pos (of_decide_eq_true hb)] at h
  refine H.sr' 1 ?_
  refine H.ret' ?_
  refine Kseq_ret ?_
  obtain rfl := Option.some.inj h
  exact KEnd.r'
 rw [if_neg (of_decide_eq_false hb)] at h
 refine H.skp' ?_
 refine Kseq_norm ?_
 refine H.sr' 1 ?_
 refine H.seq' ?_
 refine H.sr' 2 ?_
 refine H.blk' 0 ?_
 refine H.sr' 2 ?_
 refine H.cS' (decide (x.1 = 1)) (fun hb => ?_) (fun hb => ?_)
 rotate_left
 ·rw [if_neg (of_decide_eq_false hb)] at h
  refine H.seq' ?_
  refine H.sr' 2 ?_
  refine H.cS' (decide (x.1 = 2)) (fun hb => ?_) (fun hb => ?_)
  ·rw [if_pos (of_decide_eq_true hb)] at h
   refine H.skp' ?_
   refine Kseq_norm ?_
   exact H.ren' hS [0] (cpCheck_L1_ok (x.1, (decide (x.1 = 2)), x.2.1, x.2.2.1, x.2.2.2.1, x.2.2.2.2.1, x.2.2.2.2.2) r h W0 w0 S hS)
  rw [if_neg (of_decide_eq_false hb)] at h
  refine H.sr' 2 ?_
  refine H.cS' (decide (x.1 = 3)) (fun hb => ?_) (fun hb => ?_)
  ·rw [if_pos (of_decide_eq_true hb)] at h
   refine H.skp' ?_
   refine Kseq_norm ?_
   exact H.ren' hS [0] (cpCheck_L1_ok (x.1, (decide (x.1 = 3)), x.2.1, x.2.2.1, x.2.2.2.1, x.2.2.2.2.1, x.2.2.2.2.2) r h W0 w0 S hS)
  rw [if_neg (of_decide_eq_false hb)] at h
  refine H.reg' ?_
  refine HO.fin' 2 ?_
  exact H.ren' hS [0] (cpCheck_L1_ok (x.1, (decide (x.1 = 4)), x.2.1, x.2.2.1, x.2.2.2.1, x.2.2.2.2.1, x.2.2.2.2.2) r h W0 w0 S hS)
 rw [if_pos (of_decide_eq_true hb)] at h
 refine H.reg' ?_
 refine HO.go' 2 ?_
 obtain ⟨y1, hy, h⟩ := bindS h
 refine HO.callW hS [.keep, .keep, .keep] (within_ok (x.2.1, 0, 127) y1 hy W0) (by kernel_rfl) (by kernel_rfl) ?_
 refine HO.bo' y1 (fun hb => ?_) (fun hb => ?_)
 rotate_left
 ·rw [if_neg (ne_true hb)] at h
  refine HO.go' 15 ?_
  refine HO.end' ?_
  refine Kblock_norm ?_
  refine Kseq_norm ?_
  exact H.ren' hS [] (cpCheck_L2_ok false r h W0 w0 S hS)
 rw [if_pos hb] at h
 refine HO.go' 2 ?_
 obtain ⟨y2, hy, h⟩ := bindS h
 refine HO.callW hS [.keep, .keep, .keep] (within_ok (x.2.2.1, (-1), 127) y2 hy W0) (by kernel_rfl) (by kernel_rfl) ?_
 refine HO.go' 1 ?_
 refine HO.bo' y2 (fun hb => ?_) (fun hb => ?_)
 rotate_left
 ·rw [if_neg (ne_true hb)] at h
  refine HO.go' 10 ?_
  refine HO.end' ?_
  refine Kblock_norm ?_
  refine Kseq_norm ?_
  exact H.ren' hS [] (cpCheck_L2_ok false r h W0 w0 S hS)
 rw [if_pos hb] at h
 refine HO.go' 2 ?_
 obtain ⟨y3, hy, h⟩ := bindS h
 refine HO.callW hS [.keep, .keep, .keep] (within_ok (x.2.2.2.1, 0, 255) y3 hy W0) (by kernel_rfl) (by kernel_rfl) ?_
 refine HO.go' 1 ?_
 refine HO.bo' y3 (fun hb => ?_) (fun hb => ?_)
 ·rw [if_pos hb] at h
  refine HO.go' 5 ?_
  refine HO.end' ?_
  refine Kblock_norm ?_
  refine Kseq_norm ?_
  exact H.ren' hS [] (cpCheck_L2_ok (decide (x.2.2.2.2.1 = 0)) r h W0 w0 S hS)
 rw [if_neg (ne_true hb)] at h
 refine HO.go' 5 ?_
 refine HO.end' ?_
 refine Kblock_norm ?_
 refine Kseq_norm ?_
 exact H.ren' hS [] (cpCheck_L2_ok false r h W0 w0 S hS)
def intC (x : Int) : Option ((List Int)) :=
 if (!decide ((shrI .i64 x 7) = 0)) = true then
  if (!decide ((shrI .i64 x 7) = (-1))) = true then
   if (!decide ((shrI .i64 x 15) = 0)) = true then
    if (!decide ((shrI .i64 x 15) = (-1))) = true then
     if (!decide ((shrI .i64 x 23) = 0)) = true then
      if (!decide ((shrI .i64 x 23) = (-1))) = true then
       if (!decide ((shrI .i64 x 31) = 0)) = true then
        if (!decide ((shrI .i64 x 31) = (-1))) = true then
         if (!decide ((shrI .i64 x 39) = 0)) = true then
          if (!decide ((shrI .i64 x 39) = (-1))) = true then
           if (!decide ((shrI .i64 x 47) = 0)) = true then
            if (!decide ((shrI .i64 x 47) = (-1))) = true then
             if (!decide ((shrI .i64 x 55) = 0)) = true then
              if (!decide ((shrI .i64 x 55) = (-1))) = true then
               some [(IntKind.u8.wrap (shrI .i64 x 56)), (IntKind.u8.wrap (shrI .i64 x 48)), (IntKind.u8.wrap (shrI .i64 x 40)), (IntKind.u8.wrap (shrI .i64 x 32)), (IntKind.u8.wrap (shrI .i64 x 24)), (IntKind.u8.wrap (shrI .i64 x 16)), (IntKind.u8.wrap (shrI .i64 x 8)), (IntKind.u8.wrap (shrI .i64 x 0))]
              else
               some [(IntKind.u8.wrap (shrI .i64 x 48)), (IntKind.u8.wrap (shrI .i64 x 40)), (IntKind.u8.wrap (shrI .i64 x 32)), (IntKind.u8.wrap (shrI .i64 x 24)), (IntKind.u8.wrap (shrI .i64 x 16)), (IntKind.u8.wrap (shrI .i64 x 8)), (IntKind.u8.wrap (shrI .i64 x 0))]
             else
              some [(IntKind.u8.wrap (shrI .i64 x 48)), (IntKind.u8.wrap (shrI .i64 x 40)), (IntKind.u8.wrap (shrI .i64 x 32)), (IntKind.u8.wrap (shrI .i64 x 24)), (IntKind.u8.wrap (shrI .i64 x 16)), (IntKind.u8.wrap (shrI .i64 x 8)), (IntKind.u8.wrap (shrI .i64 x 0))]
            else
             some [(IntKind.u8.wrap (shrI .i64 x 40)), (IntKind.u8.wrap (shrI .i64 x 32)), (IntKind.u8.wrap (shrI .i64 x 24)), (IntKind.u8.wrap (shrI .i64 x 16)), (IntKind.u8.wrap (shrI .i64 x 8)), (IntKind.u8.wrap (shrI .i64 x 0))]
           else
            some [(IntKind.u8.wrap (shrI .i64 x 40)), (IntKind.u8.wrap (shrI .i64 x 32)), (IntKind.u8.wrap (shrI .i64 x 24)), (IntKind.u8.wrap (shrI .i64 x 16)), (IntKind.u8.wrap (shrI .i64 x 8)), (IntKind.u8.wrap (shrI .i64 x 0))]
          else
           some [(IntKind.u8.wrap (shrI .i64 x 32)), (IntKind.u8.wrap (shrI .i64 x 24)), (IntKind.u8.wrap (shrI .i64 x 16)), (IntKind.u8.wrap (shrI .i64 x 8)), (IntKind.u8.wrap (shrI .i64 x 0))]
         else
          some [(IntKind.u8.wrap (shrI .i64 x 32)), (IntKind.u8.wrap (shrI .i64 x 24)), (IntKind.u8.wrap (shrI .i64 x 16)), (IntKind.u8.wrap (shrI .i64 x 8)), (IntKind.u8.wrap (shrI .i64 x 0))]
        else
         some [(IntKind.u8.wrap (shrI .i64 x 24)), (IntKind.u8.wrap (shrI .i64 x 16)), (IntKind.u8.wrap (shrI .i64 x 8)), (IntKind.u8.wrap (shrI .i64 x 0))]
       else
        some [(IntKind.u8.wrap (shrI .i64 x 24)), (IntKind.u8.wrap (shrI .i64 x 16)), (IntKind.u8.wrap (shrI .i64 x 8)), (IntKind.u8.wrap (shrI .i64 x 0))]
      else
       some [(IntKind.u8.wrap (shrI .i64 x 16)), (IntKind.u8.wrap (shrI .i64 x 8)), (IntKind.u8.wrap (shrI .i64 x 0))]
     else
      some [(IntKind.u8.wrap (shrI .i64 x 16)), (IntKind.u8.wrap (shrI .i64 x 8)), (IntKind.u8.wrap (shrI .i64 x 0))]
    else
     some [(IntKind.u8.wrap (shrI .i64 x 8)), (IntKind.u8.wrap (shrI .i64 x 0))]
   else
    some [(IntKind.u8.wrap (shrI .i64 x 8)), (IntKind.u8.wrap (shrI .i64 x 0))]
  else
   some [(IntKind.u8.wrap (shrI .i64 x 0))]
 else
  some [(IntKind.u8.wrap (shrI .i64 x 0))]
theorem intC_ok : ∀ (x : Int) (r : (List Int)), intC x = some r → ∀ W0 : World, PTo Tryz.prog W0 82 #[.int .i64 x] (.returned (ls 1 false (encI .u8) r)) := by
 intro x r h
 unfold intC at h
 intro W0
 refine PTo.of_body (fn := Tryz.f82) (code := cB Tryz.f82) Tryz.func82 rfl rfl ?_
 intro w0 S hS
 haveI := hS.noEx Tryz.prog
 refine H.sr' 1 ?_
 refine H.sr' 1 ?_
 refine H.seq' ?_
 refine H.blk' 0 ?_
 refine H.lop' ?_
 refine HL.round ?_
 refine H.seq' ?_
 refine H.sg' ?_
 refine HO.go' 10 ?_
 refine HO.bo' (!decide ((shrI .i64 x 7) = 0)) (fun hb => ?_) (fun hb => ?_)
 rotate_left
 ·rw [if_neg (ne_true hb)] at h
  refine HO.fin' 7 ?_
  refine H.cF' ?_
  refine H.ext' 0 ?_
  refine Kseq_exit ?_
  refine Kloop_exit ?_
  refine Kblock_hit ?_
  refine Kseq_norm ?_
  refine H.sr' 3 ?_
  refine H.seq' ?_
  refine H.sr' 3 ?_
  refine H.blk' 2 ?_
  refine H.lop' ?_
  refine HL.round ?_
  refine H.sr' 1 ?_
  refine H.seq' ?_
  refine H.cT' ?_
  refine H.skp' ?_
  refine Kseq_norm ?_
  refine H.seq' ?_
  refine H.blk' 3 ?_
  refine H.sr' 2 ?_
  refine H.reg' ?_
  refine HO.go' 12 ?_
  refine HO.end' ?_
  refine Kblock_norm ?_
  refine Kseq_norm ?_
  refine H.reg' ?_
  refine HO.go' 2 ?_
  refine HO.end' ?_
  refine Kloop_norm ?_
  refine HL.round ?_
  refine H.sr' 1 ?_
  refine H.seq' ?_
  refine H.cF' ?_
  refine H.ext' 2 ?_
  refine Kseq_exit ?_
  refine Kloop_exit ?_
  refine Kblock_hit ?_
  refine Kseq_norm ?_
  refine H.sr' 2 ?_
  refine H.ret' ?_
  obtain rfl := Option.some.inj h
  exact KEnd.of (v := .slice (some ⟨0, 0, none⟩) 1 1) (by kernel_rfl) (by kernel_rfl) (PEnd.frz 0 1 1 1 5 true ([(IntKind.u8.wrap (shrI .i64 x 0))].map (encI .u8)).toArray [.int .u8 (IntKind.u8.wrap (shrI .i64 x 0))] (by kernel_rfl) (PEnd.wk (v1 := ls 1 false (encI .u8) [(IntKind.u8.wrap (shrI .i64 x 0))]) (.list 1 false) (by kernel_rfl) (PEnd.fin (by kernel_rfl))))
 rw [if_pos hb] at h
 refine HO.fin' 7 ?_
 refine H.cS' (!decide ((shrI .i64 x 7) = (-1))) (fun hb => ?_) (fun hb => ?_)
 rotate_left
 ·rw [if_neg (ne_true hb)] at h
  refine H.ext' 0 ?_
  refine Kseq_exit ?_
  refine Kloop_exit ?_
  refine Kblock_hit ?_
  refine Kseq_norm ?_
  refine H.sr' 3 ?_
  refine H.seq' ?_
  refine H.sr' 3 ?_
  refine H.blk' 2 ?_
  refine H.lop' ?_
  refine HL.round ?_
  refine H.sr' 1 ?_
  refine H.seq' ?_
  refine H.cT' ?_
  refine H.skp' ?_
  refine Kseq_norm ?_
  refine H.seq' ?_
  refine H.blk' 3 ?_
  refine H.sr' 2 ?_
  refine H.reg' ?_
  refine HO.go' 12 ?_
  refine HO.end' ?_
  refine Kblock_norm ?_
  refine Kseq_norm ?_
  refine H.reg' ?_
  refine HO.go' 2 ?_
  refine HO.end' ?_
  refine Kloop_norm ?_
  refine HL.round ?_
  refine H.sr' 1 ?_
  refine H.seq' ?_
  refine H.cF' ?_
  refine H.ext' 2 ?_
  refine Kseq_exit ?_
  refine Kloop_exit ?_
  refine Kblock_hit ?_
  refine Kseq_norm ?_
  refine H.sr' 2 ?_
  refine H.ret' ?_
  obtain rfl := Option.some.inj h
  exact KEnd.of (v := .slice (some ⟨0, 0, none⟩) 1 1) (by kernel_rfl) (by kernel_rfl) (PEnd.frz 0 1 1 1 5 true ([(IntKind.u8.wrap (shrI .i64 x 0))].map (encI .u8)).toArray [.int .u8 (IntKind.u8.wrap (shrI .i64 x 0))] (by kernel_rfl) (PEnd.wk (v1 := ls 1 false (encI .u8) [(IntKind.u8.wrap (shrI .i64 x 0))]) (.list 1 false) (by kernel_rfl) (PEnd.fin (by kernel_rfl))))
 rw [if_pos hb] at h
 refine H.skp' ?_
 refine Kseq_norm ?_
 refine H.blk' 1 ?_
 refine H.reg' ?_
 refine HO.go' 3 ?_
 refine HO.end' ?_
 refine Kblock_norm ?_
 refine Kloop_norm ?_
 refine HL.round ?_
 refine H.seq' ?_
 refine H.sg' ?_
 refine HO.go' 10 ?_
 refine HO.bo' (!decide ((shrI .i64 x 15) = 0)) (fun hb => ?_) (fun hb => ?_)
 rotate_left
 ·rw [if_neg (ne_true hb)] at h
  refine HO.fin' 7 ?_
  refine H.cF' ?_
  refine H.ext' 0 ?_
  refine Kseq_exit ?_
  refine Kloop_exit ?_
  refine Kblock_hit ?_
  refine Kseq_norm ?_
  refine H.sr' 3 ?_
  refine H.seq' ?_
  refine H.sr' 3 ?_
  refine H.blk' 2 ?_
  refine H.lop' ?_
  refine HL.round ?_
  refine H.sr' 1 ?_
  refine H.seq' ?_
  refine H.cT' ?_
  refine H.skp' ?_
  refine Kseq_norm ?_
  refine H.seq' ?_
  refine H.blk' 3 ?_
  refine H.sr' 2 ?_
  refine H.reg' ?_
  refine HO.go' 12 ?_
  refine HO.end' ?_
  refine Kblock_norm ?_
  refine Kseq_norm ?_
  refine H.reg' ?_
  refine HO.go' 2 ?_
  refine HO.end' ?_
  refine Kloop_norm ?_
  refine HL.round ?_
  refine H.sr' 1 ?_
  refine H.seq' ?_
  refine H.cT' ?_
  refine H.skp' ?_
  refine Kseq_norm ?_
  refine H.seq' ?_
  refine H.blk' 3 ?_
  refine H.sr' 2 ?_
  refine H.reg' ?_
  refine HO.go' 12 ?_
  refine HO.end' ?_
  refine Kblock_norm ?_
  refine Kseq_norm ?_
  refine H.reg' ?_
  refine HO.go' 2 ?_
  refine HO.end' ?_
  refine Kloop_norm ?_
  refine HL.round ?_
  refine H.sr' 1 ?_
  refine H.seq' ?_
  refine H.cF' ?_
  refine H.ext' 2 ?_
  refine Kseq_exit ?_
  refine Kloop_exit ?_
  refine Kblock_hit ?_
  refine Kseq_norm ?_
  refine H.sr' 2 ?_
  refine H.ret' ?_
  obtain rfl := Option.some.inj h
  exact KEnd.of (v := .slice (some ⟨0, 0, none⟩) 2 2) (by kernel_rfl) (by kernel_rfl) (PEnd.frz 0 2 2 1 5 true ([(IntKind.u8.wrap (shrI .i64 x 8)), (IntKind.u8.wrap (shrI .i64 x 0))].map (encI .u8)).toArray [.int .u8 (IntKind.u8.wrap (shrI .i64 x 8)), .int .u8 (IntKind.u8.wrap (shrI .i64 x 0))] (by kernel_rfl) (PEnd.wk (v1 := ls 1 false (encI .u8) [(IntKind.u8.wrap (shrI .i64 x 8)), (IntKind.u8.wrap (shrI .i64 x 0))]) (.list 1 false) (by kernel_rfl) (PEnd.fin (by kernel_rfl))))
 rw [if_pos hb] at h
 refine HO.fin' 7 ?_
 refine H.cS' (!decide ((shrI .i64 x 15) = (-1))) (fun hb => ?_) (fun hb => ?_)
 rotate_left
 ·rw [if_neg (ne_true hb)] at h
  refine H.ext' 0 ?_
  refine Kseq_exit ?_
  refine Kloop_exit ?_
  refine Kblock_hit ?_
  refine Kseq_norm ?_
  refine H.sr' 3 ?_
  refine H.seq' ?_
  refine H.sr' 3 ?_
  refine H.blk' 2 ?_
  refine H.lop' ?_
  refine HL.round ?_
  refine H.sr' 1 ?_
  refine H.seq' ?_
  refine H.cT' ?_
  refine H.skp' ?_
  refine Kseq_norm ?_
  refine H.seq' ?_
  refine H.blk' 3 ?_
  refine H.sr' 2 ?_
  refine H.reg' ?_
  refine HO.go' 12 ?_
  refine HO.end' ?_
  refine Kblock_norm ?_
  refine Kseq_norm ?_
  refine H.reg' ?_
  refine HO.go' 2 ?_
  refine HO.end' ?_
  refine Kloop_norm ?_
  refine HL.round ?_
  refine H.sr' 1 ?_
  refine H.seq' ?_
  refine H.cT' ?_
  refine H.skp' ?_
  refine Kseq_norm ?_
  refine H.seq' ?_
  refine H.blk' 3 ?_
  refine H.sr' 2 ?_
  refine H.reg' ?_
  refine HO.go' 12 ?_
  refine HO.end' ?_
  refine Kblock_norm ?_
  refine Kseq_norm ?_
  refine H.reg' ?_
  refine HO.go' 2 ?_
  refine HO.end' ?_
  refine Kloop_norm ?_
  refine HL.round ?_
  refine H.sr' 1 ?_
  refine H.seq' ?_
  refine H.cF' ?_
  refine H.ext' 2 ?_
  refine Kseq_exit ?_
  refine Kloop_exit ?_
  refine Kblock_hit ?_
  refine Kseq_norm ?_
  refine H.sr' 2 ?_
  refine H.ret' ?_
  obtain rfl := Option.some.inj h
  exact KEnd.of (v := .slice (some ⟨0, 0, none⟩) 2 2) (by kernel_rfl) (by kernel_rfl) (PEnd.frz 0 2 2 1 5 true ([(IntKind.u8.wrap (shrI .i64 x 8)), (IntKind.u8.wrap (shrI .i64 x 0))].map (encI .u8)).toArray [.int .u8 (IntKind.u8.wrap (shrI .i64 x 8)), .int .u8 (IntKind.u8.wrap (shrI .i64 x 0))] (by kernel_rfl) (PEnd.wk (v1 := ls 1 false (encI .u8) [(IntKind.u8.wrap (shrI .i64 x 8)), (IntKind.u8.wrap (shrI .i64 x 0))]) (.list 1 false) (by kernel_rfl) (PEnd.fin (by kernel_rfl))))
 rw [if_pos hb] at h
 refine H.skp' ?_
 refine Kseq_norm ?_
 refine H.blk' 1 ?_
 refine H.reg' ?_
 refine HO.go' 3 ?_
 refine HO.end' ?_
 refine Kblock_norm ?_
 refine Kloop_norm ?_
 refine HL.round ?_
 refine H.seq' ?_
 refine H.sg' ?_
 refine HO.go' 10 ?_
 refine HO.bo' (!decide ((shrI .i64 x 23) = 0)) (fun hb => ?_) (fun hb => ?_)
 rotate_left
 ·rw [if_neg (ne_true hb)] at h
  refine HO.fin' 7 ?_
  refine H.cF' ?_
  refine H.ext' 0 ?_
  refine Kseq_exit ?_
  refine Kloop_exit ?_
  refine Kblock_hit ?_
  refine Kseq_norm ?_
  refine H.sr' 3 ?_
  refine H.seq' ?_
  refine H.sr' 3 ?_
  refine H.blk' 2 ?_
  refine H.lop' ?_
  refine HL.round ?_
  refine H.sr' 1 ?_
  refine H.seq' ?_
  refine H.cT' ?_
  refine H.skp' ?_
  refine Kseq_norm ?_
  refine H.seq' ?_
  refine H.blk' 3 ?_
  refine H.sr' 2 ?_
  refine H.reg' ?_
  refine HO.go' 12 ?_
  refine HO.end' ?_
  refine Kblock_norm ?_
  refine Kseq_norm ?_
  refine H.reg' ?_
  refine HO.go' 2 ?_
  refine HO.end' ?_
  refine Kloop_norm ?_
  refine HL.round ?_
  refine H.sr' 1 ?_
  refine H.seq' ?_
  refine H.cT' ?_
  refine H.skp' ?_
  refine Kseq_norm ?_
  refine H.seq' ?_
  refine H.blk' 3 ?_
  refine H.sr' 2 ?_
  refine H.reg' ?_
  refine HO.go' 12 ?_
  refine HO.end' ?_
  refine Kblock_norm ?_
  refine Kseq_norm ?_
  refine H.reg' ?_
  refine HO.go' 2 ?_
  refine HO.end' ?_
  refine Kloop_norm ?_
  refine HL.round ?_
  refine H.sr' 1 ?_
  refine H.seq' ?_
  refine H.cT' ?_
  refine H.skp' ?_
  refine Kseq_norm ?_
  refine H.seq' ?_
  refine H.blk' 3 ?_
  refine H.sr' 2 ?_
  refine H.reg' ?_
  refine HO.go' 12 ?_
  refine HO.end' ?_
  refine Kblock_norm ?_
  refine Kseq_norm ?_
  refine H.reg' ?_
  refine HO.go' 2 ?_
  refine HO.end' ?_
  refine Kloop_norm ?_
  refine HL.round ?_
  refine H.sr' 1 ?_
  refine H.seq' ?_
  refine H.cF' ?_
  refine H.ext' 2 ?_
  refine Kseq_exit ?_
  refine Kloop_exit ?_
  refine Kblock_hit ?_
  refine Kseq_norm ?_
  refine H.sr' 2 ?_
  refine H.ret' ?_
  obtain rfl := Option.some.inj h
  exact KEnd.of (v := .slice (some ⟨0, 0, none⟩) 3 3) (by kernel_rfl) (by kernel_rfl) (PEnd.frz 0 3 3 1 5 true ([(IntKind.u8.wrap (shrI .i64 x 16)), (IntKind.u8.wrap (shrI .i64 x 8)), (IntKind.u8.wrap (shrI .i64 x 0))].map (encI .u8)).toArray [.int .u8 (IntKind.u8.wrap (shrI .i64 x 16)), .int .u8 (IntKind.u8.wrap (shrI .i64 x 8)), .int .u8 (IntKind.u8.wrap (shrI .i64 x 0))] (by kernel_rfl) (PEnd.wk (v1 := ls 1 false (encI .u8) [(IntKind.u8.wrap (shrI .i64 x 16)), (IntKind.u8.wrap (shrI .i64 x 8)), (IntKind.u8.wrap (shrI .i64 x 0))]) (.list 1 false) (by kernel_rfl) (PEnd.fin (by kernel_rfl))))
 rw [if_pos hb] at h
 refine HO.fin' 7 ?_
 refine H.cS' (!decide ((shrI .i64 x 23) = (-1))) (fun hb => ?_) (fun hb => ?_)
 rotate_left
 ·rw [if_neg (ne_true hb)] at h
  refine H.ext' 0 ?_
  refine Kseq_exit ?_
  refine Kloop_exit ?_
  refine Kblock_hit ?_
  refine Kseq_norm ?_
  refine H.sr' 3 ?_
  refine H.seq' ?_
  refine H.sr' 3 ?_
  refine H.blk' 2 ?_
  refine H.lop' ?_
  refine HL.round ?_
  refine H.sr' 1 ?_
  refine H.seq' ?_
  refine H.cT' ?_
  refine H.skp' ?_
  refine Kseq_norm ?_
  refine H.seq' ?_
  refine H.blk' 3 ?_
  refine H.sr' 2 ?_
  refine H.reg' ?_
  refine HO.go' 12 ?_
  refine HO.end' ?_
  refine Kblock_norm ?_
  refine Kseq_norm ?_
  refine H.reg' ?_
  refine HO.go' 2 ?_
  refine HO.end' ?_
  refine Kloop_norm ?_
  refine HL.round ?_
  refine H.sr' 1 ?_
  refine H.seq' ?_
  refine H.cT' ?_
  refine H.skp' ?_
  refine Kseq_norm ?_
  refine H.seq' ?_
  refine H.blk' 3 ?_
  refine H.sr' 2 ?_
  refine H.reg' ?_
  refine HO.go' 12 ?_
  refine HO.end' ?_
  refine Kblock_norm ?_
  refine Kseq_norm ?_
  refine H.reg' ?_
  refine HO.go' 2 ?_
  refine HO.end' ?_
  refine Kloop_norm ?_
  refine HL.round ?_
  refine H.sr' 1 ?_
  refine H.seq' ?_
  refine H.cT' ?_
  refine H.skp' ?_
  refine Kseq_norm ?_
  refine H.seq' ?_
  refine H.blk' 3 ?_
  refine H.sr' 2 ?_
  refine H.reg' ?_
  refine HO.go' 12 ?_
  refine HO.end' ?_
  refine Kblock_norm ?_
  refine Kseq_norm ?_
  refine H.reg' ?_
  refine HO.go' 2 ?_
  refine HO.end' ?_
  refine Kloop_norm ?_
  refine HL.round ?_
  refine H.sr' 1 ?_
  refine H.seq' ?_
  refine H.cF' ?_
  refine H.ext' 2 ?_
  refine Kseq_exit ?_
  refine Kloop_exit ?_
  refine Kblock_hit ?_
  refine Kseq_norm ?_
  refine H.sr' 2 ?_
  refine H.ret' ?_
  obtain rfl := Option.some.inj h
  exact KEnd.of (v := .slice (some ⟨0, 0, none⟩) 3 3) (by kernel_rfl) (by kernel_rfl) (PEnd.frz 0 3 3 1 5 true ([(IntKind.u8.wrap (shrI .i64 x 16)), (IntKind.u8.wrap (shrI .i64 x 8)), (IntKind.u8.wrap (shrI .i64 x 0))].map (encI .u8)).toArray [.int .u8 (IntKind.u8.wrap (shrI .i64 x 16)), .int .u8 (IntKind.u8.wrap (shrI .i64 x 8)), .int .u8 (IntKind.u8.wrap (shrI .i64 x 0))] (by kernel_rfl) (PEnd.wk (v1 := ls 1 false (encI .u8) [(IntKind.u8.wrap (shrI .i64 x 16)), (IntKind.u8.wrap (shrI .i64 x 8)), (IntKind.u8.wrap (shrI .i64 x 0))]) (.list 1 false) (by kernel_rfl) (PEnd.fin (by kernel_rfl))))
 rw [if_pos hb] at h
 refine H.skp' ?_
 refine Kseq_norm ?_
 refine H.blk' 1 ?_
 refine H.reg' ?_
 refine HO.go' 3 ?_
 refine HO.end' ?_
 refine Kblock_norm ?_
 refine Kloop_norm ?_
 refine HL.round ?_
 refine H.seq' ?_
 refine H.sg' ?_
 refine HO.go' 10 ?_
 refine HO.bo' (!decide ((shrI .i64 x 31) = 0)) (fun hb => ?_) (fun hb => ?_)
 rotate_left
 ·rw [if_neg (ne_true hb)] at h
  refine HO.fin' 7 ?_
  refine H.cF' ?_
  refine H.ext' 0 ?_
  refine Kseq_exit ?_
  refine Kloop_exit ?_
  refine Kblock_hit ?_
  refine Kseq_norm ?_
  refine H.sr' 3 ?_
  refine H.seq' ?_
  refine H.sr' 3 ?_
  refine H.blk' 2 ?_
  refine H.lop' ?_
  refine HL.round ?_
  refine H.sr' 1 ?_
  refine H.seq' ?_
  refine H.cT' ?_
  refine H.skp' ?_
  refine Kseq_norm ?_
  refine H.seq' ?_
  refine H.blk' 3 ?_
  refine H.sr' 2 ?_
  refine H.reg' ?_
  refine HO.go' 12 ?_
  refine HO.end' ?_
  refine Kblock_norm ?_
  refine Kseq_norm ?_
  refine H.reg' ?_
  refine HO.go' 2 ?_
  refine HO.end' ?_
  refine Kloop_norm ?_
  refine HL.round ?_
  refine H.sr' 1 ?_
  refine H.seq' ?_
  refine H.cT' ?_
  refine H.skp' ?_
  refine Kseq_norm ?_
  refine H.seq' ?_
  refine H.blk' 3 ?_
  refine H.sr' 2 ?_
  refine H.reg' ?_
  refine HO.go' 12 ?_
  refine HO.end' ?_
  refine Kblock_norm ?_
  refine Kseq_norm ?_
  refine H.reg' ?_
  refine HO.go' 2 ?_
  refine HO.end' ?_
  refine Kloop_norm ?_
  refine HL.round ?_
  refine H.sr' 1 ?_
  refine H.seq' ?_
  refine H.cT' ?_
  refine H.skp' ?_
  refine Kseq_norm ?_
  refine H.seq' ?_
  refine H.blk' 3 ?_
  refine H.sr' 2 ?_
  refine H.reg' ?_
  refine HO.go' 12 ?_
  refine HO.end' ?_
  refine Kblock_norm ?_
  refine Kseq_norm ?_
  refine H.reg' ?_
  refine HO.go' 2 ?_
  refine HO.end' ?_
  refine Kloop_norm ?_
  refine HL.round ?_
  refine H.sr' 1 ?_
  refine H.seq' ?_
  refine H.cT' ?_
  refine H.skp' ?_
  refine Kseq_norm ?_
  refine H.seq' ?_
  refine H.blk' 3 ?_
  refine H.sr' 2 ?_
  refine H.reg' ?_
  refine HO.go' 12 ?_
  refine HO.end' ?_
  refine Kblock_norm ?_
  refine Kseq_norm ?_
  refine H.reg' ?_
  refine HO.go' 2 ?_
  refine HO.end' ?_
  refine Kloop_norm ?_
  refine HL.round ?_
  refine H.sr' 1 ?_
  refine H.seq' ?_
  refine H.cF' ?_
  refine H.ext' 2 ?_
  refine Kseq_exit ?_
  refine Kloop_exit ?_
  refine Kblock_hit ?_
  refine Kseq_norm ?_
  refine H.sr' 2 ?_
  refine H.ret' ?_
  obtain rfl := Option.some.inj h
  exact KEnd.of (v := .slice (some ⟨0, 0, none⟩) 4 4) (by kernel_rfl) (by kernel_rfl) (PEnd.frz 0 4 4 1 5 true ([(IntKind.u8.wrap (shrI .i64 x 24)), (IntKind.u8.wrap (shrI .i64 x 16)), (IntKind.u8.wrap (shrI .i64 x 8)), (IntKind.u8.wrap (shrI .i64 x 0))].map (encI .u8)).toArray [.int .u8 (IntKind.u8.wrap (shrI .i64 x 24)), .int .u8 (IntKind.u8.wrap (shrI .i64 x 16)), .int .u8 (IntKind.u8.wrap (shrI .i64 x 8)), .int .u8 (IntKind.u8.wrap (shrI .i64 x 0))] (by kernel_rfl) (PEnd.wk (v1 := ls 1 false (encI .u8) [(IntKind.u8.wrap (shrI .i64 x 24)), (IntKind.u8.wrap (shrI .i64 x 16)), (IntKind.u8.wrap (shrI .i64 x 8)), (IntKind.u8.wrap (shrI .i64 x 0))]) (.list 1 false) (by kernel_rfl) (PEnd.fin (by kernel_rfl))))
 rw [if_pos hb] at h
 refine HO.fin' 7 ?_
 refine H.cS' (!decide ((shrI .i64 x 31) = (-1))) (fun hb => ?_) (fun hb => ?_)
 rotate_left
 ·rw [if_neg (ne_true hb)] at h
  refine H.ext' 0 ?_
  refine Kseq_exit ?_
  refine Kloop_exit ?_
  refine Kblock_hit ?_
  refine Kseq_norm ?_
  refine H.sr' 3 ?_
  refine H.seq' ?_
  refine H.sr' 3 ?_
  refine H.blk' 2 ?_
  refine H.lop' ?_
  refine HL.round ?_
  refine H.sr' 1 ?_
  refine H.seq' ?_
  refine H.cT' ?_
  refine H.skp' ?_
  refine Kseq_norm ?_
  refine H.seq' ?_
  refine H.blk' 3 ?_
  refine H.sr' 2 ?_
  refine H.reg' ?_
  refine HO.go' 12 ?_
  refine HO.end' ?_
  refine Kblock_norm ?_
  refine Kseq_norm ?_
  refine H.reg' ?_
  refine HO.go' 2 ?_
  refine HO.end' ?_
  refine Kloop_norm ?_
  refine HL.round ?_
  refine H.sr' 1 ?_
  refine H.seq' ?_
  refine H.cT' ?_
  refine H.skp' ?_
  refine Kseq_norm ?_
  refine H.seq' ?_
  refine H.blk' 3 ?_
  refine H.sr' 2 ?_
  refine H.reg' ?_
  refine HO.go' 12 ?_
  refine HO.end' ?_
  refine Kblock_norm ?_
  refine Kseq_norm ?_
  refine H.reg' ?_
  refine HO.go' 2 ?_
  refine HO.end' ?_
  refine Kloop_norm ?_
  refine HL.round ?_
  refine H.sr' 1 ?_
  refine H.seq' ?_
  refine H.cT' ?_
  refine H.skp' ?_
  refine Kseq_norm ?_
  refine H.seq' ?_
  refine H.blk' 3 ?_
  refine H.sr' 2 ?_
  refine H.reg' ?_
  refine HO.go' 12 ?_
  refine HO.end' ?_
  refine Kblock_norm ?_
  refine Kseq_norm ?_
  refine H.reg' ?_
  refine HO.go' 2 ?_
  refine HO.end' ?_
  refine Kloop_norm ?_
  refine HL.round ?_
  refine H.sr' 1 ?_
  refine H.seq' ?_
  refine H.cT' ?_
  refine H.skp' ?_
  refine Kseq_norm ?_
  refine H.seq' ?_
  refine H.blk' 3 ?_
  refine H.sr' 2 ?_
  refine H.reg' ?_
  refine HO.go' 12 ?_
  refine HO.end' ?_
  refine Kblock_norm ?_
  refine Kseq_norm ?_
  refine H.reg' ?_
  refine HO.go' 2 ?_
  refine HO.end' ?_
  refine Kloop_norm ?_
  refine HL.round ?_
  refine H.sr' 1 ?_
  refine H.seq' ?_
  refine H.cF' ?_
  refine H.ext' 2 ?_
  refine Kseq_exit ?_
  refine Kloop_exit ?_
  refine Kblock_hit ?_
  refine Kseq_norm ?_
  refine H.sr' 2 ?_
  refine H.ret' ?_
  obtain rfl := Option.some.inj h
  exact KEnd.of (v := .slice (some ⟨0, 0, none⟩) 4 4) (by kernel_rfl) (by kernel_rfl) (PEnd.frz 0 4 4 1 5 true ([(IntKind.u8.wrap (shrI .i64 x 24)), (IntKind.u8.wrap (shrI .i64 x 16)), (IntKind.u8.wrap (shrI .i64 x 8)), (IntKind.u8.wrap (shrI .i64 x 0))].map (encI .u8)).toArray [.int .u8 (IntKind.u8.wrap (shrI .i64 x 24)), .int .u8 (IntKind.u8.wrap (shrI .i64 x 16)), .int .u8 (IntKind.u8.wrap (shrI .i64 x 8)), .int .u8 (IntKind.u8.wrap (shrI .i64 x 0))] (by kernel_rfl) (PEnd.wk (v1 := ls 1 false (encI .u8) [(IntKind.u8.wrap (shrI .i64 x 24)), (IntKind.u8.wrap (shrI .i64 x 16)), (IntKind.u8.wrap (shrI .i64 x 8)), (IntKind.u8.wrap (shrI .i64 x 0))]) (.list 1 false) (by kernel_rfl) (PEnd.fin (by kernel_rfl))))
 rw [if_pos hb] at h
 refine H.skp' ?_
 refine Kseq_norm ?_
 refine H.blk' 1 ?_
 refine H.reg' ?_
 refine HO.go' 3 ?_
 refine HO.end' ?_
 refine Kblock_norm ?_
 refine Kloop_norm ?_
 refine HL.round ?_
 refine H.seq' ?_
 refine H.sg' ?_
 refine HO.go' 10 ?_
 refine HO.bo' (!decide ((shrI .i64 x 39) = 0)) (fun hb => ?_) (fun hb => ?_)
 rotate_left
 ·rw [if_neg (ne_true hb)] at h
  refine HO.fin' 7 ?_
  refine H.cF' ?_
  refine H.ext' 0 ?_
  refine Kseq_exit ?_
  refine Kloop_exit ?_
  refine Kblock_hit ?_
  refine Kseq_norm ?_
  refine H.sr' 3 ?_
  refine H.seq' ?_
  refine H.sr' 3 ?_
  refine H.blk' 2 ?_
  refine H.lop' ?_
  refine HL.round ?_
  refine H.sr' 1 ?_
  refine H.seq' ?_
  refine H.cT' ?_
  refine H.skp' ?_
  refine Kseq_norm ?_
  refine H.seq' ?_
  refine H.blk' 3 ?_
  refine H.sr' 2 ?_
  refine H.reg' ?_
  refine HO.go' 12 ?_
  refine HO.end' ?_
  refine Kblock_norm ?_
  refine Kseq_norm ?_
  refine H.reg' ?_
  refine HO.go' 2 ?_
  refine HO.end' ?_
  refine Kloop_norm ?_
  refine HL.round ?_
  refine H.sr' 1 ?_
  refine H.seq' ?_
  refine H.cT' ?_
  refine H.skp' ?_
  refine Kseq_norm ?_
  refine H.seq' ?_
  refine H.blk' 3 ?_
  refine H.sr' 2 ?_
  refine H.reg' ?_
  refine HO.go' 12 ?_
  refine HO.end' ?_
  refine Kblock_norm ?_
  refine Kseq_norm ?_
  refine H.reg' ?_
  refine HO.go' 2 ?_
  refine HO.end' ?_
  refine Kloop_norm ?_
  refine HL.round ?_
  refine H.sr' 1 ?_
  refine H.seq' ?_
  refine H.cT' ?_
  refine H.skp' ?_
  refine Kseq_norm ?_
  refine H.seq' ?_
  refine H.blk' 3 ?_
  refine H.sr' 2 ?_
  refine H.reg' ?_
  refine HO.go' 12 ?_
  refine HO.end' ?_
  refine Kblock_norm ?_
  refine Kseq_norm ?_
  refine H.reg' ?_
  refine HO.go' 2 ?_
  refine HO.end' ?_
  refine Kloop_norm ?_
  refine HL.round ?_
  refine H.sr' 1 ?_
  refine H.seq' ?_
  refine H.cT' ?_
  refine H.skp' ?_
  refine Kseq_norm ?_
  refine H.seq' ?_
  refine H.blk' 3 ?_
  refine H.sr' 2 ?_
  refine H.reg' ?_
  refine HO.go' 12 ?_
  refine HO.end' ?_
  refine Kblock_norm ?_
  refine Kseq_norm ?_
  refine H.reg' ?_
  refine HO.go' 2 ?_
  refine HO.end' ?_
  refine Kloop_norm ?_
  refine HL.round ?_
  refine H.sr' 1 ?_
  refine H.seq' ?_
  refine H.cT' ?_
  refine H.skp' ?_
  refine Kseq_norm ?_
  refine H.seq' ?_
  refine H.blk' 3 ?_
  refine H.sr' 2 ?_
  refine H.reg' ?_
  refine HO.go' 12 ?_
  refine HO.end' ?_
  refine Kblock_norm ?_
  refine Kseq_norm ?_
  refine H.reg' ?_
  refine HO.go' 2 ?_
  refine HO.end' ?_
  refine Kloop_norm ?_
  refine HL.round ?_
  refine H.sr' 1 ?_
  refine H.seq' ?_
  refine H.cF' ?_
  refine H.ext' 2 ?_
  refine Kseq_exit ?_
  refine Kloop_exit ?_
  refine Kblock_hit ?_
  refine Kseq_norm ?_
  refine H.sr' 2 ?_
  refine H.ret' ?_
  obtain rfl := Option.some.inj h
  exact KEnd.of (v := .slice (some ⟨0, 0, none⟩) 5 5) (by kernel_rfl) (by kernel_rfl) (PEnd.frz 0 5 5 1 5 true ([(IntKind.u8.wrap (shrI .i64 x 32)), (IntKind.u8.wrap (shrI .i64 x 24)), (IntKind.u8.wrap (shrI .i64 x 16)), (IntKind.u8.wrap (shrI .i64 x 8)), (IntKind.u8.wrap (shrI .i64 x 0))].map (encI .u8)).toArray [.int .u8 (IntKind.u8.wrap (shrI .i64 x 32)), .int .u8 (IntKind.u8.wrap (shrI .i64 x 24)), .int .u8 (IntKind.u8.wrap (shrI .i64 x 16)), .int .u8 (IntKind.u8.wrap (shrI .i64 x 8)), .int .u8 (IntKind.u8.wrap (shrI .i64 x 0))] (by kernel_rfl) (PEnd.wk (v1 := ls 1 false (encI .u8) [(IntKind.u8.wrap (shrI .i64 x 32)), (IntKind.u8.wrap (shrI .i64 x 24)), (IntKind.u8.wrap (shrI .i64 x 16)), (IntKind.u8.wrap (shrI .i64 x 8)), (IntKind.u8.wrap (shrI .i64 x 0))]) (.list 1 false) (by kernel_rfl) (PEnd.fin (by kernel_rfl))))
 rw [if_pos hb] at h
 refine HO.fin' 7 ?_
 refine H.cS' (!decide ((shrI .i64 x 39) = (-1))) (fun hb => ?_) (fun hb => ?_)
 rotate_left
 ·rw [if_neg (ne_true hb)] at h
  refine H.ext' 0 ?_
  refine Kseq_exit ?_
  refine Kloop_exit ?_
  refine Kblock_hit ?_
  refine Kseq_norm ?_
  refine H.sr' 3 ?_
  refine H.seq' ?_
  refine H.sr' 3 ?_
  refine H.blk' 2 ?_
  refine H.lop' ?_
  refine HL.round ?_
  refine H.sr' 1 ?_
  refine H.seq' ?_
  refine H.cT' ?_
  refine H.skp' ?_
  refine Kseq_norm ?_
  refine H.seq' ?_
  refine H.blk' 3 ?_
  refine H.sr' 2 ?_
  refine H.reg' ?_
  refine HO.go' 12 ?_
  refine HO.end' ?_
  refine Kblock_norm ?_
  refine Kseq_norm ?_
  refine H.reg' ?_
  refine HO.go' 2 ?_
  refine HO.end' ?_
  refine Kloop_norm ?_
  refine HL.round ?_
  refine H.sr' 1 ?_
  refine H.seq' ?_
  refine H.cT' ?_
  refine H.skp' ?_
  refine Kseq_norm ?_
  refine H.seq' ?_
  refine H.blk' 3 ?_
  refine H.sr' 2 ?_
  refine H.reg' ?_
  refine HO.go' 12 ?_
  refine HO.end' ?_
  refine Kblock_norm ?_
  refine Kseq_norm ?_
  refine H.reg' ?_
  refine HO.go' 2 ?_
  refine HO.end' ?_
  refine Kloop_norm ?_
  refine HL.round ?_
  refine H.sr' 1 ?_
  refine H.seq' ?_
  refine H.cT' ?_
  refine H.skp' ?_
  refine Kseq_norm ?_
  refine H.seq' ?_
  refine H.blk' 3 ?_
  refine H.sr' 2 ?_
  refine H.reg' ?_
  refine HO.go' 12 ?_
  refine HO.end' ?_
  refine Kblock_norm ?_
  refine Kseq_norm ?_
  refine H.reg' ?_
  refine HO.go' 2 ?_
  refine HO.end' ?_
  refine Kloop_norm ?_
  refine HL.round ?_
  refine H.sr' 1 ?_
  refine H.seq' ?_
  refine H.cT' ?_
  refine H.skp' ?_
  refine Kseq_norm ?_
  refine H.seq' ?_
  refine H.blk' 3 ?_
  refine H.sr' 2 ?_
  refine H.reg' ?_
  refine HO.go' 12 ?_
  refine HO.end' ?_
  refine Kblock_norm ?_
  refine Kseq_norm ?_
  refine H.reg' ?_
  refine HO.go' 2 ?_
  refine HO.end' ?_
  refine Kloop_norm ?_
  refine HL.round ?_
  refine H.sr' 1 ?_
  refine H.seq' ?_
  refine H.cT' ?_
  refine H.skp' ?_
  refine Kseq_norm ?_
  refine H.seq' ?_
  refine H.blk' 3 ?_
  refine H.sr' 2 ?_
  refine H.reg' ?_
  refine HO.go' 12 ?_
  refine HO.end' ?_
  refine Kblock_norm ?_
  refine Kseq_norm ?_
  refine H.reg' ?_
  refine HO.go' 2 ?_
  refine HO.end' ?_
  refine Kloop_norm ?_
  refine HL.round ?_
  refine H.sr' 1 ?_
  refine H.seq' ?_
  refine H.cF' ?_
  refine H.ext' 2 ?_
  refine Kseq_exit ?_
  refine Kloop_exit ?_
  refine Kblock_hit ?_
  refine Kseq_norm ?_
  refine H.sr' 2 ?_
  refine H.ret' ?_
  obtain rfl := Option.some.inj h
  exact KEnd.of (v := .slice (some ⟨0, 0, none⟩) 5 5) (by kernel_rfl) (by kernel_rfl) (PEnd.frz 0 5 5 1 5 true ([(IntKind.u8.wrap (shrI .i64 x 32)), (IntKind.u8.wrap (shrI .i64 x 24)), (IntKind.u8.wrap (shrI .i64 x 16)), (IntKind.u8.wrap (shrI .i64 x 8)), (IntKind.u8.wrap (shrI .i64 x 0))].map (encI .u8)).toArray [.int .u8 (IntKind.u8.wrap (shrI .i64 x 32)), .int .u8 (IntKind.u8.wrap (shrI .i64 x 24)), .int .u8 (IntKind.u8.wrap (shrI .i64 x 16)), .int .u8 (IntKind.u8.wrap (shrI .i64 x 8)), .int .u8 (IntKind.u8.wrap (shrI .i64 x 0))] (by kernel_rfl) (PEnd.wk (v1 := ls 1 false (encI .u8) [(IntKind.u8.wrap (shrI .i64 x 32)), (IntKind.u8.wrap (shrI .i64 x 24)), (IntKind.u8.wrap (shrI .i64 x 16)), (IntKind.u8.wrap (shrI .i64 x 8)), (IntKind.u8.wrap (shrI .i64 x 0))]) (.list 1 false) (by kernel_rfl) (PEnd.fin (by kernel_rfl))))
 rw [if_pos hb] at h
 refine H.skp' ?_
 refine Kseq_norm ?_
 refine H.blk' 1 ?_
 refine H.reg' ?_
 refine HO.go' 3 ?_
 refine HO.end' ?_
 refine Kblock_norm ?_
 refine Kloop_norm ?_
 refine HL.round ?_
 refine H.seq' ?_
 refine H.sg' ?_
 refine HO.go' 10 ?_
 refine HO.bo' (!decide ((shrI .i64 x 47) = 0)) (fun hb => ?_) (fun hb => ?_)
 rotate_left
 ·rw [if_neg (ne_true hb)] at h
  refine HO.fin' 7 ?_
  refine H.cF' ?_
  refine H.ext' 0 ?_
  refine Kseq_exit ?_
  refine Kloop_exit ?_
  refine Kblock_hit ?_
  refine Kseq_norm ?_
  refine H.sr' 3 ?_
  refine H.seq' ?_
  refine H.sr' 3 ?_
  refine H.blk' 2 ?_
  refine H.lop' ?_
  refine HL.round ?_
  refine H.sr' 1 ?_
  refine H.seq' ?_
  refine H.cT' ?_
  refine H.skp' ?_
  refine Kseq_norm ?_
  refine H.seq' ?_
  refine H.blk' 3 ?_
  refine H.sr' 2 ?_
  refine H.reg' ?_
  refine HO.go' 12 ?_
  refine HO.end' ?_
  refine Kblock_norm ?_
  refine Kseq_norm ?_
  refine H.reg' ?_
  refine HO.go' 2 ?_
  refine HO.end' ?_
  refine Kloop_norm ?_
  refine HL.round ?_
  refine H.sr' 1 ?_
  refine H.seq' ?_
  refine H.cT' ?_
  refine H.skp' ?_
  refine Kseq_norm ?_
  refine H.seq' ?_
  refine H.blk' 3 ?_
  refine H.sr' 2 ?_
  refine H.reg' ?_
  refine HO.go' 12 ?_
  refine HO.end' ?_
  refine Kblock_norm ?_
  refine Kseq_norm ?_
  refine H.reg' ?_
  refine HO.go' 2 ?_
  refine HO.end' ?_
  refine Kloop_norm ?_
  refine HL.round ?_
  refine H.sr' 1 ?_
  refine H.seq' ?_
  refine H.cT' ?_
  refine H.skp' ?_
  refine Kseq_norm ?_
  refine H.seq' ?_
  refine H.blk' 3 ?_
  refine H.sr' 2 ?_
  refine H.reg' ?_
  refine HO.go' 12 ?_
  refine HO.end' ?_
  refine Kblock_norm ?_
  refine Kseq_norm ?_
  refine H.reg' ?_
  refine HO.go' 2 ?_
  refine HO.end' ?_
  refine Kloop_norm ?_
  refine HL.round ?_
  refine H.sr' 1 ?_
  refine H.seq' ?_
  refine H.cT' ?_
  refine H.skp' ?_
  refine Kseq_norm ?_
  refine H.seq' ?_
  refine H.blk' 3 ?_
  refine H.sr' 2 ?_
  refine H.reg' ?_
  refine HO.go' 12 ?_
  refine HO.end' ?_
  refine Kblock_norm ?_
  refine Kseq_norm ?_
  refine H.reg' ?_
  refine HO.go' 2 ?_
  refine HO.end' ?_
  refine Kloop_norm ?_
  refine HL.round ?_
  refine H.sr' 1 ?_
  refine H.seq' ?_
  refine H.cT' ?_
  refine H.skp' ?_
  refine Kseq_norm ?_
  refine H.seq' ?_
  refine H.blk' 3 ?_
  refine H.sr' 2 ?_
  refine H.reg' ?_
  refine HO.go' 12 ?_
  refine HO.end' ?_
  refine Kblock_norm ?_
  refine Kseq_norm ?_
  refine H.reg' ?_
  refine HO.go' 2 ?_
  refine HO.end' ?_
  refine Kloop_norm ?_
  refine HL.round ?_
  refine H.sr' 1 ?_
  refine H.seq' ?_
  refine H.cT' ?_
  refine H.skp' ?_
  refine Kseq_norm ?_
  refine H.seq' ?_
  refine H.blk' 3 ?_
  refine H.sr' 2 ?_
  refine H.reg' ?_
  refine HO.go' 12 ?_
  refine HO.end' ?_
  refine Kblock_norm ?_
  refine Kseq_norm ?_
  refine H.reg' ?_
  refine HO.go' 2 ?_
  refine HO.end' ?_
  refine Kloop_norm ?_
  refine HL.round ?_
  refine H.sr' 1 ?_
  refine H.seq' ?_
  refine H.cF' ?_
  refine H.ext' 2 ?_
  refine Kseq_exit ?_
  refine Kloop_exit ?_
  refine Kblock_hit ?_
  refine Kseq_norm ?_
  refine H.sr' 2 ?_
  refine H.ret' ?_
  obtain rfl := Option.some.inj h
  exact KEnd.of (v := .slice (some ⟨0, 0, none⟩) 6 6) (by kernel_rfl) (by kernel_rfl) (PEnd.frz 0 6 6 1 5 true ([(IntKind.u8.wrap (shrI .i64 x 40)), (IntKind.u8.wrap (shrI .i64 x 32)), (IntKind.u8.wrap (shrI .i64 x 24)), (IntKind.u8.wrap (shrI .i64 x 16)), (IntKind.u8.wrap (shrI .i64 x 8)), (IntKind.u8.wrap (shrI .i64 x 0))].map (encI .u8)).toArray [.int .u8 (IntKind.u8.wrap (shrI .i64 x 40)), .int .u8 (IntKind.u8.wrap (shrI .i64 x 32)), .int .u8 (IntKind.u8.wrap (shrI .i64 x 24)), .int .u8 (IntKind.u8.wrap (shrI .i64 x 16)), .int .u8 (IntKind.u8.wrap (shrI .i64 x 8)), .int .u8 (IntKind.u8.wrap (shrI .i64 x 0))] (by kernel_rfl) (PEnd.wk (v1 := ls 1 false (encI .u8) [(IntKind.u8.wrap (shrI .i64 x 40)), (IntKind.u8.wrap (shrI .i64 x 32)), (IntKind.u8.wrap (shrI .i64 x 24)), (IntKind.u8.wrap (shrI .i64 x 16)), (IntKind.u8.wrap (shrI .i64 x 8)), (IntKind.u8.wrap (shrI .i64 x 0))]) (.list 1 false) (by kernel_rfl) (PEnd.fin (by kernel_rfl))))
 rw [if_pos hb] at h
 refine HO.fin' 7 ?_
 refine H.cS' (!decide ((shrI .i64 x 47) = (-1))) (fun hb => ?_) (fun hb => ?_)
 rotate_left
 ·rw [if_neg (ne_true hb)] at h
  refine H.ext' 0 ?_
  refine Kseq_exit ?_
  refine Kloop_exit ?_
  refine Kblock_hit ?_
  refine Kseq_norm ?_
  refine H.sr' 3 ?_
  refine H.seq' ?_
  refine H.sr' 3 ?_
  refine H.blk' 2 ?_
  refine H.lop' ?_
  refine HL.round ?_
  refine H.sr' 1 ?_
  refine H.seq' ?_
  refine H.cT' ?_
  refine H.skp' ?_
  refine Kseq_norm ?_
  refine H.seq' ?_
  refine H.blk' 3 ?_
  refine H.sr' 2 ?_
  refine H.reg' ?_
  refine HO.go' 12 ?_
  refine HO.end' ?_
  refine Kblock_norm ?_
  refine Kseq_norm ?_
  refine H.reg' ?_
  refine HO.go' 2 ?_
  refine HO.end' ?_
  refine Kloop_norm ?_
  refine HL.round ?_
  refine H.sr' 1 ?_
  refine H.seq' ?_
  refine H.cT' ?_
  refine H.skp' ?_
  refine Kseq_norm ?_
  refine H.seq' ?_
  refine H.blk' 3 ?_
  refine H.sr' 2 ?_
  refine H.reg' ?_
  refine HO.go' 12 ?_
  refine HO.end' ?_
  refine Kblock_norm ?_
  refine Kseq_norm ?_
  refine H.reg' ?_
  refine HO.go' 2 ?_
  refine HO.end' ?_
  refine Kloop_norm ?_
  refine HL.round ?_
  refine H.sr' 1 ?_
  refine H.seq' ?_
  refine H.cT' ?_
  refine H.skp' ?_
  refine Kseq_norm ?_
  refine H.seq' ?_
  refine H.blk' 3 ?_
  refine H.sr' 2 ?_
  refine H.reg' ?_
  refine HO.go' 12 ?_
  refine HO.end' ?_
  refine Kblock_norm ?_
  refine Kseq_norm ?_
  refine H.reg' ?_
  refine HO.go' 2 ?_
  refine HO.end' ?_
  refine Kloop_norm ?_
  refine HL.round ?_
  refine H.sr' 1 ?_
  refine H.seq' ?_
  refine H.cT' ?_
  refine H.skp' ?_
  refine Kseq_norm ?_
  refine H.seq' ?_
  refine H.blk' 3 ?_
  refine H.sr' 2 ?_
  refine H.reg' ?_
  refine HO.go' 12 ?_
  refine HO.end' ?_
  refine Kblock_norm ?_
  refine Kseq_norm ?_
  refine H.reg' ?_
  refine HO.go' 2 ?_
  refine HO.end' ?_
  refine Kloop_norm ?_
  refine HL.round ?_
  refine H.sr' 1 ?_
  refine H.seq' ?_
  refine H.cT' ?_
  refine H.skp' ?_
  refine Kseq_norm ?_
  refine H.seq' ?_
  refine H.blk' 3 ?_
  refine H.sr' 2 ?_
  refine H.reg' ?_
  refine HO.go' 12 ?_
  refine HO.end' ?_
  refine Kblock_norm ?_
  refine Kseq_norm ?_
  refine H.reg' ?_
  refine HO.go' 2 ?_
  refine HO.end' ?_
  refine Kloop_norm ?_
  refine HL.round ?_
  refine H.sr' 1 ?_
  refine H.seq' ?_
  refine H.cT' ?_
  refine H.skp' ?_
  refine Kseq_norm ?_
  refine H.seq' ?_
  refine H.blk' 3 ?_
  refine H.sr' 2 ?_
  refine H.reg' ?_
  refine HO.go' 12 ?_
  refine HO.end' ?_
  refine Kblock_norm ?_
  refine Kseq_norm ?_
  refine H.reg' ?_
  refine HO.go' 2 ?_
  refine HO.end' ?_
  refine Kloop_norm ?_
  refine HL.round ?_
  refine H.sr' 1 ?_
  refine H.seq' ?_
  refine H.cF' ?_
  refine H.ext' 2 ?_
  refine Kseq_exit ?_
  refine Kloop_exit ?_
  refine Kblock_hit ?_
  refine Kseq_norm ?_
  refine H.sr' 2 ?_
  refine H.ret' ?_
  obtain rfl := Option.some.inj h
  exact KEnd.of (v := .slice (some ⟨0, 0, none⟩) 6 6) (by kernel_rfl) (by kernel_rfl) (PEnd.frz 0 6 6 1 5 true ([(IntKind.u8.wrap (shrI .i64 x 40)), (IntKind.u8.wrap (shrI .i64 x 32)), (IntKind.u8.wrap (shrI .i64 x 24)), (IntKind.u8.wrap (shrI .i64 x 16)), (IntKind.u8.wrap (shrI .i64 x 8)), (IntKind.u8.wrap (shrI .i64 x 0))].map (encI .u8)).toArray [.int .u8 (IntKind.u8.wrap (shrI .i64 x 40)), .int .u8 (IntKind.u8.wrap (shrI .i64 x 32)), .int .u8 (IntKind.u8.wrap (shrI .i64 x 24)), .int .u8 (IntKind.u8.wrap (shrI .i64 x 16)), .int .u8 (IntKind.u8.wrap (shrI .i64 x 8)), .int .u8 (IntKind.u8.wrap (shrI .i64 x 0))] (by kernel_rfl) (PEnd.wk (v1 := ls 1 false (encI .u8) [(IntKind.u8.wrap (shrI .i64 x 40)), (IntKind.u8.wrap (shrI .i64 x 32)), (IntKind.u8.wrap (shrI .i64 x 24)), (IntKind.u8.wrap (shrI .i64 x 16)), (IntKind.u8.wrap (shrI .i64 x 8)), (IntKind.u8.wrap (shrI .i64 x 0))]) (.list 1 false) (by kernel_rfl) (PEnd.fin (by kernel_rfl))))
 rw [if_pos hb] at h
 refine H.skp' ?_
 refine Kseq_norm ?_
 refine H.blk' 1 ?_
 refine H.reg' ?_
 refine HO.go' 3 ?_
 refine HO.end' ?_
 refine Kblock_norm ?_
 refine Kloop_norm ?_
 refine HL.round ?_
 refine H.seq' ?_
 refine H.sg' ?_
 refine HO.go' 10 ?_
 refine HO.bo' (!decide ((shrI .i64 x 55) = 0)) (fun hb => ?_) (fun hb => ?_)
 rotate_left
 ·rw [if_neg (ne_true hb)] at h
  refine HO.fin' 7 ?_
  refine H.cF' ?_
  refine H.ext' 0 ?_
  refine Kseq_exit ?_
  refine Kloop_exit ?_
  refine Kblock_hit ?_
  refine Kseq_norm ?_
  refine H.sr' 3 ?_
  refine H.seq' ?_
  refine H.sr' 3 ?_
  refine H.blk' 2 ?_
  refine H.lop' ?_
  refine HL.round ?_
  refine H.sr' 1 ?_
  refine H.seq' ?_
  refine H.cT' ?_
  refine H.skp' ?_
  refine Kseq_norm ?_
  refine H.seq' ?_
  refine H.blk' 3 ?_
  refine H.sr' 2 ?_
  refine H.reg' ?_
  refine HO.go' 12 ?_
  refine HO.end' ?_
  refine Kblock_norm ?_
  refine Kseq_norm ?_
  refine H.reg' ?_
  refine HO.go' 2 ?_
  refine HO.end' ?_
  refine Kloop_norm ?_
  refine HL.round ?_
  refine H.sr' 1 ?_
  refine H.seq' ?_
  refine H.cT' ?_
  refine H.skp' ?_
  refine Kseq_norm ?_
  refine H.seq' ?_
  refine H.blk' 3 ?_
  refine H.sr' 2 ?_
  refine H.reg' ?_
  refine HO.go' 12 ?_
  refine HO.end' ?_
  refine Kblock_norm ?_
  refine Kseq_norm ?_
  refine H.reg' ?_
  refine HO.go' 2 ?_
  refine HO.end' ?_
  refine Kloop_norm ?_
  refine HL.round ?_
  refine H.sr' 1 ?_
  refine H.seq' ?_
  refine H.cT' ?_
  refine H.skp' ?_
  refine Kseq_norm ?_
  refine H.seq' ?_
  refine H.blk' 3 ?_
  refine H.sr' 2 ?_
  refine H.reg' ?_
  refine HO.go' 12 ?_
  refine HO.end' ?_
  refine Kblock_norm ?_
  refine Kseq_norm ?_
  refine H.reg' ?_
  refine HO.go' 2 ?_
  refine HO.end' ?_
  refine Kloop_norm ?_
  refine HL.round ?_
  refine H.sr' 1 ?_
  refine H.seq' ?_
  refine H.cT' ?_
  refine H.skp' ?_
  refine Kseq_norm ?_
  refine H.seq' ?_
  refine H.blk' 3 ?_
  refine H.sr' 2 ?_
  refine H.reg' ?_
  refine HO.go' 12 ?_
  refine HO.end' ?_
  refine Kblock_norm ?_
  refine Kseq_norm ?_
  refine H.reg' ?_
  refine HO.go' 2 ?_
  refine HO.end' ?_
  refine Kloop_norm ?_
  refine HL.round ?_
  refine H.sr' 1 ?_
  refine H.seq' ?_
  refine H.cT' ?_
  refine H.skp' ?_
  refine Kseq_norm ?_
  refine H.seq' ?_
  refine H.blk' 3 ?_
  refine H.sr' 2 ?_
  refine H.reg' ?_
  refine HO.go' 12 ?_
  refine HO.end' ?_
  refine Kblock_norm ?_
  refine Kseq_norm ?_
  refine H.reg' ?_
  refine HO.go' 2 ?_
  refine HO.end' ?_
  refine Kloop_norm ?_
  refine HL.round ?_
  refine H.sr' 1 ?_
  refine H.seq' ?_
  refine H.cT' ?_
  refine H.skp' ?_
  refine Kseq_norm ?_
  refine H.seq' ?_
  refine H.blk' 3 ?_
  refine H.sr' 2 ?_
  refine H.reg' ?_
  refine HO.go' 12 ?_
  refine HO.end' ?_
  refine Kblock_norm ?_
  refine Kseq_norm ?_
  refine H.reg' ?_
  refine HO.go' 2 ?_
  refine HO.end' ?_
  refine Kloop_norm ?_
  refine HL.round ?_
  refine H.sr' 1 ?_
  refine H.seq' ?_
  refine H.cT' ?_
  refine H.skp' ?_
  refine Kseq_norm ?_
  refine H.seq' ?_
  refine H.blk' 3 ?_
  refine H.sr' 2 ?_
  refine H.reg' ?_
  refine HO.go' 12 ?_
  refine HO.end' ?_
  refine Kblock_norm ?_
  refine Kseq_norm ?_
  refine H.reg' ?_
  refine HO.go' 2 ?_
  refine HO.end' ?_
  refine Kloop_norm ?_
  refine HL.round ?_
  refine H.sr' 1 ?_
  refine H.seq' ?_
  refine H.cF' ?_
  refine H.ext' 2 ?_
  refine Kseq_exit ?_
  refine Kloop_exit ?_
  refine Kblock_hit ?_
  refine Kseq_norm ?_
  refine H.sr' 2 ?_
  refine H.ret' ?_
  obtain rfl := Option.some.inj h
  exact KEnd.of (v := .slice (some ⟨0, 0, none⟩) 7 7) (by kernel_rfl) (by kernel_rfl) (PEnd.frz 0 7 7 1 5 true ([(IntKind.u8.wrap (shrI .i64 x 48)), (IntKind.u8.wrap (shrI .i64 x 40)), (IntKind.u8.wrap (shrI .i64 x 32)), (IntKind.u8.wrap (shrI .i64 x 24)), (IntKind.u8.wrap (shrI .i64 x 16)), (IntKind.u8.wrap (shrI .i64 x 8)), (IntKind.u8.wrap (shrI .i64 x 0))].map (encI .u8)).toArray [.int .u8 (IntKind.u8.wrap (shrI .i64 x 48)), .int .u8 (IntKind.u8.wrap (shrI .i64 x 40)), .int .u8 (IntKind.u8.wrap (shrI .i64 x 32)), .int .u8 (IntKind.u8.wrap (shrI .i64 x 24)), .int .u8 (IntKind.u8.wrap (shrI .i64 x 16)), .int .u8 (IntKind.u8.wrap (shrI .i64 x 8)), .int .u8 (IntKind.u8.wrap (shrI .i64 x 0))] (by kernel_rfl) (PEnd.wk (v1 := ls 1 false (encI .u8) [(IntKind.u8.wrap (shrI .i64 x 48)), (IntKind.u8.wrap (shrI .i64 x 40)), (IntKind.u8.wrap (shrI .i64 x 32)), (IntKind.u8.wrap (shrI .i64 x 24)), (IntKind.u8.wrap (shrI .i64 x 16)), (IntKind.u8.wrap (shrI .i64 x 8)), (IntKind.u8.wrap (shrI .i64 x 0))]) (.list 1 false) (by kernel_rfl) (PEnd.fin (by kernel_rfl))))
 rw [if_pos hb] at h
 refine HO.fin' 7 ?_
 refine H.cS' (!decide ((shrI .i64 x 55) = (-1))) (fun hb => ?_) (fun hb => ?_)
 rotate_left
 ·rw [if_neg (ne_true hb)] at h
  refine H.ext' 0 ?_
  refine Kseq_exit ?_
  refine Kloop_exit ?_
  refine Kblock_hit ?_
  refine Kseq_norm ?_
  refine H.sr' 3 ?_
  refine H.seq' ?_
  refine H.sr' 3 ?_
  refine H.blk' 2 ?_
  refine H.lop' ?_
  refine HL.round ?_
  refine H.sr' 1 ?_
  refine H.seq' ?_
  refine H.cT' ?_
  refine H.skp' ?_
  refine Kseq_norm ?_
  refine H.seq' ?_
  refine H.blk' 3 ?_
  refine H.sr' 2 ?_
  refine H.reg' ?_
  refine HO.go' 12 ?_
  refine HO.end' ?_
  refine Kblock_norm ?_
  refine Kseq_norm ?_
  refine H.reg' ?_
  refine HO.go' 2 ?_
  refine HO.end' ?_
  refine Kloop_norm ?_
  refine HL.round ?_
  refine H.sr' 1 ?_
  refine H.seq' ?_
  refine H.cT' ?_
  refine H.skp' ?_
  refine Kseq_norm ?_
  refine H.seq' ?_
  refine H.blk' 3 ?_
  refine H.sr' 2 ?_
  refine H.reg' ?_
  refine HO.go' 12 ?_
  refine HO.end' ?_
  refine Kblock_norm ?_
  refine Kseq_norm ?_
  refine H.reg' ?_
  refine HO.go' 2 ?_
  refine HO.end' ?_
  refine Kloop_norm ?_
  refine HL.round ?_
  refine H.sr' 1 ?_
  refine H.seq' ?_
  refine H.cT' ?_
  refine H.skp' ?_
  refine Kseq_norm ?_
  refine H.seq' ?_
  refine H.blk' 3 ?_
  refine H.sr' 2 ?_
  refine H.reg' ?_
  refine HO.go' 12 ?_
  refine HO.end' ?_
  refine Kblock_norm ?_
  refine Kseq_norm ?_
  refine H.reg' ?_
  refine HO.go' 2 ?_
  refine HO.end' ?_
  refine Kloop_norm ?_
  refine HL.round ?_
  refine H.sr' 1 ?_
  refine H.seq' ?_
  refine H.cT' ?_
  refine H.skp' ?_
  refine Kseq_norm ?_
  refine H.seq' ?_
  refine H.blk' 3 ?_
  refine H.sr' 2 ?_
  refine H.reg' ?_
  refine HO.go' 12 ?_
  refine HO.end' ?_
  refine Kblock_norm ?_
  refine Kseq_norm ?_
  refine H.reg' ?_
  refine HO.go' 2 ?_
  refine HO.end' ?_
  refine Kloop_norm ?_
  refine HL.round ?_
  refine H.sr' 1 ?_
  refine H.seq' ?_
  refine H.cT' ?_
  refine H.skp' ?_
  refine Kseq_norm ?_
  refine H.seq' ?_
  refine H.blk' 3 ?_
  refine H.sr' 2 ?_
  refine H.reg' ?_
  refine HO.go' 12 ?_
  refine HO.end' ?_
  refine Kblock_norm ?_
  refine Kseq_norm ?_
  refine H.reg' ?_
  refine HO.go' 2 ?_
  refine HO.end' ?_
  refine Kloop_norm ?_
  refine HL.round ?_
  refine H.sr' 1 ?_
  refine H.seq' ?_
  refine H.cT' ?_
  refine H.skp' ?_
  refine Kseq_norm ?_
  refine H.seq' ?_
  refine H.blk' 3 ?_
  refine H.sr' 2 ?_
  refine H.reg' ?_
  refine HO.go' 12 ?_
  refine HO.end' ?_
  refine Kblock_norm ?_
  refine Kseq_norm ?_
  refine H.reg' ?_
  refine HO.go' 2 ?_
  refine HO.end' ?_
  refine Kloop_norm ?_
  refine HL.round ?_
  refine H.sr' 1 ?_
  refine H.seq' ?_
  refine H.cT' ?_
  refine H.skp' ?_
  refine Kseq_norm ?_
  refine H.seq' ?_
  refine H.blk' 3 ?_
  refine H.sr' 2 ?_
  refine H.reg' ?_
  refine HO.go' 12 ?_
  refine HO.end' ?_
  refine Kblock_norm ?_
  refine Kseq_norm ?_
  refine H.reg' ?_
  refine HO.go' 2 ?_
  refine HO.end' ?_
  refine Kloop_norm ?_
  refine HL.round ?_
  refine H.sr' 1 ?_
  refine H.seq' ?_
  refine H.cF' ?_
  refine H.ext' 2 ?_
  refine Kseq_exit ?_
  refine Kloop_exit ?_
  refine Kblock_hit ?_
  refine Kseq_norm ?_
  refine H.sr' 2 ?_
  refine H.ret' ?_
  obtain rfl := Option.some.inj h
  exact KEnd.of (v := .slice (some ⟨0, 0, none⟩) 7 7) (by kernel_rfl) (by kernel_rfl) (PEnd.frz 0 7 7 1 5 true ([(IntKind.u8.wrap (shrI .i64 x 48)), (IntKind.u8.wrap (shrI .i64 x 40)), (IntKind.u8.wrap (shrI .i64 x 32)), (IntKind.u8.wrap (shrI .i64 x 24)), (IntKind.u8.wrap (shrI .i64 x 16)), (IntKind.u8.wrap (shrI .i64 x 8)), (IntKind.u8.wrap (shrI .i64 x 0))].map (encI .u8)).toArray [.int .u8 (IntKind.u8.wrap (shrI .i64 x 48)), .int .u8 (IntKind.u8.wrap (shrI .i64 x 40)), .int .u8 (IntKind.u8.wrap (shrI .i64 x 32)), .int .u8 (IntKind.u8.wrap (shrI .i64 x 24)), .int .u8 (IntKind.u8.wrap (shrI .i64 x 16)), .int .u8 (IntKind.u8.wrap (shrI .i64 x 8)), .int .u8 (IntKind.u8.wrap (shrI .i64 x 0))] (by kernel_rfl) (PEnd.wk (v1 := ls 1 false (encI .u8) [(IntKind.u8.wrap (shrI .i64 x 48)), (IntKind.u8.wrap (shrI .i64 x 40)), (IntKind.u8.wrap (shrI .i64 x 32)), (IntKind.u8.wrap (shrI .i64 x 24)), (IntKind.u8.wrap (shrI .i64 x 16)), (IntKind.u8.wrap (shrI .i64 x 8)), (IntKind.u8.wrap (shrI .i64 x 0))]) (.list 1 false) (by kernel_rfl) (PEnd.fin (by kernel_rfl))))
 rw [if_pos hb] at h
 refine H.skp' ?_
 refine Kseq_norm ?_
 refine H.blk' 1 ?_
 refine H.reg' ?_
 refine HO.go' 3 ?_
 refine HO.end' ?_
 refine Kblock_norm ?_
 refine Kloop_norm ?_
 refine HL.round ?_
 refine H.seq' ?_
 refine H.sr' 18 ?_
 refine H.cF' ?_
 refine H.ext' 0 ?_
 refine Kseq_exit ?_
 refine Kloop_exit ?_
 refine Kblock_hit ?_
 refine Kseq_norm ?_
 refine H.sr' 3 ?_
 refine H.seq' ?_
 refine H.sr' 3 ?_
 refine H.blk' 2 ?_
 refine H.lop' ?_
 refine HL.round ?_
 refine H.sr' 1 ?_
 refine H.seq' ?_
 refine H.cT' ?_
 refine H.skp' ?_
 refine Kseq_norm ?_
 refine H.seq' ?_
 refine H.blk' 3 ?_
 refine H.sr' 2 ?_
 refine H.reg' ?_
 refine HO.go' 12 ?_
 refine HO.end' ?_
 refine Kblock_norm ?_
 refine Kseq_norm ?_
 refine H.reg' ?_
 refine HO.go' 2 ?_
 refine HO.end' ?_
 refine Kloop_norm ?_
 refine HL.round ?_
 refine H.sr' 1 ?_
 refine H.seq' ?_
 refine H.cT' ?_
 refine H.skp' ?_
 refine Kseq_norm ?_
 refine H.seq' ?_
 refine H.blk' 3 ?_
 refine H.sr' 2 ?_
 refine H.reg' ?_
 refine HO.go' 12 ?_
 refine HO.end' ?_
 refine Kblock_norm ?_
 refine Kseq_norm ?_
 refine H.reg' ?_
 refine HO.go' 2 ?_
 refine HO.end' ?_
 refine Kloop_norm ?_
 refine HL.round ?_
 refine H.sr' 1 ?_
 refine H.seq' ?_
 refine H.cT' ?_
 refine H.skp' ?_
 refine Kseq_norm ?_
 refine H.seq' ?_
 refine H.blk' 3 ?_
 refine H.sr' 2 ?_
 refine H.reg' ?_
 refine HO.go' 12 ?_
 refine HO.end' ?_
 refine Kblock_norm ?_
 refine Kseq_norm ?_
 refine H.reg' ?_
 refine HO.go' 2 ?_
 refine HO.end' ?_
 refine Kloop_norm ?_
 refine HL.round ?_
 refine H.sr' 1 ?_
 refine H.seq' ?_
 refine H.cT' ?_
 refine H.skp' ?_
 refine Kseq_norm ?_
 refine H.seq' ?_
 refine H.blk' 3 ?_
 refine H.sr' 2 ?_
 refine H.reg' ?_
 refine HO.go' 12 ?_
 refine HO.end' ?_
 refine Kblock_norm ?_
 refine Kseq_norm ?_
 refine H.reg' ?_
 refine HO.go' 2 ?_
 refine HO.end' ?_
 refine Kloop_norm ?_
 refine HL.round ?_
 refine H.sr' 1 ?_
 refine H.seq' ?_
 refine H.cT' ?_
 refine H.skp' ?_
 refine Kseq_norm ?_
 refine H.seq' ?_
 refine H.blk' 3 ?_
 refine H.sr' 2 ?_
 refine H.reg' ?_
 refine HO.go' 12 ?_
 refine HO.end' ?_
 refine Kblock_norm ?_
 refine Kseq_norm ?_
 refine H.reg' ?_
 refine HO.go' 2 ?_
 refine HO.end' ?_
 refine Kloop_norm ?_
 refine HL.round ?_
 refine H.sr' 1 ?_
 refine H.seq' ?_
 refine H.cT' ?_
 refine H.skp' ?_
 refine Kseq_norm ?_
 refine H.seq' ?_
 refine H.blk' 3 ?_
 refine H.sr' 2 ?_
 refine H.reg' ?_
 refine HO.go' 12 ?_
 refine HO.end' ?_
 refine Kblock_norm ?_
 refine Kseq_norm ?_
 refine H.reg' ?_
 refine HO.go' 2 ?_
 refine HO.end' ?_
 refine Kloop_norm ?_
 refine HL.round ?_
 refine H.sr' 1 ?_
 refine H.seq' ?_
 refine H.cT' ?_
 refine H.skp' ?_
 refine Kseq_norm ?_
 refine H.seq' ?_
 refine H.blk' 3 ?_
 refine H.sr' 2 ?_
 refine H.reg' ?_
 refine HO.go' 12 ?_
 refine HO.end' ?_
 refine Kblock_norm ?_
 refine Kseq_norm ?_
 refine H.reg' ?_
 refine HO.go' 2 ?_
 refine HO.end' ?_
 refine Kloop_norm ?_
 refine HL.round ?_
 refine H.sr' 1 ?_
 refine H.seq' ?_
 refine H.cT' ?_
 refine H.skp' ?_
 refine Kseq_norm ?_
 refine H.seq' ?_
 refine H.blk' 3 ?_
 refine H.sr' 2 ?_
 refine H.reg' ?_
 refine HO.go' 12 ?_
 refine HO.end' ?_
 refine Kblock_norm ?_
 refine Kseq_norm ?_
 refine H.reg' ?_
 refine HO.go' 2 ?_
 refine HO.end' ?_
 refine Kloop_norm ?_
 refine HL.round ?_
 refine H.sr' 1 ?_
 refine H.seq' ?_
 refine H.cF' ?_
 refine H.ext' 2 ?_
 refine Kseq_exit ?_
 refine Kloop_exit ?_
 refine Kblock_hit ?_
 refine Kseq_norm ?_
 refine H.sr' 2 ?_
 refine H.ret' ?_
 obtain rfl := Option.some.inj h
 exact KEnd.of (v := .slice (some ⟨0, 0, none⟩) 8 8) (by kernel_rfl) (by kernel_rfl) (PEnd.frz 0 8 8 1 5 true ([(IntKind.u8.wrap (shrI .i64 x 56)), (IntKind.u8.wrap (shrI .i64 x 48)), (IntKind.u8.wrap (shrI .i64 x 40)), (IntKind.u8.wrap (shrI .i64 x 32)), (IntKind.u8.wrap (shrI .i64 x 24)), (IntKind.u8.wrap (shrI .i64 x 16)), (IntKind.u8.wrap (shrI .i64 x 8)), (IntKind.u8.wrap (shrI .i64 x 0))].map (encI .u8)).toArray [.int .u8 (IntKind.u8.wrap (shrI .i64 x 56)), .int .u8 (IntKind.u8.wrap (shrI .i64 x 48)), .int .u8 (IntKind.u8.wrap (shrI .i64 x 40)), .int .u8 (IntKind.u8.wrap (shrI .i64 x 32)), .int .u8 (IntKind.u8.wrap (shrI .i64 x 24)), .int .u8 (IntKind.u8.wrap (shrI .i64 x 16)), .int .u8 (IntKind.u8.wrap (shrI .i64 x 8)), .int .u8 (IntKind.u8.wrap (shrI .i64 x 0))] (by kernel_rfl) (PEnd.wk (v1 := ls 1 false (encI .u8) [(IntKind.u8.wrap (shrI .i64 x 56)), (IntKind.u8.wrap (shrI .i64 x 48)), (IntKind.u8.wrap (shrI .i64 x 40)), (IntKind.u8.wrap (shrI .i64 x 32)), (IntKind.u8.wrap (shrI .i64 x 24)), (IntKind.u8.wrap (shrI .i64 x 16)), (IntKind.u8.wrap (shrI .i64 x 8)), (IntKind.u8.wrap (shrI .i64 x 0))]) (.list 1 false) (by kernel_rfl) (PEnd.fin (by kernel_rfl))))
def numberC (x : Int × Int × Int) : Option (Int × Int × Bool × (List Int) × (List S41)) :=
 (intC x.2.2) >>= fun y1 =>
 some (x.1, x.2.1, false, y1, [])
theorem numberC_ok : ∀ (x : Int × Int × Int) (r : Int × Int × Bool × (List Int) × (List S41)), numberC x = some r → ∀ W0 : World, PTo Tryz.prog W0 89 #[.int .u8 x.1, .int .u32 x.2.1, .int .i64 x.2.2] (.returned (.agg #[.int .u8 r.1, .int .u32 r.2.1, .bool r.2.2.1, ls 1 false (encI .u8) r.2.2.2.1, ls 5 false enc41 r.2.2.2.2])) := by
 intro x r h
 unfold numberC at h
 intro W0
 refine PTo.of_body (fn := Tryz.f89) (code := cB Tryz.f89) Tryz.func89 rfl rfl ?_
 intro w0 S hS
 haveI := hS.noEx Tryz.prog
 refine H.sr' 1 ?_
 refine H.sg' ?_
 refine HO.go' 3 ?_
 obtain ⟨y1, hy, h⟩ := bindS h
 refine HO.callW hS [.keep] (intC_ok x.2.2 y1 hy W0) (by kernel_rfl) (by kernel_rfl) ?_
 refine HO.fin' 2 ?_
 refine H.ret' ?_
 obtain rfl := Option.some.inj h
 exact KEnd.retW (v := .agg #[.int .u8 x.1, .int .u32 x.2.1, .bool false, ls 1 false (encI .u8) y1, .slice none 0 0]) (.agg [.keep, .keep, .keep, .list 1 false, .list 5 false]) (by kernel_rfl) (by kernel_rfl) (by kernel_rfl) (by kernel_rfl)
def clipT (x : (List S41)) : Option ((List S41)) :=
 (sub' x 0 (x.length : Int)) >>= fun y1 =>
 some y1
theorem clipT_ok : ∀ (x : (List S41)) (r : (List S41)), clipT x = some r → ∀ W0 : World, PTo Tryz.prog W0 91 #[ls 5 false enc41 x] (.returned (ls 5 true enc41 r)) := by
 intro x r h
 unfold clipT at h
 intro W0
 refine PTo.of_body (fn := Tryz.f91) (code := cB Tryz.f91) Tryz.func91 rfl rfl ?_
 intro w0 S hS
 haveI := hS.noEx Tryz.prog
 refine H.sr' 1 ?_
 refine H.sg' ?_
 refine HO.go' 2 ?_
 refine HO.len (by kernel_rfl) (by kernel_rfl) (ls_size enc41 x) ?_
 refine HO.go' 1 ?_
 refine HO.len (by kernel_rfl) (by kernel_rfl) (ls_size enc41 x) ?_
 obtain ⟨y1, hy, h⟩ := bindS h
 refine HO.valA (sl4_aop (enc := enc41) (k := 5) (j := .i64) (j' := .i64) false hy (by kernel_rfl)) ?_
 refine HO.fin' 1 ?_
 refine H.ret' ?_
 obtain rfl := Option.some.inj h
 exact KEnd.retW (v := ls 5 true enc41 y1) (.list 5 true) (by kernel_rfl) (by kernel_rfl) (by kernel_rfl) (by kernel_rfl)
def clip (x : (List Int)) : Option ((List Int)) :=
 (sub' x 0 (x.length : Int)) >>= fun y1 =>
 some y1
theorem clip_ok : ∀ (x : (List Int)) (r : (List Int)), clip x = some r → ∀ W0 : World, PTo Tryz.prog W0 80 #[ls 1 false (encI .u8) x] (.returned (ls 1 true (encI .u8) r)) := by
 intro x r h
 unfold clip at h
 intro W0
 refine PTo.of_body (fn := Tryz.f80) (code := cB Tryz.f80) Tryz.func80 rfl rfl ?_
 intro w0 S hS
 haveI := hS.noEx Tryz.prog
 refine H.sr' 1 ?_
 refine H.sg' ?_
 refine HO.go' 2 ?_
 refine HO.len (by kernel_rfl) (by kernel_rfl) (ls_size (encI .u8) x) ?_
 refine HO.go' 1 ?_
 refine HO.len (by kernel_rfl) (by kernel_rfl) (ls_size (encI .u8) x) ?_
 obtain ⟨y1, hy, h⟩ := bindS h
 refine HO.valA (sl4_aop (enc := (encI .u8)) (k := 1) (j := .i64) (j' := .i64) false hy (by kernel_rfl)) ?_
 refine HO.fin' 1 ?_
 refine H.ret' ?_
 obtain rfl := Option.some.inj h
 exact KEnd.retW (v := ls 1 true (encI .u8) y1) (.list 1 true) (by kernel_rfl) (by kernel_rfl) (by kernel_rfl) (by kernel_rfl)
def cpTreeI (x : Int × Int × Int × Int × Int × (List Int)) : Option (Int × Int × Bool × (List Int) × (List S41)) :=
 if x.2.1 < 0 then
  if x.1 = 5 then
   (numberC (2, 1, (IntKind.i64.wrap x.2.2.2.2.1))) >>= fun y1 =>
   (clipT [(S41.mk 0 5 false [] []), (S41.mk y1.1 y1.2.1 y1.2.2.1 y1.2.2.2.1 y1.2.2.2.2)]) >>= fun y2 =>
   some (2, (IntKind.u32.wrap x.1), true, [], y2)
  else
   if x.1 = 1 then
    if 0 ≤ x.2.2.1 then
     (numberC (2, 0, x.2.2.1)) >>= fun y3 =>
     (numberC (0, 10, x.2.2.2.1)) >>= fun y4 =>
     (cloneS x.2.2.2.2.2) >>= fun y5 =>
     (clip y5) >>= fun y6 =>
     (clipT [(S41.mk 0 5 false [] []), (S41.mk y3.1 y3.2.1 y3.2.2.1 y3.2.2.2.1 y3.2.2.2.2), (S41.mk y4.1 y4.2.1 y4.2.2.1 y4.2.2.2.1 y4.2.2.2.2), (S41.mk 0 4 false y6 [])]) >>= fun y7 =>
     some (2, (IntKind.u32.wrap x.1), true, [], y7)
    else
     (numberC (0, 10, x.2.2.2.1)) >>= fun y8 =>
     (cloneS x.2.2.2.2.2) >>= fun y9 =>
     (clip y9) >>= fun y10 =>
     (clipT [(S41.mk 0 5 false [] []), (S41.mk y8.1 y8.2.1 y8.2.2.1 y8.2.2.2.1 y8.2.2.2.2), (S41.mk 0 4 false y10 [])]) >>= fun y11 =>
     some (2, (IntKind.u32.wrap x.1), true, [], y11)
   else
    (numberC (0, 10, x.2.2.2.1)) >>= fun y12 =>
    (cloneS x.2.2.2.2.2) >>= fun y13 =>
    (clip y13) >>= fun y14 =>
    (clipT [(S41.mk 0 5 false [] []), (S41.mk y12.1 y12.2.1 y12.2.2.1 y12.2.2.2.1 y12.2.2.2.2), (S41.mk 0 4 false y14 [])]) >>= fun y15 =>
    some (2, (IntKind.u32.wrap x.1), true, [], y15)
 else
  (numberC (0, 2, x.2.1)) >>= fun y16 =>
  if x.1 = 5 then
   (numberC (2, 1, (IntKind.i64.wrap x.2.2.2.2.1))) >>= fun y17 =>
   (clipT [(S41.mk y16.1 y16.2.1 y16.2.2.1 y16.2.2.2.1 y16.2.2.2.2), (S41.mk y17.1 y17.2.1 y17.2.2.1 y17.2.2.2.1 y17.2.2.2.2)]) >>= fun y18 =>
   some (2, (IntKind.u32.wrap x.1), true, [], y18)
  else
   if x.1 = 1 then
    if 0 ≤ x.2.2.1 then
     (numberC (2, 0, x.2.2.1)) >>= fun y19 =>
     (numberC (0, 10, x.2.2.2.1)) >>= fun y20 =>
     (cloneS x.2.2.2.2.2) >>= fun y21 =>
     (clip y21) >>= fun y22 =>
     (clipT [(S41.mk y16.1 y16.2.1 y16.2.2.1 y16.2.2.2.1 y16.2.2.2.2), (S41.mk y19.1 y19.2.1 y19.2.2.1 y19.2.2.2.1 y19.2.2.2.2), (S41.mk y20.1 y20.2.1 y20.2.2.1 y20.2.2.2.1 y20.2.2.2.2), (S41.mk 0 4 false y22 [])]) >>= fun y23 =>
     some (2, (IntKind.u32.wrap x.1), true, [], y23)
    else
     (numberC (0, 10, x.2.2.2.1)) >>= fun y24 =>
     (cloneS x.2.2.2.2.2) >>= fun y25 =>
     (clip y25) >>= fun y26 =>
     (clipT [(S41.mk y16.1 y16.2.1 y16.2.2.1 y16.2.2.2.1 y16.2.2.2.2), (S41.mk y24.1 y24.2.1 y24.2.2.1 y24.2.2.2.1 y24.2.2.2.2), (S41.mk 0 4 false y26 [])]) >>= fun y27 =>
     some (2, (IntKind.u32.wrap x.1), true, [], y27)
   else
    (numberC (0, 10, x.2.2.2.1)) >>= fun y28 =>
    (cloneS x.2.2.2.2.2) >>= fun y29 =>
    (clip y29) >>= fun y30 =>
    (clipT [(S41.mk y16.1 y16.2.1 y16.2.2.1 y16.2.2.2.1 y16.2.2.2.2), (S41.mk y28.1 y28.2.1 y28.2.2.1 y28.2.2.2.1 y28.2.2.2.2), (S41.mk 0 4 false y30 [])]) >>= fun y31 =>
    some (2, (IntKind.u32.wrap x.1), true, [], y31)
theorem cpTreeI_ok : ∀ (x : Int × Int × Int × Int × Int × (List Int)) (r : Int × Int × Bool × (List Int) × (List S41)), cpTreeI x = some r → ∀ W0 : World, PTo Tryz.prog W0 50 #[.agg #[.int .u8 x.1, .int .i64 x.2.1, .int .i64 x.2.2.1, .int .i64 x.2.2.2.1, .int .u8 x.2.2.2.2.1, ls 1 false (encI .u8) x.2.2.2.2.2]] (.returned (.agg #[.int .u8 r.1, .int .u32 r.2.1, .bool r.2.2.1, ls 1 false (encI .u8) r.2.2.2.1, ls 5 false enc41 r.2.2.2.2])) := by
 intro x r h
 unfold cpTreeI at h
 intro W0
 refine PTo.of_body (fn := Tryz.f50) (code := cB Tryz.f50) Tryz.func50 rfl rfl ?_
 intro w0 S hS
 haveI := hS.noEx Tryz.prog
 refine H.sr' 2 ?_
 refine H.sr' 6 ?_
 refine H.seq' ?_
 refine H.sr' 3 ?_
 refine H.cS' (decide (x.2.1 < 0)) (fun hb => ?_) (fun hb => ?_)
 rotate_left
 ·rw [if_neg (of_decide_eq_false hb)] at h
  refine H.drawQ ?_
  refine HQ.go' 4 ?_
  obtain ⟨y16, hy, h⟩ := bindS h
  refine HQ.callW hS [.keep, .keep, .keep] (numberC_ok (0, 2, x.2.1) y16 hy W0) (by kernel_rfl) (by kernel_rfl) ?_
  refine HQ.go' 1 ?_
  refine HQ.go' 1 ?_
  refine HQ.go' 2 ?_
  refine HQ.done (by kernel_rfl) (by kernel_rfl) (by kernel_rfl) ?_
  refine Kseq_norm ?_
  refine H.seq' ?_
  refine H.sr' 3 ?_
  refine H.cS' (decide (x.1 = 5)) (fun hb => ?_) (fun hb => ?_)
  ·rw [if_pos (of_decide_eq_true hb)] at h
   refine H.drawQ ?_
   refine HQ.go' 5 ?_
   obtain ⟨y17, hy, h⟩ := bindS h
   refine HQ.callW hS [.keep, .keep, .keep] (numberC_ok (2, 1, (IntKind.i64.wrap x.2.2.2.2.1)) y17 hy W0) (by kernel_rfl) (by kernel_rfl) ?_
   refine HQ.go' 1 ?_
   refine HQ.go' 1 ?_
   refine HQ.go' 2 ?_
   refine HQ.done (by kernel_rfl) (by kernel_rfl) (by kernel_rfl) ?_
   refine Kseq_norm ?_
   refine H.sg' ?_
   refine HO.go' 2 ?_
   refine HO.frzE [35, 67] 6 2 1180591620717411303424 5 41 false ([(S41.mk y16.1 y16.2.1 y16.2.2.1 y16.2.2.2.1 y16.2.2.2.2), (S41.mk y17.1 y17.2.1 y17.2.2.1 y17.2.2.2.1 y17.2.2.2.2)].map enc41).toArray #[.agg #[.int .u8 y16.1, .int .u32 y16.2.1, .bool y16.2.2.1, ls 1 false (encI .u8) y16.2.2.2.1, ls 5 false enc41 y16.2.2.2.2], .agg #[.int .u8 y17.1, .int .u32 y17.2.1, .bool y17.2.2.1, ls 1 false (encI .u8) y17.2.2.2.1, ls 5 false enc41 y17.2.2.2.2]] [.int .u8 y16.1, .int .u32 y16.2.1, .bool y16.2.2.1, ls 1 false (encI .u8) y16.2.2.2.1, ls 5 false enc41 y16.2.2.2.2, .int .u8 y17.1, .int .u32 y17.2.1, .bool y17.2.2.1, ls 1 false (encI .u8) y17.2.2.2.1, ls 5 false enc41 y17.2.2.2.2] (by simp only [List.map_cons, List.map_nil, enc41_eq]) (by kernel_rfl) ?_
   obtain ⟨y18, hy, h⟩ := bindS h
   refine HO.callW hS [.list 5 false] (clipT_ok [(S41.mk y16.1 y16.2.1 y16.2.2.1 y16.2.2.2.1 y16.2.2.2.2), (S41.mk y17.1 y17.2.1 y17.2.2.1 y17.2.2.2.1 y17.2.2.2.2)] y18 hy W0) (by kernel_rfl) (by kernel_rfl) ?_
   refine HO.fin' 2 ?_
   refine H.sr' 2 ?_
   refine H.ret' ?_
   obtain rfl := Option.some.inj h
   exact KEnd.retW (v := .agg #[.int .u8 2, .int .u32 (IntKind.u32.wrap x.1), .bool true, .slice none 0 0, ls 5 true enc41 y18]) (.agg [.keep, .keep, .keep, .list 1 false, .list 5 false]) (by kernel_rfl) (by kernel_rfl) (by kernel_rfl) (by kernel_rfl)
  rw [if_neg (of_decide_eq_false hb)] at h
  refine H.seq' ?_
  refine H.sg' ?_
  refine HO.go' 3 ?_
  refine HO.bo' (decide (x.1 = 1)) (fun hb => ?_) (fun hb => ?_)
  rotate_left
  ·rw [if_neg (of_decide_eq_false hb)] at h
   refine HO.fin' 4 ?_
   refine H.cF' ?_
   refine H.skp' ?_
   refine Kseq_norm ?_
   refine H.drawQ ?_
   refine HQ.go' 4 ?_
   obtain ⟨y28, hy, h⟩ := bindS h
   refine HQ.callW hS [.keep, .keep, .keep] (numberC_ok (0, 10, x.2.2.2.1) y28 hy W0) (by kernel_rfl) (by kernel_rfl) ?_
   refine HQ.go' 2 ?_
   obtain ⟨y29, hy, h⟩ := bindS h
   refine HQ.callW hS [.list 1 false] (cloneS_ok x.2.2.2.2.2 y29 hy W0) (by kernel_rfl) (by kernel_rfl) ?_
   obtain ⟨y30, hy, h⟩ := bindS h
   refine HQ.callV (v' := ls 1 false (encI .u8) y30) hS [.list 1 false] (.list 1 false) (clip_ok y29 y30 hy W0) (by kernel_rfl) (by kernel_rfl) (by kernel_rfl) ?_
   refine HQ.go' 2 ?_
   refine HQ.go' 1 ?_
   refine HQ.go' 2 ?_
   refine HQ.done (by kernel_rfl) (by kernel_rfl) (by kernel_rfl) ?_
   refine Kseq_norm ?_
   refine H.sg' ?_
   refine HO.go' 2 ?_
   refine HO.wkc 6 41 5 14 [.int .u8 y16.1, .int .u32 y16.2.1, .bool y16.2.2.1, ls 1 false (encI .u8) y16.2.2.2.1, ls 5 false enc41 y16.2.2.2.2, .int .u8 y28.1, .int .u32 y28.2.1, .bool y28.2.2.1, ls 1 false (encI .u8) y28.2.2.2.1, ls 5 false enc41 y28.2.2.2.2, .int .u8 0, .int .u32 4, .bool false, ls 1 false (encI .u8) y30, .slice none 0 0] (.slice none 0 0) (ls 5 false enc41 []) (.list 5 false) (by kernel_rfl) ?_
   refine HO.frzE [64, 67] 6 3 1180591620717411303424 5 41 false ([(S41.mk y16.1 y16.2.1 y16.2.2.1 y16.2.2.2.1 y16.2.2.2.2), (S41.mk y28.1 y28.2.1 y28.2.2.1 y28.2.2.2.1 y28.2.2.2.2), (S41.mk 0 4 false y30 [])].map enc41).toArray #[.agg #[.int .u8 y16.1, .int .u32 y16.2.1, .bool y16.2.2.1, ls 1 false (encI .u8) y16.2.2.2.1, ls 5 false enc41 y16.2.2.2.2], .agg #[.int .u8 y28.1, .int .u32 y28.2.1, .bool y28.2.2.1, ls 1 false (encI .u8) y28.2.2.2.1, ls 5 false enc41 y28.2.2.2.2], .agg #[.int .u8 0, .int .u32 4, .bool false, ls 1 false (encI .u8) y30, ls 5 false enc41 []]] [.int .u8 y16.1, .int .u32 y16.2.1, .bool y16.2.2.1, ls 1 false (encI .u8) y16.2.2.2.1, ls 5 false enc41 y16.2.2.2.2, .int .u8 y28.1, .int .u32 y28.2.1, .bool y28.2.2.1, ls 1 false (encI .u8) y28.2.2.2.1, ls 5 false enc41 y28.2.2.2.2, .int .u8 0, .int .u32 4, .bool false, ls 1 false (encI .u8) y30, ls 5 false enc41 []] (by simp only [List.map_cons, List.map_nil, enc41_eq]) (by kernel_rfl) ?_
   obtain ⟨y31, hy, h⟩ := bindS h
   refine HO.callW hS [.list 5 false] (clipT_ok [(S41.mk y16.1 y16.2.1 y16.2.2.1 y16.2.2.2.1 y16.2.2.2.2), (S41.mk y28.1 y28.2.1 y28.2.2.1 y28.2.2.2.1 y28.2.2.2.2), (S41.mk 0 4 false y30 [])] y31 hy W0) (by kernel_rfl) (by kernel_rfl) ?_
   refine HO.fin' 2 ?_
   refine H.sr' 2 ?_
   refine H.ret' ?_
   obtain rfl := Option.some.inj h
   exact KEnd.retW (v := .agg #[.int .u8 2, .int .u32 (IntKind.u32.wrap x.1), .bool true, .slice none 0 0, ls 5 true enc41 y31]) (.agg [.keep, .keep, .keep, .list 1 false, .list 5 false]) (by kernel_rfl) (by kernel_rfl) (by kernel_rfl) (by kernel_rfl)
  rw [if_pos (of_decide_eq_true hb)] at h
  refine HO.fin' 4 ?_
  refine H.cS' (decide (0 ≤ x.2.2.1)) (fun hb => ?_) (fun hb => ?_)
  rotate_left
  ·rw [if_neg (of_decide_eq_false hb)] at h
   refine H.skp' ?_
   refine Kseq_norm ?_
   refine H.drawQ ?_
   refine HQ.go' 4 ?_
   obtain ⟨y24, hy, h⟩ := bindS h
   refine HQ.callW hS [.keep, .keep, .keep] (numberC_ok (0, 10, x.2.2.2.1) y24 hy W0) (by kernel_rfl) (by kernel_rfl) ?_
   refine HQ.go' 2 ?_
   obtain ⟨y25, hy, h⟩ := bindS h
   refine HQ.callW hS [.list 1 false] (cloneS_ok x.2.2.2.2.2 y25 hy W0) (by kernel_rfl) (by kernel_rfl) ?_
   obtain ⟨y26, hy, h⟩ := bindS h
   refine HQ.callV (v' := ls 1 false (encI .u8) y26) hS [.list 1 false] (.list 1 false) (clip_ok y25 y26 hy W0) (by kernel_rfl) (by kernel_rfl) (by kernel_rfl) ?_
   refine HQ.go' 2 ?_
   refine HQ.go' 1 ?_
   refine HQ.go' 2 ?_
   refine HQ.done (by kernel_rfl) (by kernel_rfl) (by kernel_rfl) ?_
   refine Kseq_norm ?_
   refine H.sg' ?_
   refine HO.go' 2 ?_
   refine HO.wkc 6 41 5 14 [.int .u8 y16.1, .int .u32 y16.2.1, .bool y16.2.2.1, ls 1 false (encI .u8) y16.2.2.2.1, ls 5 false enc41 y16.2.2.2.2, .int .u8 y24.1, .int .u32 y24.2.1, .bool y24.2.2.1, ls 1 false (encI .u8) y24.2.2.2.1, ls 5 false enc41 y24.2.2.2.2, .int .u8 0, .int .u32 4, .bool false, ls 1 false (encI .u8) y26, .slice none 0 0] (.slice none 0 0) (ls 5 false enc41 []) (.list 5 false) (by kernel_rfl) ?_
   refine HO.frzE [64, 67] 6 3 1180591620717411303424 5 41 false ([(S41.mk y16.1 y16.2.1 y16.2.2.1 y16.2.2.2.1 y16.2.2.2.2), (S41.mk y24.1 y24.2.1 y24.2.2.1 y24.2.2.2.1 y24.2.2.2.2), (S41.mk 0 4 false y26 [])].map enc41).toArray #[.agg #[.int .u8 y16.1, .int .u32 y16.2.1, .bool y16.2.2.1, ls 1 false (encI .u8) y16.2.2.2.1, ls 5 false enc41 y16.2.2.2.2], .agg #[.int .u8 y24.1, .int .u32 y24.2.1, .bool y24.2.2.1, ls 1 false (encI .u8) y24.2.2.2.1, ls 5 false enc41 y24.2.2.2.2], .agg #[.int .u8 0, .int .u32 4, .bool false, ls 1 false (encI .u8) y26, ls 5 false enc41 []]] [.int .u8 y16.1, .int .u32 y16.2.1, .bool y16.2.2.1, ls 1 false (encI .u8) y16.2.2.2.1, ls 5 false enc41 y16.2.2.2.2, .int .u8 y24.1, .int .u32 y24.2.1, .bool y24.2.2.1, ls 1 false (encI .u8) y24.2.2.2.1, ls 5 false enc41 y24.2.2.2.2, .int .u8 0, .int .u32 4, .bool false, ls 1 false (encI .u8) y26, ls 5 false enc41 []] (by simp only [List.map_cons, List.map_nil, enc41_eq]) (by kernel_rfl) ?_
   obtain ⟨y27, hy, h⟩ := bindS h
   refine HO.callW hS [.list 5 false] (clipT_ok [(S41.mk y16.1 y16.2.1 y16.2.2.1 y16.2.2.2.1 y16.2.2.2.2), (S41.mk y24.1 y24.2.1 y24.2.2.1 y24.2.2.2.1 y24.2.2.2.2), (S41.mk 0 4 false y26 [])] y27 hy W0) (by kernel_rfl) (by kernel_rfl) ?_
   refine HO.fin' 2 ?_
   refine H.sr' 2 ?_
   refine H.ret' ?_
   obtain rfl := Option.some.inj h
   exact KEnd.retW (v := .agg #[.int .u8 2, .int .u32 (IntKind.u32.wrap x.1), .bool true, .slice none 0 0, ls 5 true enc41 y27]) (.agg [.keep, .keep, .keep, .list 1 false, .list 5 false]) (by kernel_rfl) (by kernel_rfl) (by kernel_rfl) (by kernel_rfl)
  rw [if_pos (of_decide_eq_true hb)] at h
  refine H.drawQ ?_
  refine HQ.go' 4 ?_
  obtain ⟨y19, hy, h⟩ := bindS h
  refine HQ.callW hS [.keep, .keep, .keep] (numberC_ok (2, 0, x.2.2.1) y19 hy W0) (by kernel_rfl) (by kernel_rfl) ?_
  refine HQ.go' 1 ?_
  refine HQ.go' 1 ?_
  refine HQ.go' 2 ?_
  refine HQ.done (by kernel_rfl) (by kernel_rfl) (by kernel_rfl) ?_
  refine Kseq_norm ?_
  refine H.drawQ ?_
  refine HQ.go' 4 ?_
  obtain ⟨y20, hy, h⟩ := bindS h
  refine HQ.callW hS [.keep, .keep, .keep] (numberC_ok (0, 10, x.2.2.2.1) y20 hy W0) (by kernel_rfl) (by kernel_rfl) ?_
  refine HQ.go' 2 ?_
  obtain ⟨y21, hy, h⟩ := bindS h
  refine HQ.callW hS [.list 1 false] (cloneS_ok x.2.2.2.2.2 y21 hy W0) (by kernel_rfl) (by kernel_rfl) ?_
  obtain ⟨y22, hy, h⟩ := bindS h
  refine HQ.callV (v' := ls 1 false (encI .u8) y22) hS [.list 1 false] (.list 1 false) (clip_ok y21 y22 hy W0) (by kernel_rfl) (by kernel_rfl) (by kernel_rfl) ?_
  refine HQ.go' 2 ?_
  refine HQ.go' 1 ?_
  refine HQ.go' 2 ?_
  refine HQ.done (by kernel_rfl) (by kernel_rfl) (by kernel_rfl) ?_
  refine Kseq_norm ?_
  refine H.sg' ?_
  refine HO.go' 2 ?_
  refine HO.wkc 8 41 5 19 [.int .u8 y16.1, .int .u32 y16.2.1, .bool y16.2.2.1, ls 1 false (encI .u8) y16.2.2.2.1, ls 5 false enc41 y16.2.2.2.2, .int .u8 y19.1, .int .u32 y19.2.1, .bool y19.2.2.1, ls 1 false (encI .u8) y19.2.2.2.1, ls 5 false enc41 y19.2.2.2.2, .int .u8 y20.1, .int .u32 y20.2.1, .bool y20.2.2.1, ls 1 false (encI .u8) y20.2.2.2.1, ls 5 false enc41 y20.2.2.2.2, .int .u8 0, .int .u32 4, .bool false, ls 1 false (encI .u8) y22, .slice none 0 0] (.slice none 0 0) (ls 5 false enc41 []) (.list 5 false) (by kernel_rfl) ?_
  refine HO.frzE [64, 67] 8 4 1180591620717411303424 5 41 false ([(S41.mk y16.1 y16.2.1 y16.2.2.1 y16.2.2.2.1 y16.2.2.2.2), (S41.mk y19.1 y19.2.1 y19.2.2.1 y19.2.2.2.1 y19.2.2.2.2), (S41.mk y20.1 y20.2.1 y20.2.2.1 y20.2.2.2.1 y20.2.2.2.2), (S41.mk 0 4 false y22 [])].map enc41).toArray #[.agg #[.int .u8 y16.1, .int .u32 y16.2.1, .bool y16.2.2.1, ls 1 false (encI .u8) y16.2.2.2.1, ls 5 false enc41 y16.2.2.2.2], .agg #[.int .u8 y19.1, .int .u32 y19.2.1, .bool y19.2.2.1, ls 1 false (encI .u8) y19.2.2.2.1, ls 5 false enc41 y19.2.2.2.2], .agg #[.int .u8 y20.1, .int .u32 y20.2.1, .bool y20.2.2.1, ls 1 false (encI .u8) y20.2.2.2.1, ls 5 false enc41 y20.2.2.2.2], .agg #[.int .u8 0, .int .u32 4, .bool false, ls 1 false (encI .u8) y22, ls 5 false enc41 []]] [.int .u8 y16.1, .int .u32 y16.2.1, .bool y16.2.2.1, ls 1 false (encI .u8) y16.2.2.2.1, ls 5 false enc41 y16.2.2.2.2, .int .u8 y19.1, .int .u32 y19.2.1, .bool y19.2.2.1, ls 1 false (encI .u8) y19.2.2.2.1, ls 5 false enc41 y19.2.2.2.2, .int .u8 y20.1, .int .u32 y20.2.1, .bool y20.2.2.1, ls 1 false (encI .u8) y20.2.2.2.1, ls 5 false enc41 y20.2.2.2.2, .int .u8 0, .int .u32 4, .bool false, ls 1 false (encI .u8) y22, ls 5 false enc41 []] (by simp only [List.map_cons, List.map_nil, enc41_eq]) (by kernel_rfl) ?_
  obtain ⟨y23, hy, h⟩ := bindS h
  refine HO.callW hS [.list 5 false] (clipT_ok [(S41.mk y16.1 y16.2.1 y16.2.2.1 y16.2.2.2.1 y16.2.2.2.2), (S41.mk y19.1 y19.2.1 y19.2.2.1 y19.2.2.2.1 y19.2.2.2.2), (S41.mk y20.1 y20.2.1 y20.2.2.1 y20.2.2.2.1 y20.2.2.2.2), (S41.mk 0 4 false y22 [])] y23 hy W0) (by kernel_rfl) (by kernel_rfl) ?_
  refine HO.fin' 2 ?_
  refine H.sr' 2 ?_
  refine H.ret' ?_
  obtain rfl := Option.some.inj h
  exact KEnd.retW (v := .agg #[.int .u8 2, .int .u32 (IntKind.u32.wrap x.1), .bool true, .slice none 0 0, ls 5 true enc41 y23]) (.agg [.keep, .keep, .keep, .list 1 false, .list 5 false]) (by kernel_rfl) (by kernel_rfl) (by kernel_rfl) (by kernel_rfl)
 rw [if_pos (of_decide_eq_true hb)] at h
 refine H.reg' ?_
 refine HO.go' 4 ?_
 refine HO.go' 1 ?_
 refine HO.fin' 2 ?_
 refine H.seq' ?_
 refine H.sr' 3 ?_
 refine H.cS' (decide (x.1 = 5)) (fun hb => ?_) (fun hb => ?_)
 ·rw [if_pos (of_decide_eq_true hb)] at h
  refine H.drawQ ?_
  refine HQ.go' 5 ?_
  obtain ⟨y1, hy, h⟩ := bindS h
  refine HQ.callW hS [.keep, .keep, .keep] (numberC_ok (2, 1, (IntKind.i64.wrap x.2.2.2.2.1)) y1 hy W0) (by kernel_rfl) (by kernel_rfl) ?_
  refine HQ.go' 1 ?_
  refine HQ.go' 1 ?_
  refine HQ.go' 2 ?_
  refine HQ.done (by kernel_rfl) (by kernel_rfl) (by kernel_rfl) ?_
  refine Kseq_norm ?_
  refine H.sg' ?_
  refine HO.go' 2 ?_
  refine HO.wkc 6 41 5 3 [.int .u8 0, .int .u32 5, .bool false, .slice none 0 0, .slice none 0 0, .int .u8 y1.1, .int .u32 y1.2.1, .bool y1.2.2.1, ls 1 false (encI .u8) y1.2.2.2.1, ls 5 false enc41 y1.2.2.2.2] (.slice none 0 0) (ls 1 false (encI .u8) []) (.list 1 false) (by kernel_rfl) ?_
  refine HO.wkc 6 41 5 4 [.int .u8 0, .int .u32 5, .bool false, ls 1 false (encI .u8) [], .slice none 0 0, .int .u8 y1.1, .int .u32 y1.2.1, .bool y1.2.2.1, ls 1 false (encI .u8) y1.2.2.2.1, ls 5 false enc41 y1.2.2.2.2] (.slice none 0 0) (ls 5 false enc41 []) (.list 5 false) (by kernel_rfl) ?_
  refine HO.frzE [35, 67] 6 2 1180591620717411303424 5 41 false ([(S41.mk 0 5 false [] []), (S41.mk y1.1 y1.2.1 y1.2.2.1 y1.2.2.2.1 y1.2.2.2.2)].map enc41).toArray #[.agg #[.int .u8 0, .int .u32 5, .bool false, ls 1 false (encI .u8) [], ls 5 false enc41 []], .agg #[.int .u8 y1.1, .int .u32 y1.2.1, .bool y1.2.2.1, ls 1 false (encI .u8) y1.2.2.2.1, ls 5 false enc41 y1.2.2.2.2]] [.int .u8 0, .int .u32 5, .bool false, ls 1 false (encI .u8) [], ls 5 false enc41 [], .int .u8 y1.1, .int .u32 y1.2.1, .bool y1.2.2.1, ls 1 false (encI .u8) y1.2.2.2.1, ls 5 false enc41 y1.2.2.2.2] (by simp only [List.map_cons, List.map_nil, enc41_eq]) (by kernel_rfl) ?_
  obtain ⟨y2, hy, h⟩ := bindS h
  refine HO.callW hS [.list 5 false] (clipT_ok [(S41.mk 0 5 false [] []), (S41.mk y1.1 y1.2.1 y1.2.2.1 y1.2.2.2.1 y1.2.2.2.2)] y2 hy W0) (by kernel_rfl) (by kernel_rfl) ?_
  refine HO.fin' 2 ?_
  refine H.sr' 2 ?_
  refine H.ret' ?_
  obtain rfl := Option.some.inj h
  exact KEnd.retW (v := .agg #[.int .u8 2, .int .u32 (IntKind.u32.wrap x.1), .bool true, .slice none 0 0, ls 5 true enc41 y2]) (.agg [.keep, .keep, .keep, .list 1 false, .list 5 false]) (by kernel_rfl) (by kernel_rfl) (by kernel_rfl) (by kernel_rfl)
 rw [if_neg (of_decide_eq_false hb)] at h
 refine H.seq' ?_
 refine H.sg' ?_
 refine HO.go' 3 ?_
 refine HO.bo' (decide (x.1 = 1)) (fun hb => ?_) (fun hb => ?_)
 rotate_left
 ·rw [if_neg (of_decide_eq_false hb)] at h
  refine HO.fin' 4 ?_
  refine H.cF' ?_
  refine H.skp' ?_
  refine Kseq_norm ?_
  refine H.drawQ ?_
  refine HQ.go' 4 ?_
  obtain ⟨y12, hy, h⟩ := bindS h
  refine HQ.callW hS [.keep, .keep, .keep] (numberC_ok (0, 10, x.2.2.2.1) y12 hy W0) (by kernel_rfl) (by kernel_rfl) ?_
  refine HQ.go' 2 ?_
  obtain ⟨y13, hy, h⟩ := bindS h
  refine HQ.callW hS [.list 1 false] (cloneS_ok x.2.2.2.2.2 y13 hy W0) (by kernel_rfl) (by kernel_rfl) ?_
  obtain ⟨y14, hy, h⟩ := bindS h
  refine HQ.callV (v' := ls 1 false (encI .u8) y14) hS [.list 1 false] (.list 1 false) (clip_ok y13 y14 hy W0) (by kernel_rfl) (by kernel_rfl) (by kernel_rfl) ?_
  refine HQ.go' 2 ?_
  refine HQ.go' 1 ?_
  refine HQ.go' 2 ?_
  refine HQ.done (by kernel_rfl) (by kernel_rfl) (by kernel_rfl) ?_
  refine Kseq_norm ?_
  refine H.sg' ?_
  refine HO.go' 2 ?_
  refine HO.wkc 6 41 5 3 [.int .u8 0, .int .u32 5, .bool false, .slice none 0 0, .slice none 0 0, .int .u8 y12.1, .int .u32 y12.2.1, .bool y12.2.2.1, ls 1 false (encI .u8) y12.2.2.2.1, ls 5 false enc41 y12.2.2.2.2, .int .u8 0, .int .u32 4, .bool false, ls 1 false (encI .u8) y14, .slice none 0 0] (.slice none 0 0) (ls 1 false (encI .u8) []) (.list 1 false) (by kernel_rfl) ?_
  refine HO.wkc 6 41 5 4 [.int .u8 0, .int .u32 5, .bool false, ls 1 false (encI .u8) [], .slice none 0 0, .int .u8 y12.1, .int .u32 y12.2.1, .bool y12.2.2.1, ls 1 false (encI .u8) y12.2.2.2.1, ls 5 false enc41 y12.2.2.2.2, .int .u8 0, .int .u32 4, .bool false, ls 1 false (encI .u8) y14, .slice none 0 0] (.slice none 0 0) (ls 5 false enc41 []) (.list 5 false) (by kernel_rfl) ?_
  refine HO.wkc 6 41 5 14 [.int .u8 0, .int .u32 5, .bool false, ls 1 false (encI .u8) [], ls 5 false enc41 [], .int .u8 y12.1, .int .u32 y12.2.1, .bool y12.2.2.1, ls 1 false (encI .u8) y12.2.2.2.1, ls 5 false enc41 y12.2.2.2.2, .int .u8 0, .int .u32 4, .bool false, ls 1 false (encI .u8) y14, .slice none 0 0] (.slice none 0 0) (ls 5 false enc41 []) (.list 5 false) (by kernel_rfl) ?_
  refine HO.frzE [64, 67] 6 3 1180591620717411303424 5 41 false ([(S41.mk 0 5 false [] []), (S41.mk y12.1 y12.2.1 y12.2.2.1 y12.2.2.2.1 y12.2.2.2.2), (S41.mk 0 4 false y14 [])].map enc41).toArray #[.agg #[.int .u8 0, .int .u32 5, .bool false, ls 1 false (encI .u8) [], ls 5 false enc41 []], .agg #[.int .u8 y12.1, .int .u32 y12.2.1, .bool y12.2.2.1, ls 1 false (encI .u8) y12.2.2.2.1, ls 5 false enc41 y12.2.2.2.2], .agg #[.int .u8 0, .int .u32 4, .bool false, ls 1 false (encI .u8) y14, ls 5 false enc41 []]] [.int .u8 0, .int .u32 5, .bool false, ls 1 false (encI .u8) [], ls 5 false enc41 [], .int .u8 y12.1, .int .u32 y12.2.1, .bool y12.2.2.1, ls 1 false (encI .u8) y12.2.2.2.1, ls 5 false enc41 y12.2.2.2.2, .int .u8 0, .int .u32 4, .bool false, ls 1 false (encI .u8) y14, ls 5 false enc41 []] (by simp only [List.map_cons, List.map_nil, enc41_eq]) (by kernel_rfl) ?_
  obtain ⟨y15, hy, h⟩ := bindS h
  refine HO.callW hS [.list 5 false] (clipT_ok [(S41.mk 0 5 false [] []), (S41.mk y12.1 y12.2.1 y12.2.2.1 y12.2.2.2.1 y12.2.2.2.2), (S41.mk 0 4 false y14 [])] y15 hy W0) (by kernel_rfl) (by kernel_rfl) ?_
  refine HO.fin' 2 ?_
  refine H.sr' 2 ?_
  refine H.ret' ?_
  obtain rfl := Option.some.inj h
  exact KEnd.retW (v := .agg #[.int .u8 2, .int .u32 (IntKind.u32.wrap x.1), .bool true, .slice none 0 0, ls 5 true enc41 y15]) (.agg [.keep, .keep, .keep, .list 1 false, .list 5 false]) (by kernel_rfl) (by kernel_rfl) (by kernel_rfl) (by kernel_rfl)
 rw [if_pos (of_decide_eq_true hb)] at h
 refine HO.fin' 4 ?_
 refine H.cS' (decide (0 ≤ x.2.2.1)) (fun hb => ?_) (fun hb => ?_)
 rotate_left
 ·rw [if_neg (of_decide_eq_false hb)] at h
  refine H.skp' ?_
  refine Kseq_norm ?_
  refine H.drawQ ?_
  refine HQ.go' 4 ?_
  obtain ⟨y8, hy, h⟩ := bindS h
  refine HQ.callW hS [.keep, .keep, .keep] (numberC_ok (0, 10, x.2.2.2.1) y8 hy W0) (by kernel_rfl) (by kernel_rfl) ?_
  refine HQ.go' 2 ?_
  obtain ⟨y9, hy, h⟩ := bindS h
  refine HQ.callW hS [.list 1 false] (cloneS_ok x.2.2.2.2.2 y9 hy W0) (by kernel_rfl) (by kernel_rfl) ?_
  obtain ⟨y10, hy, h⟩ := bindS h
  refine HQ.callV (v' := ls 1 false (encI .u8) y10) hS [.list 1 false] (.list 1 false) (clip_ok y9 y10 hy W0) (by kernel_rfl) (by kernel_rfl) (by kernel_rfl) ?_
  refine HQ.go' 2 ?_
  refine HQ.go' 1 ?_
  refine HQ.go' 2 ?_
  refine HQ.done (by kernel_rfl) (by kernel_rfl) (by kernel_rfl) ?_
  refine Kseq_norm ?_
  refine H.sg' ?_
  refine HO.go' 2 ?_
  refine HO.wkc 6 41 5 3 [.int .u8 0, .int .u32 5, .bool false, .slice none 0 0, .slice none 0 0, .int .u8 y8.1, .int .u32 y8.2.1, .bool y8.2.2.1, ls 1 false (encI .u8) y8.2.2.2.1, ls 5 false enc41 y8.2.2.2.2, .int .u8 0, .int .u32 4, .bool false, ls 1 false (encI .u8) y10, .slice none 0 0] (.slice none 0 0) (ls 1 false (encI .u8) []) (.list 1 false) (by kernel_rfl) ?_
  refine HO.wkc 6 41 5 4 [.int .u8 0, .int .u32 5, .bool false, ls 1 false (encI .u8) [], .slice none 0 0, .int .u8 y8.1, .int .u32 y8.2.1, .bool y8.2.2.1, ls 1 false (encI .u8) y8.2.2.2.1, ls 5 false enc41 y8.2.2.2.2, .int .u8 0, .int .u32 4, .bool false, ls 1 false (encI .u8) y10, .slice none 0 0] (.slice none 0 0) (ls 5 false enc41 []) (.list 5 false) (by kernel_rfl) ?_
  refine HO.wkc 6 41 5 14 [.int .u8 0, .int .u32 5, .bool false, ls 1 false (encI .u8) [], ls 5 false enc41 [], .int .u8 y8.1, .int .u32 y8.2.1, .bool y8.2.2.1, ls 1 false (encI .u8) y8.2.2.2.1, ls 5 false enc41 y8.2.2.2.2, .int .u8 0, .int .u32 4, .bool false, ls 1 false (encI .u8) y10, .slice none 0 0] (.slice none 0 0) (ls 5 false enc41 []) (.list 5 false) (by kernel_rfl) ?_
  refine HO.frzE [64, 67] 6 3 1180591620717411303424 5 41 false ([(S41.mk 0 5 false [] []), (S41.mk y8.1 y8.2.1 y8.2.2.1 y8.2.2.2.1 y8.2.2.2.2), (S41.mk 0 4 false y10 [])].map enc41).toArray #[.agg #[.int .u8 0, .int .u32 5, .bool false, ls 1 false (encI .u8) [], ls 5 false enc41 []], .agg #[.int .u8 y8.1, .int .u32 y8.2.1, .bool y8.2.2.1, ls 1 false (encI .u8) y8.2.2.2.1, ls 5 false enc41 y8.2.2.2.2], .agg #[.int .u8 0, .int .u32 4, .bool false, ls 1 false (encI .u8) y10, ls 5 false enc41 []]] [.int .u8 0, .int .u32 5, .bool false, ls 1 false (encI .u8) [], ls 5 false enc41 [], .int .u8 y8.1, .int .u32 y8.2.1, .bool y8.2.2.1, ls 1 false (encI .u8) y8.2.2.2.1, ls 5 false enc41 y8.2.2.2.2, .int .u8 0, .int .u32 4, .bool false, ls 1 false (encI .u8) y10, ls 5 false enc41 []] (by simp only [List.map_cons, List.map_nil, enc41_eq]) (by kernel_rfl) ?_
  obtain ⟨y11, hy, h⟩ := bindS h
  refine HO.callW hS [.list 5 false] (clipT_ok [(S41.mk 0 5 false [] []), (S41.mk y8.1 y8.2.1 y8.2.2.1 y8.2.2.2.1 y8.2.2.2.2), (S41.mk 0 4 false y10 [])] y11 hy W0) (by kernel_rfl) (by kernel_rfl) ?_
  refine HO.fin' 2 ?_
  refine H.sr' 2 ?_
  refine H.ret' ?_
  obtain rfl := Option.some.inj h
  exact KEnd.retW (v := .agg #[.int .u8 2, .int .u32 (IntKind.u32.wrap x.1), .bool true, .slice none 0 0, ls 5 true enc41 y11]) (.agg [.keep, .keep, .keep, .list 1 false, .list 5 false]) (by kernel_rfl) (by kernel_rfl) (by kernel_rfl) (by kernel_rfl)
 rw [if_pos (of_decide_eq_true hb)] at h
 refine H.drawQ ?_
 refine HQ.go' 4 ?_
 obtain ⟨y3, hy, h⟩ := bindS h
 refine HQ.callW hS [.keep, .keep, .keep] (numberC_ok (2, 0, x.2.2.1) y3 hy W0) (by kernel_rfl) (by kernel_rfl) ?_
 refine HQ.go' 1 ?_
 refine HQ.go' 1 ?_
 refine HQ.go' 2 ?_
 refine HQ.done (by kernel_rfl) (by kernel_rfl) (by kernel_rfl) ?_
 refine Kseq_norm ?_
 refine H.drawQ ?_
 refine HQ.go' 4 ?_
 obtain ⟨y4, hy, h⟩ := bindS h
 refine HQ.callW hS [.keep, .keep, .keep] (numberC_ok (0, 10, x.2.2.2.1) y4 hy W0) (by kernel_rfl) (by kernel_rfl) ?_
 refine HQ.go' 2 ?_
 obtain ⟨y5, hy, h⟩ := bindS h
 refine HQ.callW hS [.list 1 false] (cloneS_ok x.2.2.2.2.2 y5 hy W0) (by kernel_rfl) (by kernel_rfl) ?_
 obtain ⟨y6, hy, h⟩ := bindS h
 refine HQ.callV (v' := ls 1 false (encI .u8) y6) hS [.list 1 false] (.list 1 false) (clip_ok y5 y6 hy W0) (by kernel_rfl) (by kernel_rfl) (by kernel_rfl) ?_
 refine HQ.go' 2 ?_
 refine HQ.go' 1 ?_
 refine HQ.go' 2 ?_
 refine HQ.done (by kernel_rfl) (by kernel_rfl) (by kernel_rfl) ?_
 refine Kseq_norm ?_
 refine H.sg' ?_
 refine HO.go' 2 ?_
 refine HO.wkc 8 41 5 3 [.int .u8 0, .int .u32 5, .bool false, .slice none 0 0, .slice none 0 0, .int .u8 y3.1, .int .u32 y3.2.1, .bool y3.2.2.1, ls 1 false (encI .u8) y3.2.2.2.1, ls 5 false enc41 y3.2.2.2.2, .int .u8 y4.1, .int .u32 y4.2.1, .bool y4.2.2.1, ls 1 false (encI .u8) y4.2.2.2.1, ls 5 false enc41 y4.2.2.2.2, .int .u8 0, .int .u32 4, .bool false, ls 1 false (encI .u8) y6, .slice none 0 0] (.slice none 0 0) (ls 1 false (encI .u8) []) (.list 1 false) (by kernel_rfl) ?_
 refine HO.wkc 8 41 5 4 [.int .u8 0, .int .u32 5, .bool false, ls 1 false (encI .u8) [], .slice none 0 0, .int .u8 y3.1, .int .u32 y3.2.1, .bool y3.2.2.1, ls 1 false (encI .u8) y3.2.2.2.1, ls 5 false enc41 y3.2.2.2.2, .int .u8 y4.1, .int .u32 y4.2.1, .bool y4.2.2.1, ls 1 false (encI .u8) y4.2.2.2.1, ls 5 false enc41 y4.2.2.2.2, .int .u8 0, .int .u32 4, .bool false, ls 1 false (encI .u8) y6, .slice none 0 0] (.slice none 0 0) (ls 5 false enc41 []) (.list 5 false) (by kernel_rfl) ?_
 refine HO.wkc 8 41 5 19 [.int .u8 0, .int .u32 5, .bool false, ls 1 false (encI .u8) [], ls 5 false enc41 [], .int .u8 y3.1, .int .u32 y3.2.1, .bool y3.2.2.1, ls 1 false (encI .u8) y3.2.2.2.1, ls 5 false enc41 y3.2.2.2.2, .int .u8 y4.1, .int .u32 y4.2.1, .bool y4.2.2.1, ls 1 false (encI .u8) y4.2.2.2.1, ls 5 false enc41 y4.2.2.2.2, .int .u8 0, .int .u32 4, .bool false, ls 1 false (encI .u8) y6, .slice none 0 0] (.slice none 0 0) (ls 5 false enc41 []) (.list 5 false) (by kernel_rfl) ?_
 refine HO.frzE [64, 67] 8 4 1180591620717411303424 5 41 false ([(S41.mk 0 5 false [] []), (S41.mk y3.1 y3.2.1 y3.2.2.1 y3.2.2.2.1 y3.2.2.2.2), (S41.mk y4.1 y4.2.1 y4.2.2.1 y4.2.2.2.1 y4.2.2.2.2), (S41.mk 0 4 false y6 [])].map enc41).toArray #[.agg #[.int .u8 0, .int .u32 5, .bool false, ls 1 false (encI .u8) [], ls 5 false enc41 []], .agg #[.int .u8 y3.1, .int .u32 y3.2.1, .bool y3.2.2.1, ls 1 false (encI .u8) y3.2.2.2.1, ls 5 false enc41 y3.2.2.2.2], .agg #[.int .u8 y4.1, .int .u32 y4.2.1, .bool y4.2.2.1, ls 1 false (encI .u8) y4.2.2.2.1, ls 5 false enc41 y4.2.2.2.2], .agg #[.int .u8 0, .int .u32 4, .bool false, ls 1 false (encI .u8) y6, ls 5 false enc41 []]] [.int .u8 0, .int .u32 5, .bool false, ls 1 false (encI .u8) [], ls 5 false enc41 [], .int .u8 y3.1, .int .u32 y3.2.1, .bool y3.2.2.1, ls 1 false (encI .u8) y3.2.2.2.1, ls 5 false enc41 y3.2.2.2.2, .int .u8 y4.1, .int .u32 y4.2.1, .bool y4.2.2.1, ls 1 false (encI .u8) y4.2.2.2.1, ls 5 false enc41 y4.2.2.2.2, .int .u8 0, .int .u32 4, .bool false, ls 1 false (encI .u8) y6, ls 5 false enc41 []] (by simp only [List.map_cons, List.map_nil, enc41_eq]) (by kernel_rfl) ?_
 obtain ⟨y7, hy, h⟩ := bindS h
 refine HO.callW hS [.list 5 false] (clipT_ok [(S41.mk 0 5 false [] []), (S41.mk y3.1 y3.2.1 y3.2.2.1 y3.2.2.2.1 y3.2.2.2.2), (S41.mk y4.1 y4.2.1 y4.2.2.1 y4.2.2.2.1 y4.2.2.2.2), (S41.mk 0 4 false y6 [])] y7 hy W0) (by kernel_rfl) (by kernel_rfl) ?_
 refine HO.fin' 2 ?_
 refine H.sr' 2 ?_
 refine H.ret' ?_
 obtain rfl := Option.some.inj h
 exact KEnd.retW (v := .agg #[.int .u8 2, .int .u32 (IntKind.u32.wrap x.1), .bool true, .slice none 0 0, ls 5 true enc41 y7]) (.agg [.keep, .keep, .keep, .list 1 false, .list 5 false]) (by kernel_rfl) (by kernel_rfl) (by kernel_rfl) (by kernel_rfl)
def cpTree (x : Int × Int × Int × Int × Int × (List Int)) : Option (Int × Int × Bool × (List Int) × (List S41) × Int) :=
 (cpCheck (x.1, x.2.1, x.2.2.1, x.2.2.2.1, x.2.2.2.2.1, x.2.2.2.2.2)) >>= fun y1 =>
 if (!decide (y1 = 0)) = true then
  some (0, 0, false, [], [], y1)
 else
  (cpTreeI (x.1, x.2.1, x.2.2.1, x.2.2.2.1, x.2.2.2.2.1, x.2.2.2.2.2)) >>= fun y2 =>
  some (y2.1, y2.2.1, y2.2.2.1, y2.2.2.2.1, y2.2.2.2.2, 0)
theorem cpTree_ok : ∀ (x : Int × Int × Int × Int × Int × (List Int)) (r : Int × Int × Bool × (List Int) × (List S41) × Int), cpTree x = some r → ∀ W0 : World, PTo Tryz.prog W0 17 #[.agg #[.int .u8 x.1, .int .i64 x.2.1, .int .i64 x.2.2.1, .int .i64 x.2.2.2.1, .int .u8 x.2.2.2.2.1, ls 1 false (encI .u8) x.2.2.2.2.2]] (.returned (.tuple #[.agg #[.int .u8 r.1, .int .u32 r.2.1, .bool r.2.2.1, ls 1 false (encI .u8) r.2.2.2.1, ls 5 false enc41 r.2.2.2.2.1], .int .i64 r.2.2.2.2.2])) := by
 intro x r h
 unfold cpTree at h
 intro W0
 refine PTo.of_body (fn := Tryz.f17) (code := cB Tryz.f17) Tryz.func17 rfl rfl ?_
 intro w0 S hS
 haveI := hS.noEx Tryz.prog
 refine H.sr' 3 ?_
 refine H.seq' ?_
 refine H.sg' ?_
 refine HO.go' 1 ?_
 obtain ⟨y1, hy, h⟩ := bindS h
 refine HO.callW hS [.agg [.keep, .keep, .keep, .keep, .keep, .list 1 false]] (cpCheck_ok (x.1, x.2.1, x.2.2.1, x.2.2.2.1, x.2.2.2.2.1, x.2.2.2.2.2) y1 hy W0) (by kernel_rfl) (by kernel_rfl) ?_
 refine HO.fin' 1 ?_
 refine H.sr' 2 ?_
 refine H.cS' (!decide (y1 = 0)) (fun hb => ?_) (fun hb => ?_)
 ·rw [if_pos hb] at h
  refine H.sr' 4 ?_
  refine H.ret' ?_
  refine Kseq_ret ?_
  obtain rfl := Option.some.inj h
  exact KEnd.retW (v := .tuple #[.agg #[.int .u8 0, .int .u32 0, .bool false, .slice none 0 0, .slice none 0 0], .int .i64 y1]) (.tuple [.agg [.keep, .keep, .keep, .list 1 false, .list 5 false], .keep]) (by kernel_rfl) (by kernel_rfl) (by kernel_rfl) (by kernel_rfl)
 rw [if_neg (ne_true hb)] at h
 refine H.skp' ?_
 refine Kseq_norm ?_
 refine H.sg' ?_
 refine HO.go' 1 ?_
 obtain ⟨y2, hy, h⟩ := bindS h
 refine HO.callW hS [.agg [.keep, .keep, .keep, .keep, .keep, .list 1 false]] (cpTreeI_ok (x.1, x.2.1, x.2.2.1, x.2.2.2.1, x.2.2.2.2.1, x.2.2.2.2.2) y2 hy W0) (by kernel_rfl) (by kernel_rfl) ?_
 refine HO.fin' 2 ?_
 refine H.ret' ?_
 obtain rfl := Option.some.inj h
 exact KEnd.retW (v := .tuple #[.agg #[.int .u8 y2.1, .int .u32 y2.2.1, .bool y2.2.2.1, ls 1 false (encI .u8) y2.2.2.2.1, ls 5 false enc41 y2.2.2.2.2], .int .i64 0]) (.tuple [.agg [.keep, .keep, .keep, .list 1 false, .list 5 false], .keep]) (by kernel_rfl) (by kernel_rfl) (by kernel_rfl) (by kernel_rfl)
def grown_L4 (x : Int × Int × Int × Bool × (List Int)) : Option (Int × Int × Bool × (List Int) × (List S41) × Int) :=
 some (x.2.1, x.2.2.1, x.2.2.2.1, x.2.2.2.2, [], x.1)
theorem grown_L4_ok : ∀ (x : Int × Int × Int × Bool × (List Int)) (r : Int × Int × Bool × (List Int) × (List S41) × Int), grown_L4 x = some r → ∀ (W0 w0 : World) (S : Own), Std W0 w0 S 0 → H Tryz.prog w0 S 102 (cR (cL (cR (cL (cR (cR (cR (cR (cR (cR (cB Tryz.f51))))))))))) (mkS [(6, .pointer (some ⟨0, 0, none⟩)), (9, .pointer (some ⟨1, 0, none⟩)), (10, .int .i64 x.1)] [(0, .cells [.int .u8 0, .int .u32 0, .bool false, .slice none 0 0, .slice none 0 0] 41 5), (1, .cells [.int .u8 x.2.1, .int .u32 x.2.2.1, .bool x.2.2.2.1, tl 1 2 (encI .u8) x.2.2.2.2, .slice none 0 0] 41 5)] 3 [2]) (Kseq Tryz.prog w0 S 102 (cR (cR (cR (cR (cR (cR (cR (cB Tryz.f51)))))))) (KEnd Tryz.prog Tryz.f51 (PEnd w0 S (.returned (.tuple #[.agg #[.int .u8 r.1, .int .u32 r.2.1, .bool r.2.2.1, ls 1 false (encI .u8) r.2.2.2.1, ls 5 false enc41 r.2.2.2.2.1], .int .i64 r.2.2.2.2.2]))))) := by
 intro x r h
 unfold grown_L4 at h
 intro W0 w0 S hS
 haveI := hS.noEx Tryz.prog
 refine H.sr' 4 ?_
 refine H.ret' ?_
 refine Kseq_ret ?_
 obtain rfl := Option.some.inj h
 exact KEnd.retW (v := .tuple #[.agg #[.int .u8 x.2.1, .int .u32 x.2.2.1, .bool x.2.2.2.1, tl 1 2 (encI .u8) x.2.2.2.2, .slice none 0 0], .int .i64 x.1]) (.tuple [.agg [.keep, .keep, .keep, .list 1 false, .list 5 false], .keep]) (by kernel_rfl) (by kernel_rfl) (by kernel_rfl) (by kernel_rfl)
mutual
def grown_L6 (x : (List S30) × Int × Int × Int × Bool × Int × Int × Bool × (List Int) × Int × Int × Int × (List S41)) : Option (Int × Int × Bool × (List Int) × (List S41) × Int) :=
 if x.2.2.2.2.1 = true then
  (grown (x.1, x.2.2.1, (IntKind.i64.wrap (x.2.1 + 1)))) >>= fun y4 =>
  (app' 64 x.2.2.2.2.2.2.2.2.2.2.2.2 [(S41.mk y4.1 y4.2.1 y4.2.2.1 y4.2.2.2.1 y4.2.2.2.2.1)]) >>= fun y5 =>
  grown_L5 (x.1, x.2.1, y4.2.2.2.2.2, (IntKind.i64.wrap (x.2.2.2.1 + 1)), x.2.2.2.2.2.1, x.2.2.2.2.2.2.1, x.2.2.2.2.2.2.2.1, x.2.2.2.2.2.2.2.2.1, x.2.2.2.2.2.2.2.2.2.1, x.2.2.2.2.2.2.2.2.2.2.1, x.2.2.2.2.2.2.2.2.2.2.2.1, y5)
 else
  some (x.2.2.2.2.2.2.2.2.2.2.1, x.2.2.2.2.2.2.2.2.2.2.2.1, x.2.2.2.2.2.2.2.1, [], x.2.2.2.2.2.2.2.2.2.2.2.2, x.2.2.1)
partial_fixpoint
def grown_L5 (x : (List S30) × Int × Int × Int × Int × Int × Bool × (List Int) × Int × Int × Int × (List S41)) : Option (Int × Int × Bool × (List Int) × (List S41) × Int) :=
 if x.2.2.2.1 < (IntKind.i64.wrap (remI .u8 x.2.2.2.2.2.2.2.2.1 4)) then
  if x.2.1 < 10 then
   if x.2.2.1 < (x.1.length : Int) then
    grown_L6 (x.1, x.2.1, x.2.2.1, x.2.2.2.1, (decide (x.2.2.1 < 40)), x.2.2.2.2.1, x.2.2.2.2.2.1, x.2.2.2.2.2.2.1, x.2.2.2.2.2.2.2.1, x.2.2.2.2.2.2.2.2.1, x.2.2.2.2.2.2.2.2.2.1, x.2.2.2.2.2.2.2.2.2.2.1, x.2.2.2.2.2.2.2.2.2.2.2)
   else
    grown_L6 (x.1, x.2.1, x.2.2.1, x.2.2.2.1, false, x.2.2.2.2.1, x.2.2.2.2.2.1, x.2.2.2.2.2.2.1, x.2.2.2.2.2.2.2.1, x.2.2.2.2.2.2.2.2.1, x.2.2.2.2.2.2.2.2.2.1, x.2.2.2.2.2.2.2.2.2.2.1, x.2.2.2.2.2.2.2.2.2.2.2)
  else
   grown_L6 (x.1, x.2.1, x.2.2.1, x.2.2.2.1, false, x.2.2.2.2.1, x.2.2.2.2.2.1, x.2.2.2.2.2.2.1, x.2.2.2.2.2.2.2.1, x.2.2.2.2.2.2.2.2.1, x.2.2.2.2.2.2.2.2.2.1, x.2.2.2.2.2.2.2.2.2.2.1, x.2.2.2.2.2.2.2.2.2.2.2)
 else
  grown_L6 (x.1, x.2.1, x.2.2.1, x.2.2.2.1, false, x.2.2.2.2.1, x.2.2.2.2.2.1, x.2.2.2.2.2.2.1, x.2.2.2.2.2.2.2.1, x.2.2.2.2.2.2.2.2.1, x.2.2.2.2.2.2.2.2.2.1, x.2.2.2.2.2.2.2.2.2.2.1, x.2.2.2.2.2.2.2.2.2.2.2)
partial_fixpoint
def grown (x : (List S30) × Int × Int) : Option (Int × Int × Bool × (List Int) × (List S41) × Int) :=
 if (x.1.length : Int) ≤ x.2.1 then
  grown_L1 (x.1, x.2.1, x.2.2, true)
 else
  grown_L1 (x.1, x.2.1, x.2.2, (decide (40 ≤ x.2.1)))
partial_fixpoint
def grown_L1 (x : (List S30) × Int × Int × Bool) : Option (Int × Int × Bool × (List Int) × (List S41) × Int) :=
 if x.2.2.2 = true then
  some (3, 1, false, [], [], (IntKind.i64.wrap (x.2.1 + 1)))
 else
  (at' x.1 x.2.1) >>= fun y1 =>
  if (remI .u8 y1.c0 4) = 0 then
   grown_L2 (x.1, x.2.1, x.2.2.1, (decide ((remI .u32 y1.c1 2097152) = 0)), y1.c0, y1.c1, y1.c2, y1.c3, y1.c4, (remI .u8 y1.c0 4), (remI .u32 y1.c1 2097152))
  else
   grown_L2 (x.1, x.2.1, x.2.2.1, false, y1.c0, y1.c1, y1.c2, y1.c3, y1.c4, (remI .u8 y1.c0 4), (remI .u32 y1.c1 2097152))
partial_fixpoint
def grown_L2 (x : (List S30) × Int × Int × Bool × Int × Int × Bool × (List Int) × Int × Int × Int) : Option (Int × Int × Bool × (List Int) × (List S41) × Int) :=
 if x.2.2.2.1 = true then
  grown_L3 (x.1, x.2.1, x.2.2.1, x.2.2.2.2.1, x.2.2.2.2.2.1, x.2.2.2.2.2.2.1, x.2.2.2.2.2.2.2.1, x.2.2.2.2.2.2.2.2.1, x.2.2.2.2.2.2.2.2.2.1, 2)
 else
  grown_L3 (x.1, x.2.1, x.2.2.1, x.2.2.2.2.1, x.2.2.2.2.2.1, x.2.2.2.2.2.2.1, x.2.2.2.2.2.2.2.1, x.2.2.2.2.2.2.2.2.1, x.2.2.2.2.2.2.2.2.2.1, x.2.2.2.2.2.2.2.2.2.2)
partial_fixpoint
def grown_L3 (x : (List S30) × Int × Int × Int × Int × Bool × (List Int) × Int × Int × Int) : Option (Int × Int × Bool × (List Int) × (List S41) × Int) :=
 if (!x.2.2.2.2.2.1) = true then
  (sub' x.2.2.2.2.2.2.1 0 (minI (x.2.2.2.2.2.2.1.length : Int) 300)) >>= fun y2 =>
  (app' 1 [] y2) >>= fun y3 =>
  if y2.length = 0 then
   grown_L4 ((IntKind.i64.wrap (x.2.1 + 1)), x.2.2.2.2.2.2.2.2.1, x.2.2.2.2.2.2.2.2.2, x.2.2.2.2.2.1, [])
  else
   grown_L4 ((IntKind.i64.wrap (x.2.1 + 1)), x.2.2.2.2.2.2.2.2.1, x.2.2.2.2.2.2.2.2.2, x.2.2.2.2.2.1, y3)
 else
  grown_L5 (x.1, x.2.2.1, (IntKind.i64.wrap (x.2.1 + 1)), 0, x.2.2.2.1, x.2.2.2.2.1, x.2.2.2.2.2.1, x.2.2.2.2.2.2.1, x.2.2.2.2.2.2.2.1, x.2.2.2.2.2.2.2.2.1, x.2.2.2.2.2.2.2.2.2, [])
partial_fixpoint
end
abbrev T_grown_L6 (x : (List S30) × Int × Int × Int × Bool × Int × Int × Bool × (List Int) × Int × Int × Int × (List S41)) (r : Int × Int × Bool × (List Int) × (List S41) × Int) : Prop := ∀ (W0 w0 : World) (S : Own), Std W0 w0 S 0 → H Tryz.prog w0 S 102 (cR (cL (cL (cL (cR (cL (cR (cR (cR (cR (cR (cR (cR (cB Tryz.f51)))))))))))))) (mkS [(0, ls 5 false enc30 x.1), (2, .int .i64 x.2.1), (6, .pointer (some ⟨0, 0, none⟩)), (8, .pointer (some ⟨1, 0, none⟩)), (9, .pointer (some ⟨2, 0, none⟩)), (10, .int .i64 x.2.2.1), (11, .int .i64 x.2.2.2.1), (83, .bool x.2.2.2.2.1)] [(0, .cells [.int .u8 0, .int .u32 0, .bool false, .slice none 0 0, .slice none 0 0] 41 5), (1, .cells [.int .u8 x.2.2.2.2.2.1, .int .u32 x.2.2.2.2.2.2.1, .bool x.2.2.2.2.2.2.2.1, ls 1 false (encI .u8) x.2.2.2.2.2.2.2.2.1, .int .u8 x.2.2.2.2.2.2.2.2.2.1] 30 5), (2, .cells [.int .u8 x.2.2.2.2.2.2.2.2.2.2.1, .int .u32 x.2.2.2.2.2.2.2.2.2.2.2.1, .bool x.2.2.2.2.2.2.2.1, .slice none 0 0, tl 5 3 enc41 x.2.2.2.2.2.2.2.2.2.2.2.2] 41 5)] 4 [3]) (Kseq Tryz.prog w0 S 102 (cR (cL (cL (cR (cL (cR (cR (cR (cR (cR (cR (cR (cB Tryz.f51))))))))))))) (Kloop Tryz.prog w0 S 102 (cL (cL (cR (cL (cR (cR (cR (cR (cR (cR (cR (cB Tryz.f51)))))))))))) (Kblock 0 (Kseq Tryz.prog w0 S 102 (cR (cR (cR (cR (cR (cR (cR (cR (cB Tryz.f51))))))))) (KEnd Tryz.prog Tryz.f51 (PEnd w0 S (.returned (.tuple #[.agg #[.int .u8 r.1, .int .u32 r.2.1, .bool r.2.2.1, ls 1 false (encI .u8) r.2.2.2.1, ls 5 false enc41 r.2.2.2.2.1], .int .i64 r.2.2.2.2.2]))))))))
abbrev T_grown_L5 (x : (List S30) × Int × Int × Int × Int × Int × Bool × (List Int) × Int × Int × Int × (List S41)) (r : Int × Int × Bool × (List Int) × (List S41) × Int) : Prop := ∀ (W0 w0 : World) (S : Own), Std W0 w0 S 0 → HL Tryz.prog w0 S 102 (cL (cL (cR (cL (cR (cR (cR (cR (cR (cR (cR (cB Tryz.f51)))))))))))) (mkS [(0, ls 5 false enc30 x.1), (2, .int .i64 x.2.1), (6, .pointer (some ⟨0, 0, none⟩)), (8, .pointer (some ⟨1, 0, none⟩)), (9, .pointer (some ⟨2, 0, none⟩)), (10, .int .i64 x.2.2.1), (11, .int .i64 x.2.2.2.1)] [(0, .cells [.int .u8 0, .int .u32 0, .bool false, .slice none 0 0, .slice none 0 0] 41 5), (1, .cells [.int .u8 x.2.2.2.2.1, .int .u32 x.2.2.2.2.2.1, .bool x.2.2.2.2.2.2.1, ls 1 false (encI .u8) x.2.2.2.2.2.2.2.1, .int .u8 x.2.2.2.2.2.2.2.2.1] 30 5), (2, .cells [.int .u8 x.2.2.2.2.2.2.2.2.2.1, .int .u32 x.2.2.2.2.2.2.2.2.2.2.1, .bool x.2.2.2.2.2.2.1, .slice none 0 0, tl 5 3 enc41 x.2.2.2.2.2.2.2.2.2.2.2] 41 5)] 4 [3]) (Kblock 0 (Kseq Tryz.prog w0 S 102 (cR (cR (cR (cR (cR (cR (cR (cR (cB Tryz.f51))))))))) (KEnd Tryz.prog Tryz.f51 (PEnd w0 S (.returned (.tuple #[.agg #[.int .u8 r.1, .int .u32 r.2.1, .bool r.2.2.1, ls 1 false (encI .u8) r.2.2.2.1, ls 5 false enc41 r.2.2.2.2.1], .int .i64 r.2.2.2.2.2]))))))
abbrev T_grown (x : (List S30) × Int × Int) (r : Int × Int × Bool × (List Int) × (List S41) × Int) : Prop := ∀ W0 : World, PTo Tryz.prog W0 51 #[ls 5 false enc30 x.1, .int .i64 x.2.1, .int .i64 x.2.2] (.returned (.tuple #[.agg #[.int .u8 r.1, .int .u32 r.2.1, .bool r.2.2.1, ls 1 false (encI .u8) r.2.2.2.1, ls 5 false enc41 r.2.2.2.2.1], .int .i64 r.2.2.2.2.2]))
abbrev T_grown_L1 (x : (List S30) × Int × Int × Bool) (r : Int × Int × Bool × (List Int) × (List S41) × Int) : Prop := ∀ (W0 w0 : World) (S : Own), Std W0 w0 S 0 → H Tryz.prog w0 S 102 (cR (cL (cR (cB Tryz.f51)))) (mkS [(0, ls 5 false enc30 x.1), (1, .int .i64 x.2.1), (2, .int .i64 x.2.2.1), (6, .pointer (some ⟨0, 0, none⟩)), (20, .bool x.2.2.2)] [(0, .cells [.int .u8 0, .int .u32 0, .bool false, .slice none 0 0, .slice none 0 0] 41 5)] 1 []) (Kseq Tryz.prog w0 S 102 (cR (cR (cB Tryz.f51))) (KEnd Tryz.prog Tryz.f51 (PEnd w0 S (.returned (.tuple #[.agg #[.int .u8 r.1, .int .u32 r.2.1, .bool r.2.2.1, ls 1 false (encI .u8) r.2.2.2.1, ls 5 false enc41 r.2.2.2.2.1], .int .i64 r.2.2.2.2.2])))))
abbrev T_grown_L2 (x : (List S30) × Int × Int × Bool × Int × Int × Bool × (List Int) × Int × Int × Int) (r : Int × Int × Bool × (List Int) × (List S41) × Int) : Prop := ∀ (W0 w0 : World) (S : Own), Std W0 w0 S 0 → H Tryz.prog w0 S 102 (cR (cL (cR (cR (cR (cR (cB Tryz.f51))))))) (mkS [(0, ls 5 false enc30 x.1), (1, .int .i64 x.2.1), (2, .int .i64 x.2.2.1), (6, .pointer (some ⟨0, 0, none⟩)), (8, .pointer (some ⟨1, 0, none⟩)), (9, .pointer (some ⟨2, 0, none⟩)), (45, .bool x.2.2.2.1)] [(0, .cells [.int .u8 0, .int .u32 0, .bool false, .slice none 0 0, .slice none 0 0] 41 5), (1, .cells [.int .u8 x.2.2.2.2.1, .int .u32 x.2.2.2.2.2.1, .bool x.2.2.2.2.2.2.1, ls 1 false (encI .u8) x.2.2.2.2.2.2.2.1, .int .u8 x.2.2.2.2.2.2.2.2.1] 30 5), (2, .cells [.int .u8 x.2.2.2.2.2.2.2.2.2.1, .int .u32 x.2.2.2.2.2.2.2.2.2.2, .bool x.2.2.2.2.2.2.1, .slice none 0 0, .slice none 0 0] 41 5)] 3 []) (Kseq Tryz.prog w0 S 102 (cR (cR (cR (cR (cR (cB Tryz.f51)))))) (KEnd Tryz.prog Tryz.f51 (PEnd w0 S (.returned (.tuple #[.agg #[.int .u8 r.1, .int .u32 r.2.1, .bool r.2.2.1, ls 1 false (encI .u8) r.2.2.2.1, ls 5 false enc41 r.2.2.2.2.1], .int .i64 r.2.2.2.2.2])))))
abbrev T_grown_L3 (x : (List S30) × Int × Int × Int × Int × Bool × (List Int) × Int × Int × Int) (r : Int × Int × Bool × (List Int) × (List S41) × Int) : Prop := ∀ (W0 w0 : World) (S : Own), Std W0 w0 S 0 → H Tryz.prog w0 S 102 (cR (cR (cR (cR (cR (cB Tryz.f51)))))) (mkS [(0, ls 5 false enc30 x.1), (1, .int .i64 x.2.1), (2, .int .i64 x.2.2.1), (6, .pointer (some ⟨0, 0, none⟩)), (8, .pointer (some ⟨1, 0, none⟩)), (9, .pointer (some ⟨2, 0, none⟩))] [(0, .cells [.int .u8 0, .int .u32 0, .bool false, .slice none 0 0, .slice none 0 0] 41 5), (1, .cells [.int .u8 x.2.2.2.1, .int .u32 x.2.2.2.2.1, .bool x.2.2.2.2.2.1, ls 1 false (encI .u8) x.2.2.2.2.2.2.1, .int .u8 x.2.2.2.2.2.2.2.1] 30 5), (2, .cells [.int .u8 x.2.2.2.2.2.2.2.2.1, .int .u32 x.2.2.2.2.2.2.2.2.2, .bool x.2.2.2.2.2.1, .slice none 0 0, .slice none 0 0] 41 5)] 3 []) (KEnd Tryz.prog Tryz.f51 (PEnd w0 S (.returned (.tuple #[.agg #[.int .u8 r.1, .int .u32 r.2.1, .bool r.2.2.1, ls 1 false (encI .u8) r.2.2.2.1, ls 5 false enc41 r.2.2.2.2.1], .int .i64 r.2.2.2.2.2]))))
theorem grown_L6_grp : (∀ x r, grown_L6 x = some r → T_grown_L6 x r) ∧
 (∀ x r, grown_L5 x = some r → T_grown_L5 x r) ∧
 (∀ x r, grown x = some r → T_grown x r) ∧
 (∀ x r, grown_L1 x = some r → T_grown_L1 x r) ∧
 (∀ x r, grown_L2 x = some r → T_grown_L2 x r) ∧
 (∀ x r, grown_L3 x = some r → T_grown_L3 x r) := by
 refine grown_L6.mutual_partial_correctness T_grown_L6 T_grown_L5 T_grown T_grown_L1 T_grown_L2 T_grown_L3 ?_ ?_ ?_ ?_ ?_ ?_
 ·intro g_grown_L5 g_grown ih_grown_L5 ih_grown x r h
  intro W0 w0 S hS
  haveI := hS.noEx Tryz.prog
  refine H.cS' (x.2.2.2.2.1) (fun hb => ?_) (fun hb => ?_)
  rotate_left
  ·rw [if_neg (ne_true hb)] at h
   refine H.ext' 0 ?_
   refine Kseq_exit ?_
   refine Kloop_exit ?_
   refine Kblock_hit ?_
   refine Kseq_norm ?_
   refine H.sr' 4 ?_
   refine H.ret' ?_
   obtain rfl := Option.some.inj h
   exact KEnd.retW (v := .tuple #[.agg #[.int .u8 x.2.2.2.2.2.2.2.2.2.2.1, .int .u32 x.2.2.2.2.2.2.2.2.2.2.2.1, .bool x.2.2.2.2.2.2.2.1, .slice none 0 0, tl 5 3 enc41 x.2.2.2.2.2.2.2.2.2.2.2.2], .int .i64 x.2.2.1]) (.tuple [.agg [.keep, .keep, .keep, .list 1 false, .list 5 false], .keep]) (by kernel_rfl) (by kernel_rfl) (by kernel_rfl) (by kernel_rfl)
  rw [if_pos hb] at h
  refine H.skp' ?_
  refine Kseq_norm ?_
  refine H.seq' ?_
  refine H.blk' 1 ?_
  refine H.sr' 1 ?_
  refine H.sg' ?_
  refine HO.go' 4 ?_
  obtain ⟨y4, hy, h⟩ := bindS h
  refine HO.callW hS [.list 5 false, .keep, .keep] (ih_grown (x.1, x.2.2.1, (IntKind.i64.wrap (x.2.1 + 1))) y4 hy W0) (by kernel_rfl) (by kernel_rfl) ?_
  refine HO.fin' 5 ?_
  refine H.reg' ?_
  refine HO.go' 4 ?_
  obtain ⟨y5, hy, h⟩ := bindS h
  refine HO.effA (app1_aop (enc := enc41) (k := 5) true 1 [.int .u8 y4.1, .int .u32 y4.2.1, .bool y4.2.2.1, ls 1 false (encI .u8) y4.2.2.2.1, ls 5 false enc41 y4.2.2.2.2.1] [] hy (by kernel_rfl) (by kernel_rfl) (by simp only [List.map_cons, List.map_nil, enc41_eq]; kernel_rfl)) ?_
  refine HO.go' 2 ?_
  refine HO.end' ?_
  refine Kblock_norm ?_
  refine Kseq_norm ?_
  refine H.reg' ?_
  refine HO.go' 3 ?_
  refine HO.end' ?_
  refine Kloop_norm ?_
  exact HL.ren' hS [0, 1, 2, 6] (ih_grown_L5 (x.1, x.2.1, y4.2.2.2.2.2, (IntKind.i64.wrap (x.2.2.2.1 + 1)), x.2.2.2.2.2.1, x.2.2.2.2.2.2.1, x.2.2.2.2.2.2.2.1, x.2.2.2.2.2.2.2.2.1, x.2.2.2.2.2.2.2.2.2.1, x.2.2.2.2.2.2.2.2.2.2.1, x.2.2.2.2.2.2.2.2.2.2.2.1, y5) r h W0 w0 S hS)
 ·intro g_grown_L6 ih_grown_L6 x r h
  intro W0 w0 S hS
  haveI := hS.noEx Tryz.prog
  refine HL.round ?_
  refine H.seq' ?_
  refine H.sg' ?_
  refine HO.go' 6 ?_
  refine HO.bo' (decide (x.2.2.2.1 < (IntKind.i64.wrap (remI .u8 x.2.2.2.2.2.2.2.2.1 4)))) (fun hb => ?_) (fun hb => ?_)
  rotate_left
  ·rw [if_neg (of_decide_eq_false hb)] at h
   refine HO.fin' 13 ?_
   exact H.ren' hS [0, 1, 2, 3] (ih_grown_L6 (x.1, x.2.1, x.2.2.1, x.2.2.2.1, false, x.2.2.2.2.1, x.2.2.2.2.2.1, x.2.2.2.2.2.2.1, x.2.2.2.2.2.2.2.1, x.2.2.2.2.2.2.2.2.1, x.2.2.2.2.2.2.2.2.2.1, x.2.2.2.2.2.2.2.2.2.2.1, x.2.2.2.2.2.2.2.2.2.2.2) r h W0 w0 S hS)
  rw [if_pos (of_decide_eq_true hb)] at h
  refine HO.go' 3 ?_
  refine HO.bo' (decide (x.2.1 < 10)) (fun hb => ?_) (fun hb => ?_)
  rotate_left
  ·rw [if_neg (of_decide_eq_false hb)] at h
   refine HO.fin' 9 ?_
   exact H.ren' hS [0, 1, 2, 3] (ih_grown_L6 (x.1, x.2.1, x.2.2.1, x.2.2.2.1, false, x.2.2.2.2.1, x.2.2.2.2.2.1, x.2.2.2.2.2.2.1, x.2.2.2.2.2.2.2.1, x.2.2.2.2.2.2.2.2.1, x.2.2.2.2.2.2.2.2.2.1, x.2.2.2.2.2.2.2.2.2.2.1, x.2.2.2.2.2.2.2.2.2.2.2) r h W0 w0 S hS)
  rw [if_pos (of_decide_eq_true hb)] at h
  refine HO.go' 2 ?_
  refine HO.len (by kernel_rfl) (by kernel_rfl) (ls_size enc30 x.1) ?_
  refine HO.go' 2 ?_
  refine HO.bo' (decide (x.2.2.1 < (x.1.length : Int))) (fun hb => ?_) (fun hb => ?_)
  ·rw [if_pos (of_decide_eq_true hb)] at h
   refine HO.fin' 3 ?_
   exact H.ren' hS [0, 1, 2, 3] (ih_grown_L6 (x.1, x.2.1, x.2.2.1, x.2.2.2.1, (decide (x.2.2.1 < 40)), x.2.2.2.2.1, x.2.2.2.2.2.1, x.2.2.2.2.2.2.1, x.2.2.2.2.2.2.2.1, x.2.2.2.2.2.2.2.2.1, x.2.2.2.2.2.2.2.2.2.1, x.2.2.2.2.2.2.2.2.2.2.1, x.2.2.2.2.2.2.2.2.2.2.2) r h W0 w0 S hS)
  rw [if_neg (of_decide_eq_false hb)] at h
  refine HO.fin' 3 ?_
  exact H.ren' hS [0, 1, 2, 3] (ih_grown_L6 (x.1, x.2.1, x.2.2.1, x.2.2.2.1, false, x.2.2.2.2.1, x.2.2.2.2.2.1, x.2.2.2.2.2.2.1, x.2.2.2.2.2.2.2.1, x.2.2.2.2.2.2.2.2.1, x.2.2.2.2.2.2.2.2.2.1, x.2.2.2.2.2.2.2.2.2.2.1, x.2.2.2.2.2.2.2.2.2.2.2) r h W0 w0 S hS)
 ·intro g_grown_L1 ih_grown_L1 x r h
  intro W0
  refine PTo.of_body (fn := Tryz.f51) (code := cB Tryz.f51) Tryz.func51 rfl rfl ?_
  intro w0 S hS
  haveI := hS.noEx Tryz.prog
  refine H.sr' 2 ?_
  refine H.seq' ?_
  refine H.sg' ?_
  refine HO.go' 2 ?_
  refine HO.len (by kernel_rfl) (by kernel_rfl) (ls_size enc30 x.1) ?_
  refine HO.go' 1 ?_
  refine HO.bo' (decide ((x.1.length : Int) ≤ x.2.1)) (fun hb => ?_) (fun hb => ?_)
  ·rw [if_pos (of_decide_eq_true hb)] at h
   refine HO.fin' 3 ?_
   exact H.ren' hS [0] (ih_grown_L1 (x.1, x.2.1, x.2.2, true) r h W0 w0 S hS)
  rw [if_neg (of_decide_eq_false hb)] at h
  refine HO.fin' 3 ?_
  exact H.ren' hS [0] (ih_grown_L1 (x.1, x.2.1, x.2.2, (decide (40 ≤ x.2.1))) r h W0 w0 S hS)
 ·intro g_grown_L2 ih_grown_L2 x r h
  intro W0 w0 S hS
  haveI := hS.noEx Tryz.prog
  refine H.cS' (x.2.2.2) (fun hb => ?_) (fun hb => ?_)
  ·rw [if_pos hb] at h
   refine H.sr' 6 ?_
   refine H.ret' ?_
   refine Kseq_ret ?_
   obtain rfl := Option.some.inj h
   exact KEnd.of (v := .tuple #[.agg #[.int .u8 3, .int .u32 1, .bool false, .slice (some ⟨1, 0, none⟩) 0 0, .slice none 0 0], .int .i64 (IntKind.i64.wrap (x.2.1 + 1))]) (by kernel_rfl) (by kernel_rfl) (PEnd.frz 1 0 0 1 5 true ([].map (encI .u8)).toArray [] (by kernel_rfl) (PEnd.wk (v1 := .tuple #[.agg #[.int .u8 3, .int .u32 1, .bool false, ls 1 false (encI .u8) [], ls 5 false enc41 []], .int .i64 (IntKind.i64.wrap (x.2.1 + 1))]) (.tuple [.agg [.keep, .keep, .keep, .list 1 false, .list 5 false], .keep]) (by kernel_rfl) (PEnd.fin (by kernel_rfl))))
  rw [if_neg (ne_true hb)] at h
  refine H.skp' ?_
  refine Kseq_norm ?_
  refine H.sg' ?_
  refine HO.go' 2 ?_
  obtain ⟨y1, hy, h⟩ := bindS h
  refine HO.idx (.agg #[.int .u8 y1.c0, .int .u32 y1.c1, .bool y1.c2, ls 1 false (encI .u8) y1.c3, .int .u8 y1.c4]) hy (enc30_eq y1) (by kernel_rfl) ?_
  refine HO.fin' 3 ?_
  refine H.sr' 11 ?_
  refine H.seq' ?_
  refine H.sg' ?_
  refine HO.go' 3 ?_
  refine HO.bo' (decide ((remI .u8 y1.c0 4) = 0)) (fun hb => ?_) (fun hb => ?_)
  ·rw [if_pos (of_decide_eq_true hb)] at h
   refine HO.fin' 4 ?_
   exact H.ren' hS [0, 1, 2] (ih_grown_L2 (x.1, x.2.1, x.2.2.1, (decide ((remI .u32 y1.c1 2097152) = 0)), y1.c0, y1.c1, y1.c2, y1.c3, y1.c4, (remI .u8 y1.c0 4), (remI .u32 y1.c1 2097152)) r h W0 w0 S hS)
  rw [if_neg (of_decide_eq_false hb)] at h
  refine HO.fin' 4 ?_
  exact H.ren' hS [0, 1, 2] (ih_grown_L2 (x.1, x.2.1, x.2.2.1, false, y1.c0, y1.c1, y1.c2, y1.c3, y1.c4, (remI .u8 y1.c0 4), (remI .u32 y1.c1 2097152)) r h W0 w0 S hS)
 ·intro g_grown_L3 ih_grown_L3 x r h
  intro W0 w0 S hS
  haveI := hS.noEx Tryz.prog
  refine H.cS' (x.2.2.2.1) (fun hb => ?_) (fun hb => ?_)
  rotate_left
  ·rw [if_neg (ne_true hb)] at h
   refine H.skp' ?_
   refine Kseq_norm ?_
   exact H.ren' hS [0, 1, 2] (ih_grown_L3 (x.1, x.2.1, x.2.2.1, x.2.2.2.2.1, x.2.2.2.2.2.1, x.2.2.2.2.2.2.1, x.2.2.2.2.2.2.2.1, x.2.2.2.2.2.2.2.2.1, x.2.2.2.2.2.2.2.2.2.1, x.2.2.2.2.2.2.2.2.2.2) r h W0 w0 S hS)
  rw [if_pos hb] at h
  refine H.reg' ?_
  refine HO.fin' 2 ?_
  exact H.ren' hS [0, 1, 2] (ih_grown_L3 (x.1, x.2.1, x.2.2.1, x.2.2.2.2.1, x.2.2.2.2.2.1, x.2.2.2.2.2.2.1, x.2.2.2.2.2.2.2.1, x.2.2.2.2.2.2.2.2.1, x.2.2.2.2.2.2.2.2.2.1, 2) r h W0 w0 S hS)
 ·intro g_grown_L5 ih_grown_L5 x r h
  intro W0 w0 S hS
  haveI := hS.noEx Tryz.prog
  refine H.sr' 3 ?_
  refine H.seq' ?_
  refine H.sr' 3 ?_
  refine H.cS' (!x.2.2.2.2.2.1) (fun hb => ?_) (fun hb => ?_)
  rotate_left
  ·rw [if_neg (ne_true hb)] at h
   refine H.skp' ?_
   refine Kseq_norm ?_
   refine H.seq' ?_
   refine H.sr' 1 ?_
   refine H.blk' 0 ?_
   refine H.lop' ?_
   refine HL.tkc 2 41 5 4 5 [.int .u8 x.2.2.2.2.2.2.2.2.1, .int .u32 x.2.2.2.2.2.2.2.2.2, .bool x.2.2.2.2.2.1, .slice none 0 0, .slice none 0 0] (.slice none 0 0) #[] (by kernel_rfl) ?_
   exact HL.ren' hS [0, 1, 2, 3] (ih_grown_L5 (x.1, x.2.2.1, (IntKind.i64.wrap (x.2.1 + 1)), 0, x.2.2.2.1, x.2.2.2.2.1, x.2.2.2.2.2.1, x.2.2.2.2.2.2.1, x.2.2.2.2.2.2.2.1, x.2.2.2.2.2.2.2.2.1, x.2.2.2.2.2.2.2.2.2, []) r h W0 w0 S hS)
  rw [if_pos hb] at h
  refine H.sg' ?_
  refine HO.go' 5 ?_
  refine HO.len (by kernel_rfl) (by kernel_rfl) (ls_size (encI .u8) x.2.2.2.2.2.2.1) ?_
  refine HO.go' 1 ?_
  obtain ⟨y2, hy, h⟩ := bindS h
  refine HO.valA (sl2_aop (enc := (encI .u8)) (k := 1) (j := .i64) hy (by kernel_rfl)) ?_
  refine HO.tkz [52] 3 0 0 1 5 ([].map (encI .u8)).toArray [] (by kernel_rfl) ?_
  obtain ⟨y3, hy, h⟩ := bindS h
  by_cases hb : y2.length = 0
  ·rw [if_pos hb] at h
   refine HO.valA (appN_aop (ag := false) [] (encI_ok .u8) hy hb (by kernel_rfl)) ?_
   refine HO.fin' 2 ?_
   exact H.ren' hS [0, 2, 4] (grown_L4_ok ((IntKind.i64.wrap (x.2.1 + 1)), x.2.2.2.2.2.2.2.2.1, x.2.2.2.2.2.2.2.2.2, x.2.2.2.2.2.1, []) r h W0 w0 S hS)
  rw [if_neg hb] at h
  refine HO.effA (appL_aop (ag := false) [] (encI_ok .u8) hy hb (by kernel_rfl)) ?_
  refine HO.fin' 2 ?_
  exact H.ren' hS [0, 2, 5] (grown_L4_ok ((IntKind.i64.wrap (x.2.1 + 1)), x.2.2.2.2.2.2.2.2.1, x.2.2.2.2.2.2.2.2.2, x.2.2.2.2.2.1, y3) r h W0 w0 S hS)
theorem grown_L6_ok : ∀ x r, grown_L6 x = some r → T_grown_L6 x r := grown_L6_grp.1
theorem grown_L5_ok : ∀ x r, grown_L5 x = some r → T_grown_L5 x r := grown_L6_grp.2.1
theorem grown_ok : ∀ x r, grown x = some r → T_grown x r := grown_L6_grp.2.2.1
theorem grown_L1_ok : ∀ x r, grown_L1 x = some r → T_grown_L1 x r := grown_L6_grp.2.2.2.1
theorem grown_L2_ok : ∀ x r, grown_L2 x = some r → T_grown_L2 x r := grown_L6_grp.2.2.2.2.1
theorem grown_L3_ok : ∀ x r, grown_L3 x = some r → T_grown_L3 x r := grown_L6_grp.2.2.2.2.2
def tOf (x : (List S30)) : Option (Int × Int × Bool × (List Int) × (List S41)) :=
 (grown (x, 0, 1)) >>= fun y1 =>
 some (y1.1, y1.2.1, y1.2.2.1, y1.2.2.2.1, y1.2.2.2.2.1)
theorem tOf_ok : ∀ (x : (List S30)) (r : Int × Int × Bool × (List Int) × (List S41)), tOf x = some r → ∀ W0 : World, PTo Tryz.prog W0 18 #[ls 5 false enc30 x] (.returned (.agg #[.int .u8 r.1, .int .u32 r.2.1, .bool r.2.2.1, ls 1 false (encI .u8) r.2.2.2.1, ls 5 false enc41 r.2.2.2.2])) := by
 intro x r h
 unfold tOf at h
 intro W0
 refine PTo.of_body (fn := Tryz.f18) (code := cB Tryz.f18) Tryz.func18 rfl rfl ?_
 intro w0 S hS
 haveI := hS.noEx Tryz.prog
 refine H.sr' 1 ?_
 refine H.sg' ?_
 refine HO.go' 1 ?_
 obtain ⟨y1, hy, h⟩ := bindS h
 refine HO.callW hS [.list 5 false, .keep, .keep] (grown_ok (x, 0, 1) y1 hy W0) (by kernel_rfl) (by kernel_rfl) ?_
 refine HO.fin' 6 ?_
 refine H.sr' 2 ?_
 refine H.ret' ?_
 obtain rfl := Option.some.inj h
 exact KEnd.retW (v := .agg #[.int .u8 y1.1, .int .u32 y1.2.1, .bool y1.2.2.1, ls 1 false (encI .u8) y1.2.2.2.1, ls 5 false enc41 y1.2.2.2.2.1]) (.agg [.keep, .keep, .keep, .list 1 false, .list 5 false]) (by kernel_rfl) (by kernel_rfl) (by kernel_rfl) (by kernel_rfl)
mutual
def measure_L2 (x : Int × (List S41) × Int × Int × Int) : Option (Bool × Int) :=
 if x.2.2.2.1 < x.2.2.1 then
  (at' x.2.1 x.2.2.2.1) >>= fun y1 =>
  (measure (y1.c0, y1.c1, y1.c2, y1.c3, y1.c4, (IntKind.i64.wrap (x.1 + 1)), x.2.2.2.2)) >>= fun y2 =>
  if (!y2.1) = true then
   some (false, y2.2)
  else
   measure_L2 (x.1, x.2.1, x.2.2.1, (IntKind.i64.wrap (x.2.2.2.1 + 1)), y2.2)
 else
  some (true, x.2.2.2.2)
partial_fixpoint
def measure (x : Int × Int × Bool × (List Int) × (List S41) × Int × Int) : Option (Bool × Int) :=
 if 16 < x.2.2.2.2.2.1 then
  measure_L1 (x.2.2.2.2.2.1, true, (IntKind.i64.wrap (x.2.2.2.2.2.2 + 1)), x.1, x.2.1, x.2.2.1, x.2.2.2.1, x.2.2.2.2.1)
 else
  measure_L1 (x.2.2.2.2.2.1, (decide (1024 < (IntKind.i64.wrap (x.2.2.2.2.2.2 + 1)))), (IntKind.i64.wrap (x.2.2.2.2.2.2 + 1)), x.1, x.2.1, x.2.2.1, x.2.2.2.1, x.2.2.2.2.1)
partial_fixpoint
def measure_L1 (x : Int × Bool × Int × Int × Int × Bool × (List Int) × (List S41)) : Option (Bool × Int) :=
 if x.2.1 = true then
  some (false, x.2.2.1)
 else
  measure_L2 (x.1, x.2.2.2.2.2.2.2, (x.2.2.2.2.2.2.2.length : Int), 0, x.2.2.1)
partial_fixpoint
end
abbrev T_measure_L2 (x : Int × (List S41) × Int × Int × Int) (r : Bool × Int) : Prop := ∀ (W0 w0 : World) (S : Own), Std W0 w0 S 1 → HL Tryz.prog w0 S 36 (cL (cL (cR (cL (cR (cR (cR (cB Tryz.f92)))))))) (mkS [(1, .int .i64 x.1), (2, .pointer (some ⟨0, 0, none⟩)), (23, ls 5 false enc41 x.2.1), (24, .int .i64 x.2.2.1), (25, .int .i64 x.2.2.2.1)] [(0, .cells [.int .i64 x.2.2.2.2] 3 1)] 1 []) (Kblock 0 (Kseq Tryz.prog w0 S 36 (cR (cR (cR (cR (cB Tryz.f92))))) (KEnd Tryz.prog Tryz.f92 (FEnd w0 S (.returned (.bool r.1)) (mkW 1 [] [(0, .cells [.int .i64 r.2] 3 1)])))))
abbrev T_measure (x : Int × Int × Bool × (List Int) × (List S41) × Int × Int) (r : Bool × Int) : Prop := ∀ W0 : World, FTo Tryz.prog W0 92 #[.agg #[.int .u8 x.1, .int .u32 x.2.1, .bool x.2.2.1, ls 1 false (encI .u8) x.2.2.2.1, ls 5 false enc41 x.2.2.2.2.1], .int .i64 x.2.2.2.2.2.1, .pointer (some ⟨0, 0, none⟩)] (mkW 1 [] [(0, .cells [.int .i64 x.2.2.2.2.2.2] 3 1)]) (.returned (.bool r.1)) (mkW 1 [] [(0, .cells [.int .i64 r.2] 3 1)])
abbrev T_measure_L1 (x : Int × Bool × Int × Int × Int × Bool × (List Int) × (List S41)) (r : Bool × Int) : Prop := ∀ (W0 w0 : World) (S : Own), Std W0 w0 S 1 → H Tryz.prog w0 S 36 (cR (cL (cR (cR (cB Tryz.f92))))) (mkS [(1, .int .i64 x.1), (2, .pointer (some ⟨0, 0, none⟩)), (3, .pointer (some ⟨1, 0, none⟩)), (21, .bool x.2.1)] [(0, .cells [.int .i64 x.2.2.1] 3 1), (1, .cells [.int .u8 x.2.2.2.1, .int .u32 x.2.2.2.2.1, .bool x.2.2.2.2.2.1, ls 1 false (encI .u8) x.2.2.2.2.2.2.1, ls 5 false enc41 x.2.2.2.2.2.2.2] 41 5)] 2 []) (Kseq Tryz.prog w0 S 36 (cR (cR (cR (cB Tryz.f92)))) (KEnd Tryz.prog Tryz.f92 (FEnd w0 S (.returned (.bool r.1)) (mkW 1 [] [(0, .cells [.int .i64 r.2] 3 1)]))))
theorem measure_L2_grp : (∀ x r, measure_L2 x = some r → T_measure_L2 x r) ∧
 (∀ x r, measure x = some r → T_measure x r) ∧
 (∀ x r, measure_L1 x = some r → T_measure_L1 x r) := by
 refine measure_L2.mutual_partial_correctness T_measure_L2 T_measure T_measure_L1 ?_ ?_ ?_
 ·intro g_measure_L2 g_measure ih_measure_L2 ih_measure x r h
  intro W0 w0 S hS
  haveI := hS.noEx Tryz.prog
  refine HL.round ?_
  refine H.sr' 1 ?_
  refine H.seq' ?_
  refine H.cS' (decide (x.2.2.2.1 < x.2.2.1)) (fun hb => ?_) (fun hb => ?_)
  rotate_left
  ·rw [if_neg (of_decide_eq_false hb)] at h
   refine H.ext' 0 ?_
   refine Kseq_exit ?_
   refine Kloop_exit ?_
   refine Kblock_hit ?_
   refine Kseq_norm ?_
   refine H.sr' 1 ?_
   refine H.ret' ?_
   obtain rfl := Option.some.inj h
   exact KEnd.of (v := .bool true) (by kernel_rfl) (by kernel_rfl) (FEnd.ren hS [0] _ _ (by kernel_rfl))
  rw [if_pos (of_decide_eq_true hb)] at h
  refine H.skp' ?_
  refine Kseq_norm ?_
  refine H.seq' ?_
  refine H.blk' 1 ?_
  refine H.sg' ?_
  obtain ⟨y1, hy, h⟩ := bindS h
  refine HO.idx (.agg #[.int .u8 y1.c0, .int .u32 y1.c1, .bool y1.c2, ls 1 false (encI .u8) y1.c3, ls 5 false enc41 y1.c4]) hy (enc41_eq y1) (by kernel_rfl) ?_
  refine HO.fin' 3 ?_
  refine H.sg' ?_
  refine HO.go' 4 ?_
  obtain ⟨y2, hy, h⟩ := bindS h
  refine HO.callFW hS (.bool y2.1) 2 [] [(0, .cells [.int .i64 y2.2] 3 1), (1, .cells [.int .u8 y1.c0, .int .u32 y1.c1, .bool y1.c2, ls 1 false (encI .u8) y1.c3, ls 5 false enc41 y1.c4] 41 5)] [0] [.agg [.keep, .keep, .keep, .list 1 false, .list 5 false], .keep, .keep] (ih_measure (y1.c0, y1.c1, y1.c2, y1.c3, y1.c4, (IntKind.i64.wrap (x.1 + 1)), x.2.2.2.2) y2 hy W0) (by kernel_rfl) (by kernel_rfl) ?_
  refine HO.fin' 1 ?_
  refine H.cS' (!y2.1) (fun hb => ?_) (fun hb => ?_)
  rotate_left
  ·rw [if_neg (ne_true hb)] at h
   refine H.skp' ?_
   refine Kblock_norm ?_
   refine Kseq_norm ?_
   refine H.reg' ?_
   refine HO.go' 2 ?_
   refine HO.end' ?_
   refine Kloop_norm ?_
   exact HL.ren' hS [0] (ih_measure_L2 (x.1, x.2.1, x.2.2.1, (IntKind.i64.wrap (x.2.2.2.1 + 1)), y2.2) r h W0 w0 S hS)
  rw [if_pos hb] at h
  refine H.sr' 1 ?_
  refine H.ret' ?_
  refine Kblock_ret ?_
  refine Kseq_ret ?_
  refine Kloop_ret ?_
  refine Kblock_ret ?_
  refine Kseq_ret ?_
  obtain rfl := Option.some.inj h
  exact KEnd.of (v := .bool false) (by kernel_rfl) (by kernel_rfl) (FEnd.ren hS [0] _ _ (by kernel_rfl))
 ·intro g_measure_L1 ih_measure_L1 x r h
  intro W0
  refine FTo.of_body (fn := Tryz.f92) (code := cB Tryz.f92) Tryz.func92 rfl rfl ?_
  intro w0 S hS
  haveI := hS.noEx Tryz.prog
  refine H.sr' 2 ?_
  refine H.sr' 6 ?_
  refine H.seq' ?_
  refine H.sg' ?_
  refine HO.go' 2 ?_
  refine HO.bo' (decide (16 < x.2.2.2.2.2.1)) (fun hb => ?_) (fun hb => ?_)
  ·rw [if_pos (of_decide_eq_true hb)] at h
   refine HO.fin' 5 ?_
   exact H.ren' hS [0, 1] (ih_measure_L1 (x.2.2.2.2.2.1, true, (IntKind.i64.wrap (x.2.2.2.2.2.2 + 1)), x.1, x.2.1, x.2.2.1, x.2.2.2.1, x.2.2.2.2.1) r h W0 w0 S hS)
  rw [if_neg (of_decide_eq_false hb)] at h
  refine HO.fin' 5 ?_
  exact H.ren' hS [0, 1] (ih_measure_L1 (x.2.2.2.2.2.1, (decide (1024 < (IntKind.i64.wrap (x.2.2.2.2.2.2 + 1)))), (IntKind.i64.wrap (x.2.2.2.2.2.2 + 1)), x.1, x.2.1, x.2.2.1, x.2.2.2.1, x.2.2.2.2.1) r h W0 w0 S hS)
 ·intro g_measure_L2 ih_measure_L2 x r h
  intro W0 w0 S hS
  haveI := hS.noEx Tryz.prog
  refine H.cS' (x.2.1) (fun hb => ?_) (fun hb => ?_)
  ·rw [if_pos hb] at h
   refine H.sr' 1 ?_
   refine H.ret' ?_
   refine Kseq_ret ?_
   obtain rfl := Option.some.inj h
   exact KEnd.of (v := .bool false) (by kernel_rfl) (by kernel_rfl) (FEnd.ren hS [0] _ _ (by kernel_rfl))
  rw [if_neg (ne_true hb)] at h
  refine H.skp' ?_
  refine Kseq_norm ?_
  refine H.seq' ?_
  refine H.sg' ?_
  refine HO.go' 2 ?_
  refine HO.len (by kernel_rfl) (by kernel_rfl) (ls_size enc41 x.2.2.2.2.2.2.2) ?_
  refine HO.fin' 1 ?_
  refine H.blk' 0 ?_
  refine H.lop' ?_
  exact HL.ren' hS [0] (ih_measure_L2 (x.1, x.2.2.2.2.2.2.2, (x.2.2.2.2.2.2.2.length : Int), 0, x.2.2.1) r h W0 w0 S hS)
theorem measure_L2_ok : ∀ x r, measure_L2 x = some r → T_measure_L2 x r := measure_L2_grp.1
theorem measure_ok : ∀ x r, measure x = some r → T_measure x r := measure_L2_grp.2.1
theorem measure_L1_ok : ∀ x r, measure_L1 x = some r → T_measure_L1 x r := measure_L2_grp.2.2
mutual
def indexF_L1 (x : (List S41) × Int × Int) : Option (Int) :=
 if x.2.2 < x.2.1 then
  (at' x.1 x.2.2) >>= fun y1 =>
  (plainF (y1.c0, y1.c1, y1.c2, y1.c3, y1.c4)) >>= fun y2 =>
  if y2 = true then
   some x.2.2
  else
   indexF_L1 (x.1, x.2.1, (IntKind.i64.wrap (x.2.2 + 1)))
 else
  some (-1)
partial_fixpoint
def plainF (x : Int × Int × Bool × (List Int) × (List S41)) : Option (Bool) :=
 (plain (x.1, x.2.1, x.2.2.1, x.2.2.2.1, x.2.2.2.2)) >>= fun y1 =>
 some (!y1)
partial_fixpoint
def plain (x : Int × Int × Bool × (List Int) × (List S41)) : Option (Bool) :=
 if 3 < x.1 then
  plain_L1 (true, x.1, x.2.1, x.2.2.1, x.2.2.2.1, x.2.2.2.2)
 else
  if 2097151 < x.2.1 then
   plain_L1 (true, x.1, x.2.1, x.2.2.1, x.2.2.2.1, x.2.2.2.2)
  else
   if x.1 = 0 then
    plain_L1 ((decide (x.2.1 = 0)), x.1, x.2.1, x.2.2.1, x.2.2.2.1, x.2.2.2.2)
   else
    plain_L1 (false, x.1, x.2.1, x.2.2.1, x.2.2.2.1, x.2.2.2.2)
partial_fixpoint
def plain_L1 (x : Bool × Int × Int × Bool × (List Int) × (List S41)) : Option (Bool) :=
 if x.1 = true then
  some false
 else
  if x.2.2.2.1 = true then
   if 0 < (x.2.2.2.2.1.length : Int) then
    plain_L2 (true, x.2.1, x.2.2.1, x.2.2.2.1, x.2.2.2.2.1, x.2.2.2.2.2)
   else
    if (!x.2.2.2.1) = true then
     plain_L2 ((decide (0 < (x.2.2.2.2.2.length : Int))), x.2.1, x.2.2.1, x.2.2.2.1, x.2.2.2.2.1, x.2.2.2.2.2)
    else
     plain_L2 (false, x.2.1, x.2.2.1, x.2.2.2.1, x.2.2.2.2.1, x.2.2.2.2.2)
  else
   if (!x.2.2.2.1) = true then
    plain_L2 ((decide (0 < (x.2.2.2.2.2.length : Int))), x.2.1, x.2.2.1, x.2.2.2.1, x.2.2.2.2.1, x.2.2.2.2.2)
   else
    plain_L2 (false, x.2.1, x.2.2.1, x.2.2.2.1, x.2.2.2.2.1, x.2.2.2.2.2)
partial_fixpoint
def plain_L2 (x : Bool × Int × Int × Bool × (List Int) × (List S41)) : Option (Bool) :=
 if x.1 = true then
  some false
 else
  (containsF x.2.2.2.2.2) >>= fun y1 =>
  some (!y1)
partial_fixpoint
def containsF (x : (List S41)) : Option (Bool) :=
 (indexF x) >>= fun y1 =>
 some (decide (0 ≤ y1))
partial_fixpoint
def indexF (x : (List S41)) : Option (Int) :=
 indexF_L1 (x, (x.length : Int), 0)
partial_fixpoint
end
abbrev T_indexF_L1 (x : (List S41) × Int × Int) (r : Int) : Prop := ∀ (W0 w0 : World) (S : Own), Std W0 w0 S 0 → HL Tryz.prog w0 S 19 (cL (cL (cR (cL (cR (cB Tryz.f118)))))) (mkS [(0, ls 5 false enc41 x.1), (1, .func (.func 117) #[] #[]), (7, .int .i64 x.2.1), (8, .int .i64 x.2.2)] [] 0 []) (Kblock 0 (Kseq Tryz.prog w0 S 19 (cR (cR (cB Tryz.f118))) (KEnd Tryz.prog Tryz.f118 (PEnd w0 S (.returned (.int .i64 r))))))
abbrev T_plainF (x : Int × Int × Bool × (List Int) × (List S41)) (r : Bool) : Prop := ∀ W0 : World, PTo Tryz.prog W0 117 #[.agg #[.int .u8 x.1, .int .u32 x.2.1, .bool x.2.2.1, ls 1 false (encI .u8) x.2.2.2.1, ls 5 false enc41 x.2.2.2.2]] (.returned (.bool r))
abbrev T_plain (x : Int × Int × Bool × (List Int) × (List S41)) (r : Bool) : Prop := ∀ W0 : World, PTo Tryz.prog W0 93 #[.agg #[.int .u8 x.1, .int .u32 x.2.1, .bool x.2.2.1, ls 1 false (encI .u8) x.2.2.2.1, ls 5 false enc41 x.2.2.2.2]] (.returned (.bool r))
abbrev T_plain_L1 (x : Bool × Int × Int × Bool × (List Int) × (List S41)) (r : Bool) : Prop := ∀ (W0 w0 : World) (S : Own), Std W0 w0 S 0 → H Tryz.prog w0 S 44 (cR (cL (cR (cB Tryz.f93)))) (mkS [(1, .pointer (some ⟨0, 0, none⟩)), (20, .bool x.1)] [(0, .cells [.int .u8 x.2.1, .int .u32 x.2.2.1, .bool x.2.2.2.1, ls 1 false (encI .u8) x.2.2.2.2.1, ls 5 false enc41 x.2.2.2.2.2] 41 5)] 1 []) (Kseq Tryz.prog w0 S 44 (cR (cR (cB Tryz.f93))) (KEnd Tryz.prog Tryz.f93 (PEnd w0 S (.returned (.bool r)))))
abbrev T_plain_L2 (x : Bool × Int × Int × Bool × (List Int) × (List S41)) (r : Bool) : Prop := ∀ (W0 w0 : World) (S : Own), Std W0 w0 S 0 → H Tryz.prog w0 S 44 (cR (cL (cR (cR (cB Tryz.f93))))) (mkS [(1, .pointer (some ⟨0, 0, none⟩)), (39, .bool x.1)] [(0, .cells [.int .u8 x.2.1, .int .u32 x.2.2.1, .bool x.2.2.2.1, ls 1 false (encI .u8) x.2.2.2.2.1, ls 5 false enc41 x.2.2.2.2.2] 41 5)] 1 []) (Kseq Tryz.prog w0 S 44 (cR (cR (cR (cB Tryz.f93)))) (KEnd Tryz.prog Tryz.f93 (PEnd w0 S (.returned (.bool r)))))
abbrev T_containsF (x : (List S41)) (r : Bool) : Prop := ∀ W0 : World, PTo Tryz.prog W0 116 #[ls 5 false enc41 x, .func (.func 117) #[] #[]] (.returned (.bool r))
abbrev T_indexF (x : (List S41)) (r : Int) : Prop := ∀ W0 : World, PTo Tryz.prog W0 118 #[ls 5 false enc41 x, .func (.func 117) #[] #[]] (.returned (.int .i64 r))
theorem indexF_L1_grp : (∀ x r, indexF_L1 x = some r → T_indexF_L1 x r) ∧
 (∀ x r, plainF x = some r → T_plainF x r) ∧
 (∀ x r, plain x = some r → T_plain x r) ∧
 (∀ x r, plain_L1 x = some r → T_plain_L1 x r) ∧
 (∀ x r, plain_L2 x = some r → T_plain_L2 x r) ∧
 (∀ x r, containsF x = some r → T_containsF x r) ∧
 (∀ x r, indexF x = some r → T_indexF x r) := by
 refine indexF_L1.mutual_partial_correctness T_indexF_L1 T_plainF T_plain T_plain_L1 T_plain_L2 T_containsF T_indexF ?_ ?_ ?_ ?_ ?_ ?_ ?_
 ·intro g_indexF_L1 g_plainF ih_indexF_L1 ih_plainF x r h
  intro W0 w0 S hS
  haveI := hS.noEx Tryz.prog
  refine HL.round ?_
  refine H.sr' 1 ?_
  refine H.seq' ?_
  refine H.cS' (decide (x.2.2 < x.2.1)) (fun hb => ?_) (fun hb => ?_)
  rotate_left
  ·rw [if_neg (of_decide_eq_false hb)] at h
   refine H.ext' 0 ?_
   refine Kseq_exit ?_
   refine Kloop_exit ?_
   refine Kblock_hit ?_
   refine Kseq_norm ?_
   refine H.sr' 1 ?_
   refine H.ret' ?_
   obtain rfl := Option.some.inj h
   exact KEnd.r'
  rw [if_pos (of_decide_eq_true hb)] at h
  refine H.skp' ?_
  refine Kseq_norm ?_
  refine H.seq' ?_
  refine H.blk' 1 ?_
  refine H.sr' 2 ?_
  refine H.sg' ?_
  refine HO.go' 3 ?_
  obtain ⟨y1, hy, h⟩ := bindS h
  refine HO.idx (.agg #[.int .u8 y1.c0, .int .u32 y1.c1, .bool y1.c2, ls 1 false (encI .u8) y1.c3, ls 5 false enc41 y1.c4]) hy (enc41_eq y1) (by kernel_rfl) ?_
  refine HO.go' 1 ?_
  obtain ⟨y2, hy, h⟩ := bindS h
  refine HO.callW hS [.agg [.keep, .keep, .keep, .list 1 false, .list 5 false]] (ih_plainF (y1.c0, y1.c1, y1.c2, y1.c3, y1.c4) y2 hy W0) (by kernel_rfl) (by kernel_rfl) ?_
  refine HO.fin' 0 ?_
  refine H.cS' (y2) (fun hb => ?_) (fun hb => ?_)
  rotate_left
  ·rw [if_neg (ne_true hb)] at h
   refine H.skp' ?_
   refine Kblock_norm ?_
   refine Kseq_norm ?_
   refine H.reg' ?_
   refine HO.go' 2 ?_
   refine HO.end' ?_
   refine Kloop_norm ?_
   exact HL.ren' hS [] (ih_indexF_L1 (x.1, x.2.1, (IntKind.i64.wrap (x.2.2 + 1))) r h W0 w0 S hS)
  rw [if_pos hb] at h
  refine H.sr' 2 ?_
  refine H.ret' ?_
  refine Kblock_ret ?_
  refine Kseq_ret ?_
  refine Kloop_ret ?_
  refine Kblock_ret ?_
  refine Kseq_ret ?_
  obtain rfl := Option.some.inj h
  exact KEnd.r'
 ·intro g_plain ih_plain x r h
  intro W0
  refine PTo.of_body (fn := Tryz.f117) (code := cB Tryz.f117) Tryz.func117 rfl rfl ?_
  intro w0 S hS
  haveI := hS.noEx Tryz.prog
  refine H.sr' 2 ?_
  refine H.sg' ?_
  refine HO.go' 1 ?_
  obtain ⟨y1, hy, h⟩ := bindS h
  refine HO.callW hS [.agg [.keep, .keep, .keep, .list 1 false, .list 5 false]] (ih_plain (x.1, x.2.1, x.2.2.1, x.2.2.2.1, x.2.2.2.2) y1 hy W0) (by kernel_rfl) (by kernel_rfl) ?_
  refine HO.fin' 2 ?_
  refine H.ret' ?_
  obtain rfl := Option.some.inj h
  exact KEnd.r'
 ·intro g_plain_L1 ih_plain_L1 x r h
  intro W0
  refine PTo.of_body (fn := Tryz.f93) (code := cB Tryz.f93) Tryz.func93 rfl rfl ?_
  intro w0 S hS
  haveI := hS.noEx Tryz.prog
  refine H.sr' 2 ?_
  refine H.seq' ?_
  refine H.sg' ?_
  refine HO.go' 3 ?_
  refine HO.bo' (decide (3 < x.1)) (fun hb => ?_) (fun hb => ?_)
  ·rw [if_pos (of_decide_eq_true hb)] at h
   refine HO.fin' 14 ?_
   exact H.ren' hS [0] (ih_plain_L1 (true, x.1, x.2.1, x.2.2.1, x.2.2.2.1, x.2.2.2.2) r h W0 w0 S hS)
  rw [if_neg (of_decide_eq_false hb)] at h
  refine HO.go' 4 ?_
  refine HO.bo' (decide (2097151 < x.2.1)) (fun hb => ?_) (fun hb => ?_)
  ·rw [if_pos (of_decide_eq_true hb)] at h
   refine HO.fin' 9 ?_
   exact H.ren' hS [0] (ih_plain_L1 (true, x.1, x.2.1, x.2.2.1, x.2.2.2.1, x.2.2.2.2) r h W0 w0 S hS)
  rw [if_neg (of_decide_eq_false hb)] at h
  refine HO.go' 3 ?_
  refine HO.bo' (decide (x.1 = 0)) (fun hb => ?_) (fun hb => ?_)
  ·rw [if_pos (of_decide_eq_true hb)] at h
   refine HO.fin' 5 ?_
   exact H.ren' hS [0] (ih_plain_L1 ((decide (x.2.1 = 0)), x.1, x.2.1, x.2.2.1, x.2.2.2.1, x.2.2.2.2) r h W0 w0 S hS)
  rw [if_neg (of_decide_eq_false hb)] at h
  refine HO.fin' 5 ?_
  exact H.ren' hS [0] (ih_plain_L1 (false, x.1, x.2.1, x.2.2.1, x.2.2.2.1, x.2.2.2.2) r h W0 w0 S hS)
 ·intro g_plain_L2 ih_plain_L2 x r h
  intro W0 w0 S hS
  haveI := hS.noEx Tryz.prog
  refine H.cS' (x.1) (fun hb => ?_) (fun hb => ?_)
  ·rw [if_pos hb] at h
   refine H.sr' 1 ?_
   refine H.ret' ?_
   refine Kseq_ret ?_
   obtain rfl := Option.some.inj h
   exact KEnd.r'
  rw [if_neg (ne_true hb)] at h
  refine H.skp' ?_
  refine Kseq_norm ?_
  refine H.seq' ?_
  refine H.sg' ?_
  refine HO.go' 2 ?_
  refine HO.bo' x.2.2.2.1 (fun hb => ?_) (fun hb => ?_)
  rotate_left
  ·rw [if_neg (ne_true hb)] at h
   refine HO.go' 9 ?_
   refine HO.bo' (!x.2.2.2.1) (fun hb => ?_) (fun hb => ?_)
   rotate_left
   ·rw [if_neg (ne_true hb)] at h
    refine HO.fin' 6 ?_
    exact H.ren' hS [0] (ih_plain_L2 (false, x.2.1, x.2.2.1, x.2.2.2.1, x.2.2.2.2.1, x.2.2.2.2.2) r h W0 w0 S hS)
   rw [if_pos hb] at h
   refine HO.go' 2 ?_
   refine HO.len (by kernel_rfl) (by kernel_rfl) (ls_size enc41 x.2.2.2.2.2) ?_
   refine HO.fin' 3 ?_
   exact H.ren' hS [0] (ih_plain_L2 ((decide (0 < (x.2.2.2.2.2.length : Int))), x.2.1, x.2.2.1, x.2.2.2.1, x.2.2.2.2.1, x.2.2.2.2.2) r h W0 w0 S hS)
  rw [if_pos hb] at h
  refine HO.go' 2 ?_
  refine HO.len (by kernel_rfl) (by kernel_rfl) (ls_size (encI .u8) x.2.2.2.2.1) ?_
  refine HO.go' 2 ?_
  refine HO.bo' (decide (0 < (x.2.2.2.2.1.length : Int))) (fun hb => ?_) (fun hb => ?_)
  ·rw [if_pos (of_decide_eq_true hb)] at h
   refine HO.fin' 10 ?_
   exact H.ren' hS [0] (ih_plain_L2 (true, x.2.1, x.2.2.1, x.2.2.2.1, x.2.2.2.2.1, x.2.2.2.2.2) r h W0 w0 S hS)
  rw [if_neg (of_decide_eq_false hb)] at h
  refine HO.go' 3 ?_
  refine HO.bo' (!x.2.2.2.1) (fun hb => ?_) (fun hb => ?_)
  rotate_left
  ·rw [if_neg (ne_true hb)] at h
   refine HO.fin' 6 ?_
   exact H.ren' hS [0] (ih_plain_L2 (false, x.2.1, x.2.2.1, x.2.2.2.1, x.2.2.2.2.1, x.2.2.2.2.2) r h W0 w0 S hS)
  rw [if_pos hb] at h
  refine HO.go' 2 ?_
  refine HO.len (by kernel_rfl) (by kernel_rfl) (ls_size enc41 x.2.2.2.2.2) ?_
  refine HO.fin' 3 ?_
  exact H.ren' hS [0] (ih_plain_L2 ((decide (0 < (x.2.2.2.2.2.length : Int))), x.2.1, x.2.2.1, x.2.2.2.1, x.2.2.2.2.1, x.2.2.2.2.2) r h W0 w0 S hS)
 ·intro g_containsF ih_containsF x r h
  intro W0 w0 S hS
  haveI := hS.noEx Tryz.prog
  refine H.cS' (x.1) (fun hb => ?_) (fun hb => ?_)
  ·rw [if_pos hb] at h
   refine H.sr' 1 ?_
   refine H.ret' ?_
   refine Kseq_ret ?_
   obtain rfl := Option.some.inj h
   exact KEnd.r'
  rw [if_neg (ne_true hb)] at h
  refine H.skp' ?_
  refine Kseq_norm ?_
  refine H.sg' ?_
  refine HO.go' 2 ?_
  obtain ⟨y1, hy, h⟩ := bindS h
  refine HO.callW hS [.list 5 false, .keep] (ih_containsF x.2.2.2.2.2 y1 hy W0) (by kernel_rfl) (by kernel_rfl) ?_
  refine HO.fin' 2 ?_
  refine H.ret' ?_
  obtain rfl := Option.some.inj h
  exact KEnd.r'
 ·intro g_indexF ih_indexF x r h
  intro W0
  refine PTo.of_body (fn := Tryz.f116) (code := cB Tryz.f116) Tryz.func116 rfl rfl ?_
  intro w0 S hS
  haveI := hS.noEx Tryz.prog
  refine H.sr' 1 ?_
  refine H.sg' ?_
  refine HO.go' 2 ?_
  obtain ⟨y1, hy, h⟩ := bindS h
  refine HO.callW hS [.list 5 false, .keep] (ih_indexF x y1 hy W0) (by kernel_rfl) (by kernel_rfl) ?_
  refine HO.fin' 2 ?_
  refine H.ret' ?_
  obtain rfl := Option.some.inj h
  exact KEnd.r'
 ·intro g_indexF_L1 ih_indexF_L1 x r h
  intro W0
  refine PTo.of_body (fn := Tryz.f118) (code := cB Tryz.f118) Tryz.func118 rfl rfl ?_
  intro w0 S hS
  haveI := hS.noEx Tryz.prog
  refine H.sr' 1 ?_
  refine H.seq' ?_
  refine H.sg' ?_
  refine HO.go' 1 ?_
  refine HO.len (by kernel_rfl) (by kernel_rfl) (ls_size enc41 x) ?_
  refine HO.fin' 1 ?_
  refine H.blk' 0 ?_
  refine H.lop' ?_
  exact HL.ren' hS [] (ih_indexF_L1 (x, (x.length : Int), 0) r h W0 w0 S hS)
theorem indexF_L1_ok : ∀ x r, indexF_L1 x = some r → T_indexF_L1 x r := indexF_L1_grp.1
theorem plainF_ok : ∀ x r, plainF x = some r → T_plainF x r := indexF_L1_grp.2.1
theorem plain_ok : ∀ x r, plain x = some r → T_plain x r := indexF_L1_grp.2.2.1
theorem plain_L1_ok : ∀ x r, plain_L1 x = some r → T_plain_L1 x r := indexF_L1_grp.2.2.2.1
theorem plain_L2_ok : ∀ x r, plain_L2 x = some r → T_plain_L2 x r := indexF_L1_grp.2.2.2.2.1
theorem containsF_ok : ∀ x r, containsF x = some r → T_containsF x r := indexF_L1_grp.2.2.2.2.2.1
theorem indexF_ok : ∀ x r, indexF x = some r → T_indexF x r := indexF_L1_grp.2.2.2.2.2.2
end Vf
