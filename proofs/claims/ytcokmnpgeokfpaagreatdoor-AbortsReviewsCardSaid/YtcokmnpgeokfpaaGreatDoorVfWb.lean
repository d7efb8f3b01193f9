import Derived.Test.YtcokmnpgeokfpaaGreatDoorVfW
set_option linter.unusedVariables false
set_option linter.unusedSimpArgs false
set_option maxHeartbeats 4000000
namespace Vf
open Go Go.Vx Go.Proofs
def check (x : Int × Int × Bool × (List Int) × (List S41)) : Option (Int) :=
 (measure (x.1, x.2.1, x.2.2.1, x.2.2.2.1, x.2.2.2.2, 1, 0)) >>= fun y1 =>
 if (!y1.1) = true then
  some 3
 else
  (plain (x.1, x.2.1, x.2.2.1, x.2.2.2.1, x.2.2.2.2)) >>= fun y2 =>
  if (!y2) = true then
   some 1
  else
   some 0
theorem check_ok : ∀ (x : Int × Int × Bool × (List Int) × (List S41)) (r : Int), check x = some r → ∀ W0 : World, PTo Tryz.prog W0 53 #[.agg #[.int .u8 x.1, .int .u32 x.2.1, .bool x.2.2.1, ls 1 false (encI .u8) x.2.2.2.1, ls 5 false enc41 x.2.2.2.2]] (.returned (.int .i64 r)) := by
 intro x r h
 unfold check at h
 intro W0
 refine PTo.of_body (fn := Tryz.f53) (code := cB Tryz.f53) Tryz.func53 rfl rfl ?_
 intro w0 S hS
 haveI := hS.noEx Tryz.prog
 refine H.sr' 2 ?_
 refine H.sr' 2 ?_
 refine H.seq' ?_
 refine H.blk' 0 ?_
 refine H.sg' ?_
 refine HO.go' 1 ?_
 obtain ⟨y1, hy, h⟩ := bindS h
 refine HO.callFW hS (.bool y1.1) 2 [] [(0, .cells [.int .u8 x.1, .int .u32 x.2.1, .bool x.2.2.1, ls 1 false (encI .u8) x.2.2.2.1, ls 5 false enc41 x.2.2.2.2] 41 5), (1, .cells [.int .i64 y1.2] 3 1)] [1] [.agg [.keep, .keep, .keep, .list 1 false, .list 5 false], .keep, .keep] (measure_ok (x.1, x.2.1, x.2.2.1, x.2.2.2.1, x.2.2.2.2, 1, 0) y1 hy W0) (by kernel_rfl) (by kernel_rfl) ?_
 refine HO.fin' 2 ?_
 refine H.cS' (!y1.1) (fun hb => ?_) (fun hb => ?_)
 ·rw [if_pos hb] at h
  refine H.sr' 1 ?_
  refine H.ret' ?_
  refine Kblock_ret ?_
  refine Kseq_ret ?_
  obtain rfl := Option.some.inj h
  exact KEnd.r'
 rw [if_neg (ne_true hb)] at h
 refine H.sg' ?_
 refine HO.go' 1 ?_
 obtain ⟨y2, hy, h⟩ := bindS h
 refine HO.callW hS [.agg [.keep, .keep, .keep, .list 1 false, .list 5 false]] (plain_ok (x.1, x.2.1, x.2.2.1, x.2.2.2.1, x.2.2.2.2) y2 hy W0) (by kernel_rfl) (by kernel_rfl) ?_
 refine HO.fin' 2 ?_
 refine H.cS' (!y2) (fun hb => ?_) (fun hb => ?_)
 ·rw [if_pos hb] at h
  refine H.sr' 1 ?_
  refine H.ret' ?_
  refine Kblock_ret ?_
  refine Kseq_ret ?_
  obtain rfl := Option.some.inj h
  exact KEnd.r'
 rw [if_neg (ne_true hb)] at h
 refine H.skp' ?_
 refine Kblock_norm ?_
 refine Kseq_norm ?_
 refine H.sr' 1 ?_
 refine H.ret' ?_
 obtain rfl := Option.some.inj h
 exact KEnd.r'
def identifier_L3 (x : (List Int) × Int × Int × Int × Bool × (List Int) × (List S41)) : Option ((List Int)) :=
 if 0 < x.2.1 then
  (shr' .u32 x.2.2.2.1 x.2.1) >>= fun y4 =>
  (app' 1 x.1 [(bOr .u8 (IntKind.u8.wrap y4) 128)]) >>= fun y5 =>
  identifier_L3 (y5, (IntKind.i64.wrap (x.2.1 - 7)), x.2.2.1, x.2.2.2.1, x.2.2.2.2.1, x.2.2.2.2.2.1, x.2.2.2.2.2.2)
 else
  (app' 1 x.1 [(IntKind.u8.wrap (bAnd .u32 x.2.2.2.1 127))]) >>= fun y6 =>
  some y6
partial_fixpoint
abbrev T_identifier_L3 (x : (List Int) × Int × Int × Int × Bool × (List Int) × (List S41)) (r : (List Int)) : Prop := ∀ (W0 w0 : World) (S : Own), Std W0 w0 S 0 → HL Tryz.prog w0 S 58 (cL (cL (cL (cR (cR (cR (cR (cR (cR (cR (cB Tryz.f109))))))))))) (mkS [(0, tl 1 0 (encI .u8) x.1), (3, .pointer (some ⟨1, 0, none⟩)), (6, .int .i64 x.2.1)] [(1, .cells [.int .u8 x.2.2.1, .int .u32 x.2.2.2.1, .bool x.2.2.2.2.1, ls 1 false (encI .u8) x.2.2.2.2.2.1, ls 5 false enc41 x.2.2.2.2.2.2] 41 5)] 2 [0]) (Kblock 2 (Kseq Tryz.prog w0 S 58 (cR (cR (cR (cR (cR (cR (cR (cR (cB Tryz.f109))))))))) (KEnd Tryz.prog Tryz.f109 (FEnd w0 S (.returned (tl 1 0 (encI .u8) r)) (mkW 1 [0] [])))))
theorem identifier_L3_ok : ∀ x r, identifier_L3 x = some r → T_identifier_L3 x r := by
 refine identifier_L3.partial_correctness T_identifier_L3 ?_
 intro self ih_identifier_L3 x r h
 intro W0 w0 S hS
 haveI := hS.noEx Tryz.prog
 refine HL.round ?_
 refine H.seq' ?_
 refine H.sr' 2 ?_
 refine H.cS' (decide (0 < x.2.1)) (fun hb => ?_) (fun hb => ?_)
 rotate_left
 ·rw [if_neg (of_decide_eq_false hb)] at h
  refine H.ext' 2 ?_
  refine Kseq_exit ?_
  refine Kloop_exit ?_
  refine Kblock_hit ?_
  refine Kseq_norm ?_
  refine H.sg' ?_
  refine HO.go' 6 ?_
  obtain ⟨y6, hy, h⟩ := bindS h
  refine HO.effA (app1_aop (enc := (encI .u8)) (k := 1) false 1 [.int .u8 (IntKind.u8.wrap (bAnd .u32 x.2.2.2.1 127))] [] hy (by kernel_rfl) (by kernel_rfl) (by kernel_rfl)) ?_
  refine HO.fin' 1 ?_
  refine H.ret' ?_
  obtain rfl := Option.some.inj h
  exact KEnd.of (v := tl 1 3 (encI .u8) y6) (by kernel_rfl) (by kernel_rfl) (FEnd.ren hS [3] _ _ (by kernel_rfl))
 rw [if_pos (of_decide_eq_true hb)] at h
 refine H.skp' ?_
 refine Kseq_norm ?_
 refine H.seq' ?_
 refine H.blk' 3 ?_
 refine H.reg' ?_
 refine HO.go' 4 ?_
 obtain ⟨y4, hy, h⟩ := bindS h
 refine HO.valA (shr_aop hy (by kernel_rfl)) ?_
 refine HO.go' 3 ?_
 obtain ⟨y5, hy, h⟩ := bindS h
 refine HO.effA (app1_aop (enc := (encI .u8)) (k := 1) false 1 [.int .u8 (bOr .u8 (IntKind.u8.wrap y4) 128)] [] hy (by kernel_rfl) (by kernel_rfl) (by kernel_rfl)) ?_
 refine HO.go' 1 ?_
 refine HO.end' ?_
 refine Kblock_norm ?_
 refine Kseq_norm ?_
 refine H.reg' ?_
 refine HO.go' 3 ?_
 refine HO.end' ?_
 refine Kloop_norm ?_
 exact HL.ren' hS [3, 1] (ih_identifier_L3 (y5, (IntKind.i64.wrap (x.2.1 - 7)), x.2.2.1, x.2.2.2.1, x.2.2.2.2.1, x.2.2.2.2.2.1, x.2.2.2.2.2.2) r h W0 w0 S hS)
def identifier_L2 (x : (List Int) × Int × Int × Int × Bool × (List Int) × (List S41)) : Option ((List Int)) :=
 (shr' .u32 x.2.2.2.1 (IntKind.i64.wrap (x.2.1 + 7))) >>= fun y3 =>
 if 0 < y3 then
  identifier_L2 (x.1, (IntKind.i64.wrap (x.2.1 + 7)), x.2.2.1, x.2.2.2.1, x.2.2.2.2.1, x.2.2.2.2.2.1, x.2.2.2.2.2.2)
 else
  identifier_L3 (x.1, x.2.1, x.2.2.1, x.2.2.2.1, x.2.2.2.2.1, x.2.2.2.2.2.1, x.2.2.2.2.2.2)
partial_fixpoint
abbrev T_identifier_L2 (x : (List Int) × Int × Int × Int × Bool × (List Int) × (List S41)) (r : (List Int)) : Prop := ∀ (W0 w0 : World) (S : Own), Std W0 w0 S 0 → HL Tryz.prog w0 S 58 (cL (cL (cL (cR (cR (cR (cR (cR (cR (cB Tryz.f109)))))))))) (mkS [(0, tl 1 0 (encI .u8) x.1), (3, .pointer (some ⟨1, 0, none⟩)), (6, .int .i64 x.2.1)] [(1, .cells [.int .u8 x.2.2.1, .int .u32 x.2.2.2.1, .bool x.2.2.2.2.1, ls 1 false (encI .u8) x.2.2.2.2.2.1, ls 5 false enc41 x.2.2.2.2.2.2] 41 5)] 2 [0]) (Kblock 0 (Kseq Tryz.prog w0 S 58 (cR (cR (cR (cR (cR (cR (cR (cB Tryz.f109)))))))) (KEnd Tryz.prog Tryz.f109 (FEnd w0 S (.returned (tl 1 0 (encI .u8) r)) (mkW 1 [0] [])))))
theorem identifier_L2_ok : ∀ x r, identifier_L2 x = some r → T_identifier_L2 x r := by
 refine identifier_L2.partial_correctness T_identifier_L2 ?_
 intro self ih_identifier_L2 x r h
 intro W0 w0 S hS
 haveI := hS.noEx Tryz.prog
 refine HL.round ?_
 refine H.seq' ?_
 refine H.sg' ?_
 refine HO.go' 4 ?_
 obtain ⟨y3, hy, h⟩ := bindS h
 refine HO.valA (shr_aop hy (by kernel_rfl)) ?_
 refine HO.fin' 1 ?_
 refine H.cS' (decide (0 < y3)) (fun hb => ?_) (fun hb => ?_)
 ·rw [if_pos (of_decide_eq_true hb)] at h
  refine H.skp' ?_
  refine Kseq_norm ?_
  refine H.blk' 1 ?_
  refine H.reg' ?_
  refine HO.go' 3 ?_
  refine HO.end' ?_
  refine Kblock_norm ?_
  refine Kloop_norm ?_
  exact HL.ren' hS [0, 1] (ih_identifier_L2 (x.1, (IntKind.i64.wrap (x.2.1 + 7)), x.2.2.1, x.2.2.2.1, x.2.2.2.2.1, x.2.2.2.2.2.1, x.2.2.2.2.2.2) r h W0 w0 S hS)
 rw [if_neg (of_decide_eq_false hb)] at h
 refine H.ext' 0 ?_
 refine Kseq_exit ?_
 refine Kloop_exit ?_
 refine Kblock_hit ?_
 refine Kseq_norm ?_
 refine H.seq' ?_
 refine H.blk' 2 ?_
 refine H.lop' ?_
 exact HL.ren' hS [0, 1] (identifier_L3_ok (x.1, x.2.1, x.2.2.1, x.2.2.2.1, x.2.2.2.2.1, x.2.2.2.2.2.1, x.2.2.2.2.2.2) r h W0 w0 S hS)
def identifier_L1 (x : Int × Int × Int × Bool × (List Int) × (List S41)) : Option ((List Int)) :=
 if x.2.2.1 < 31 then
  (app' 1 [] [(bOr .u8 x.1 (IntKind.u8.wrap x.2.2.1))]) >>= fun y1 =>
  some y1
 else
  (app' 1 [] [(bOr .u8 x.1 31)]) >>= fun y2 =>
  identifier_L2 (y2, 0, x.2.1, x.2.2.1, x.2.2.2.1, x.2.2.2.2.1, x.2.2.2.2.2)
theorem identifier_L1_ok : ∀ (x : Int × Int × Int × Bool × (List Int) × (List S41)) (r : (List Int)), identifier_L1 x = some r → ∀ (W0 w0 : World) (S : Own), Std W0 w0 S 0 → H Tryz.prog w0 S 58 (cR (cR (cR (cB Tryz.f109)))) (mkS [(0, .slice none 0 0), (3, .pointer (some ⟨0, 0, none⟩)), (5, .int .u8 x.1)] [(0, .cells [.int .u8 x.2.1, .int .u32 x.2.2.1, .bool x.2.2.2.1, ls 1 false (encI .u8) x.2.2.2.2.1, ls 5 false enc41 x.2.2.2.2.2] 41 5)] 1 []) (KEnd Tryz.prog Tryz.f109 (FEnd w0 S (.returned (tl 1 0 (encI .u8) r)) (mkW 1 [0] []))) := by
 intro x r h
 unfold identifier_L1 at h
 intro W0 w0 S hS
 haveI := hS.noEx Tryz.prog
 refine H.seq' ?_
 refine H.sr' 3 ?_
 refine H.cS' (decide (x.2.2.1 < 31)) (fun hb => ?_) (fun hb => ?_)
 ·rw [if_pos (of_decide_eq_true hb)] at h
  refine H.sg' ?_
  refine HO.go' 7 ?_
  refine HO.tok 17 1 (es := #[]) (by kernel_rfl) ?_
  obtain ⟨y1, hy, h⟩ := bindS h
  refine HO.effA (app1_aop (enc := (encI .u8)) (k := 1) false 1 [.int .u8 (bOr .u8 x.1 (IntKind.u8.wrap x.2.2.1))] [] hy (by kernel_rfl) (by kernel_rfl) (by kernel_rfl)) ?_
  refine HO.fin' 1 ?_
  refine H.ret' ?_
  refine Kseq_ret ?_
  obtain rfl := Option.some.inj h
  exact KEnd.of (v := tl 1 3 (encI .u8) y1) (by kernel_rfl) (by kernel_rfl) (FEnd.ren hS [3] _ _ (by kernel_rfl))
 rw [if_neg (of_decide_eq_false hb)] at h
 refine H.skp' ?_
 refine Kseq_norm ?_
 refine H.sg' ?_
 refine HO.go' 4 ?_
 refine HO.tok 25 1 (es := #[]) (by kernel_rfl) ?_
 obtain ⟨y2, hy, h⟩ := bindS h
 refine HO.effA (app1_aop (enc := (encI .u8)) (k := 1) false 1 [.int .u8 (bOr .u8 x.1 31)] [] hy (by kernel_rfl) (by kernel_rfl) (by kernel_rfl)) ?_
 refine HO.fin' 1 ?_
 refine H.sr' 1 ?_
 refine H.seq' ?_
 refine H.blk' 0 ?_
 refine H.lop' ?_
 exact HL.ren' hS [3, 0] (identifier_L2_ok (y2, 0, x.2.1, x.2.2.1, x.2.2.2.1, x.2.2.2.2.1, x.2.2.2.2.2) r h W0 w0 S hS)
def identifier (x : Int × Int × Bool × (List Int) × (List S41)) : Option ((List Int)) :=
 if x.2.2.1 = true then
  identifier_L1 ((bOr .u8 (shlI .u8 x.1 6) 32), x.1, x.2.1, x.2.2.1, x.2.2.2.1, x.2.2.2.2)
 else
  identifier_L1 ((shlI .u8 x.1 6), x.1, x.2.1, x.2.2.1, x.2.2.2.1, x.2.2.2.2)
theorem identifier_ok : ∀ (x : Int × Int × Bool × (List Int) × (List S41)) (r : (List Int)), identifier x = some r → ∀ W0 : World, FTo Tryz.prog W0 109 #[.slice none 0 0, .agg #[.int .u8 x.1, .int .u32 x.2.1, .bool x.2.2.1, ls 1 false (encI .u8) x.2.2.2.1, ls 5 false enc41 x.2.2.2.2]] (mkW 0 [] []) (.returned (tl 1 0 (encI .u8) r)) (mkW 1 [0] []) := by
 intro x r h
 unfold identifier at h
 intro W0
 refine FTo.of_body (fn := Tryz.f109) (code := cB Tryz.f109) Tryz.func109 rfl rfl ?_
 intro w0 S hS
 haveI := hS.noEx Tryz.prog
 refine H.sr' 2 ?_
 refine H.sr' 4 ?_
 refine H.seq' ?_
 refine H.sr' 2 ?_
 refine H.cS' (x.2.2.1) (fun hb => ?_) (fun hb => ?_)
 rotate_left
 ·rw [if_neg (ne_true hb)] at h
  refine H.skp' ?_
  refine Kseq_norm ?_
  exact H.ren' hS [0] (identifier_L1_ok ((shlI .u8 x.1 6), x.1, x.2.1, x.2.2.1, x.2.2.2.1, x.2.2.2.2) r h W0 w0 S hS)
 rw [if_pos hb] at h
 refine H.reg' ?_
 refine HO.fin' 3 ?_
 exact H.ren' hS [0] (identifier_L1_ok ((bOr .u8 (shlI .u8 x.1 6) 32), x.1, x.2.1, x.2.2.1, x.2.2.2.1, x.2.2.2.2) r h W0 w0 S hS)
def size_L3 (x : (List Int) × Int × Int) : Option ((List Int)) :=
 if 0 ≤ x.2.2 then
  (shr' .i64 x.2.1 (IntKind.i64.wrap (8 * x.2.2))) >>= fun y4 =>
  (app' 1 x.1 [(IntKind.u8.wrap y4)]) >>= fun y5 =>
  size_L3 (y5, x.2.1, (IntKind.i64.wrap (x.2.2 - 1)))
 else
  some x.1
partial_fixpoint
abbrev T_size_L3 (x : (List Int) × Int × Int) (r : (List Int)) : Prop := ∀ (W0 w0 : World) (S : Own), Std W0 w0 S 1 → HL Tryz.prog w0 S 47 (cL (cL (cR (cL (cR (cR (cR (cR (cR (cB Tryz.f108)))))))))) (mkS [(0, tl 1 1 (encI .u8) x.1), (1, .int .i64 x.2.1), (7, .int .i64 x.2.2)] [] 2 [1]) (Kblock 3 (Kseq Tryz.prog w0 S 47 (cR (cR (cR (cR (cR (cR (cB Tryz.f108))))))) (KEnd Tryz.prog Tryz.f108 (FEnd w0 S (.returned (tl 1 1 (encI .u8) r)) (mkW 2 [1] [])))))
theorem size_L3_ok : ∀ x r, size_L3 x = some r → T_size_L3 x r := by
 refine size_L3.partial_correctness T_size_L3 ?_
 intro self ih_size_L3 x r h
 intro W0 w0 S hS
 haveI := hS.noEx Tryz.prog
 refine HL.round ?_
 refine H.seq' ?_
 refine H.sr' 2 ?_
 refine H.cS' (decide (0 ≤ x.2.2)) (fun hb => ?_) (fun hb => ?_)
 rotate_left
 ·rw [if_neg (of_decide_eq_false hb)] at h
  refine H.ext' 3 ?_
  refine Kseq_exit ?_
  refine Kloop_exit ?_
  refine Kblock_hit ?_
  refine Kseq_norm ?_
  refine H.sr' 2 ?_
  refine H.ret' ?_
  obtain rfl := Option.some.inj h
  exact KEnd.of (v := tl 1 1 (encI .u8) x.1) (by kernel_rfl) (by kernel_rfl) (FEnd.ren hS [0, 1] _ _ (by kernel_rfl))
 rw [if_pos (of_decide_eq_true hb)] at h
 refine H.skp' ?_
 refine Kseq_norm ?_
 refine H.seq' ?_
 refine H.blk' 4 ?_
 refine H.reg' ?_
 refine HO.go' 4 ?_
 obtain ⟨y4, hy, h⟩ := bindS h
 refine HO.valA (shr_aop hy (by kernel_rfl)) ?_
 refine HO.go' 2 ?_
 obtain ⟨y5, hy, h⟩ := bindS h
 refine HO.effA (app1_aop (enc := (encI .u8)) (k := 1) false 1 [.int .u8 (IntKind.u8.wrap y4)] [] hy (by kernel_rfl) (by kernel_rfl) (by kernel_rfl)) ?_
 refine HO.go' 1 ?_
 refine HO.end' ?_
 refine Kblock_norm ?_
 refine Kseq_norm ?_
 refine H.reg' ?_
 refine HO.go' 3 ?_
 refine HO.end' ?_
 refine Kloop_norm ?_
 exact HL.ren' hS [0, 3] (ih_size_L3 (y5, x.2.1, (IntKind.i64.wrap (x.2.2 - 1))) r h W0 w0 S hS)
def size_L2 (x : (List Int) × Int × Int) : Option ((List Int)) :=
 (app' 1 x.1 [(IntKind.u8.wrap (128 + (IntKind.u8.wrap x.2.2)))]) >>= fun y3 =>
 size_L3 (y3, x.2.1, (IntKind.i64.wrap (x.2.2 - 1)))
theorem size_L2_ok : ∀ (x : (List Int) × Int × Int) (r : (List Int)), size_L2 x = some r → ∀ (W0 w0 : World) (S : Own), Std W0 w0 S 1 → H Tryz.prog w0 S 47 (cR (cR (cR (cR (cB Tryz.f108))))) (mkS [(0, tl 1 0 (encI .u8) x.1), (1, .int .i64 x.2.1), (7, .int .i64 x.2.2)] [] 1 [0]) (KEnd Tryz.prog Tryz.f108 (FEnd w0 S (.returned (tl 1 1 (encI .u8) r)) (mkW 2 [1] []))) := by
 intro x r h
 unfold size_L2 at h
 intro W0 w0 S hS
 haveI := hS.noEx Tryz.prog
 refine H.sg' ?_
 refine HO.go' 5 ?_
 obtain ⟨y3, hy, h⟩ := bindS h
 refine HO.effA (app1_aop (enc := (encI .u8)) (k := 1) false 1 [.int .u8 (IntKind.u8.wrap (128 + (IntKind.u8.wrap x.2.2)))] [] hy (by kernel_rfl) (by kernel_rfl) (by kernel_rfl)) ?_
 refine HO.fin' 1 ?_
 refine H.seq' ?_
 refine H.sr' 3 ?_
 refine H.blk' 3 ?_
 refine H.lop' ?_
 exact HL.ren' hS [0, 2] (size_L3_ok (y3, x.2.1, (IntKind.i64.wrap (x.2.2 - 1))) r h W0 w0 S hS)
def size_L1 (x : (List Int) × Int × Int × Int) : Option ((List Int)) :=
 (shr' .i64 x.2.1 (IntKind.i64.wrap (8 * x.2.2.2))) >>= fun y1 =>
 if 0 < y1 then
  size_L1 (x.1, x.2.1, x.2.2.1, (IntKind.i64.wrap (x.2.2.2 + 1)))
 else
  if x.2.2.1 = 2 then
   size_L2 (x.1, x.2.1, 4)
  else
   if x.2.1 < 128 then
    (app' 1 x.1 [(IntKind.u8.wrap x.2.1)]) >>= fun y2 =>
    some y2
   else
    size_L2 (x.1, x.2.1, x.2.2.2)
partial_fixpoint
abbrev T_size_L1 (x : (List Int) × Int × Int × Int) (r : (List Int)) : Prop := ∀ (W0 w0 : World) (S : Own), Std W0 w0 S 1 → HL Tryz.prog w0 S 47 (cL (cL (cL (cR (cR (cB Tryz.f108)))))) (mkS [(0, tl 1 0 (encI .u8) x.1), (1, .int .i64 x.2.1), (2, .int .u8 x.2.2.1), (7, .int .i64 x.2.2.2)] [] 1 [0]) (Kblock 0 (Kseq Tryz.prog w0 S 47 (cR (cR (cR (cB Tryz.f108)))) (KEnd Tryz.prog Tryz.f108 (FEnd w0 S (.returned (tl 1 1 (encI .u8) r)) (mkW 2 [1] [])))))
theorem size_L1_ok : ∀ x r, size_L1 x = some r → T_size_L1 x r := by
 refine size_L1.partial_correctness T_size_L1 ?_
 intro self ih_size_L1 x r h
 intro W0 w0 S hS
 haveI := hS.noEx Tryz.prog
 refine HL.round ?_
 refine H.seq' ?_
 refine H.sg' ?_
 refine HO.go' 3 ?_
 obtain ⟨y1, hy, h⟩ := bindS h
 refine HO.valA (shr_aop hy (by kernel_rfl)) ?_
 refine HO.fin' 1 ?_
 refine H.cS' (decide (0 < y1)) (fun hb => ?_) (fun hb => ?_)
 ·rw [if_pos (of_decide_eq_true hb)] at h
  refine H.skp' ?_
  refine Kseq_norm ?_
  refine H.blk' 1 ?_
  refine H.reg' ?_
  refine HO.go' 3 ?_
  refine HO.end' ?_
  refine Kblock_norm ?_
  refine Kloop_norm ?_
  exact HL.ren' hS [0] (ih_size_L1 (x.1, x.2.1, x.2.2.1, (IntKind.i64.wrap (x.2.2.2 + 1))) r h W0 w0 S hS)
 rw [if_neg (of_decide_eq_false hb)] at h
 refine H.ext' 0 ?_
 refine Kseq_exit ?_
 refine Kloop_exit ?_
 refine Kblock_hit ?_
 refine Kseq_norm ?_
 refine H.seq' ?_
 refine H.blk' 2 ?_
 refine H.sr' 3 ?_
 refine H.cS' (decide (x.2.2.1 = 2)) (fun hb => ?_) (fun hb => ?_)
 ·rw [if_pos (of_decide_eq_true hb)] at h
  refine H.reg' ?_
  refine HO.go' 1 ?_
  refine HO.end' ?_
  refine Kblock_norm ?_
  refine Kseq_norm ?_
  exact H.ren' hS [0] (size_L2_ok (x.1, x.2.1, 4) r h W0 w0 S hS)
 rw [if_neg (of_decide_eq_false hb)] at h
 refine H.sr' 3 ?_
 refine H.cS' (decide (x.2.1 < 128)) (fun hb => ?_) (fun hb => ?_)
 rotate_left
 ·rw [if_neg (of_decide_eq_false hb)] at h
  refine H.skp' ?_
  refine Kblock_norm ?_
  refine Kseq_norm ?_
  exact H.ren' hS [0] (size_L2_ok (x.1, x.2.1, x.2.2.2) r h W0 w0 S hS)
 rw [if_pos (of_decide_eq_true hb)] at h
 refine H.sg' ?_
 refine HO.go' 4 ?_
 obtain ⟨y2, hy, h⟩ := bindS h
 refine HO.effA (app1_aop (enc := (encI .u8)) (k := 1) false 1 [.int .u8 (IntKind.u8.wrap x.2.1)] [] hy (by kernel_rfl) (by kernel_rfl) (by kernel_rfl)) ?_
 refine HO.fin' 1 ?_
 refine H.ret' ?_
 refine Kblock_ret ?_
 refine Kseq_ret ?_
 obtain rfl := Option.some.inj h
 exact KEnd.of (v := tl 1 2 (encI .u8) y2) (by kernel_rfl) (by kernel_rfl) (FEnd.ren hS [0, 2] _ _ (by kernel_rfl))
def size (x : (List Int) × Int × Int) : Option ((List Int)) :=
 size_L1 (x.1, x.2.1, x.2.2, 0)
theorem size_ok : ∀ (x : (List Int) × Int × Int) (r : (List Int)), size x = some r → ∀ W0 : World, FTo Tryz.prog W0 108 #[tl 1 0 (encI .u8) x.1, .int .i64 x.2.1, .int .u8 x.2.2] (mkW 1 [0] []) (.returned (tl 1 1 (encI .u8) r)) (mkW 2 [1] []) := by
 intro x r h
 unfold size at h
 intro W0
 refine FTo.of_body (fn := Tryz.f108) (code := cB Tryz.f108) Tryz.func108 rfl rfl ?_
 intro w0 S hS
 haveI := hS.noEx Tryz.prog
 refine H.sr' 1 ?_
 refine H.sr' 1 ?_
 refine H.seq' ?_
 refine H.blk' 0 ?_
 refine H.lop' ?_
 exact HL.ren' hS [0] (size_L1_ok (x.1, x.2.1, x.2.2, 0) r h W0 w0 S hS)
mutual
def long_L1 (x : Int × (List S41) × Int × Int × Int × Int × Bool × (List Int)) : Option (Int) :=
 if x.2.2.2.1 < x.2.2.1 then
  (at' x.2.1 x.2.2.2.1) >>= fun y1 =>
  (long (y1.c0, y1.c1, y1.c2, y1.c3, y1.c4)) >>= fun y2 =>
  long_L1 ((IntKind.i64.wrap (x.1 + y2)), x.2.1, x.2.2.1, (IntKind.i64.wrap (x.2.2.2.1 + 1)), x.2.2.2.2.1, x.2.2.2.2.2.1, x.2.2.2.2.2.2.1, x.2.2.2.2.2.2.2)
 else
  (identifier (x.2.2.2.2.1, x.2.2.2.2.2.1, x.2.2.2.2.2.2.1, x.2.2.2.2.2.2.2, x.2.1)) >>= fun y3 =>
  (size (y3, x.1, 0)) >>= fun y4 =>
  some (IntKind.i64.wrap (x.1 + (y4.length : Int)))
partial_fixpoint
def long (x : Int × Int × Bool × (List Int) × (List S41)) : Option (Int) :=
 long_L1 ((x.2.2.2.1.length : Int), x.2.2.2.2, (x.2.2.2.2.length : Int), 0, x.1, x.2.1, x.2.2.1, x.2.2.2.1)
partial_fixpoint
end
abbrev T_long_L1 (x : Int × (List S41) × Int × Int × Int × Int × Bool × (List Int)) (r : Int) : Prop := ∀ (W0 w0 : World) (S : Own), Std W0 w0 S 0 → HL Tryz.prog w0 S 28 (cL (cL (cR (cL (cR (cR (cB Tryz.f78))))))) (mkS [(1, .pointer (some ⟨0, 0, none⟩)), (3, .int .i64 x.1), (10, ls 5 false enc41 x.2.1), (11, .int .i64 x.2.2.1), (12, .int .i64 x.2.2.2.1)] [(0, .cells [.int .u8 x.2.2.2.2.1, .int .u32 x.2.2.2.2.2.1, .bool x.2.2.2.2.2.2.1, ls 1 false (encI .u8) x.2.2.2.2.2.2.2, ls 5 false enc41 x.2.1] 41 5)] 1 []) (Kblock 0 (Kseq Tryz.prog w0 S 28 (cR (cR (cR (cB Tryz.f78)))) (KEnd Tryz.prog Tryz.f78 (PEnd w0 S (.returned (.int .i64 r))))))
abbrev T_long (x : Int × Int × Bool × (List Int) × (List S41)) (r : Int) : Prop := ∀ W0 : World, PTo Tryz.prog W0 78 #[.agg #[.int .u8 x.1, .int .u32 x.2.1, .bool x.2.2.1, ls 1 false (encI .u8) x.2.2.2.1, ls 5 false enc41 x.2.2.2.2]] (.returned (.int .i64 r))
theorem long_L1_grp : (∀ x r, long_L1 x = some r → T_long_L1 x r) ∧
 (∀ x r, long x = some r → T_long x r) := by
 refine long_L1.mutual_partial_correctness T_long_L1 T_long ?_ ?_
 ·intro g_long_L1 g_long ih_long_L1 ih_long x r h
  intro W0 w0 S hS
  haveI := hS.noEx Tryz.prog
  refine HL.round ?_
  refine H.sr' 1 ?_
  refine H.seq' ?_
  refine H.cS' (decide (x.2.2.2.1 < x.2.2.1)) (fun hb => ?_) (fun hb => ?_)
  rotate_left
  ·rw [if_neg (of_decide_eq_false hb)] at h
   refine H.ext' 0 ?_
   refine Kseq_exit ?_
   refine Kloop_exit ?_
   refine Kblock_hit ?_
   refine Kseq_norm ?_
   refine H.sg' ?_
   refine HO.go' 2 ?_
   obtain ⟨y3, hy, h⟩ := bindS h
   refine HO.callFW hS (tl 1 1 (encI .u8) y3) 2 [1] [(0, .cells [.int .u8 x.2.2.2.2.1, .int .u32 x.2.2.2.2.2.1, .bool x.2.2.2.2.2.2.1, ls 1 false (encI .u8) x.2.2.2.2.2.2.2, ls 5 false enc41 x.2.1] 41 5)] [] [.keep, .agg [.keep, .keep, .keep, .list 1 false, .list 5 false]] (identifier_ok (x.2.2.2.2.1, x.2.2.2.2.2.1, x.2.2.2.2.2.2.1, x.2.2.2.2.2.2.2, x.2.1) y3 hy W0) (by kernel_rfl) (by kernel_rfl) ?_
   refine HO.go' 1 ?_
   obtain ⟨y4, hy, h⟩ := bindS h
   refine HO.callFW hS (tl 1 2 (encI .u8) y4) 3 [2] [(0, .cells [.int .u8 x.2.2.2.2.1, .int .u32 x.2.2.2.2.2.1, .bool x.2.2.2.2.2.2.1, ls 1 false (encI .u8) x.2.2.2.2.2.2.2, ls 5 false enc41 x.2.1] 41 5)] [1] [.keep, .keep, .keep] (size_ok (y3, x.1, 0) y4 hy W0) (by kernel_rfl) (by kernel_rfl) ?_
   refine HO.len (by kernel_rfl) (by kernel_rfl) (ls_size (encI .u8) y4) ?_
   refine HO.fin' 2 ?_
   refine H.ret' ?_
   obtain rfl := Option.some.inj h
   exact KEnd.r'
  rw [if_pos (of_decide_eq_true hb)] at h
  refine H.skp' ?_
  refine Kseq_norm ?_
  refine H.seq' ?_
  refine H.blk' 1 ?_
  refine H.sg' ?_
  obtain ⟨y1, hy, h⟩ := bindS h
  refine HO.idx (.agg #[.int .u8 y1.c0, .int .u32 y1.c1, .bool y1.c2, ls 1 false (encI .u8) y1.c3, ls 5 false enc41 y1.c4]) hy (enc41_eq y1) (by kernel_rfl) ?_
  refine HO.fin' 3 ?_
  refine H.reg' ?_
  refine HO.go' 2 ?_
  obtain ⟨y2, hy, h⟩ := bindS h
  refine HO.callW hS [.agg [.keep, .keep, .keep, .list 1 false, .list 5 false]] (ih_long (y1.c0, y1.c1, y1.c2, y1.c3, y1.c4) y2 hy W0) (by kernel_rfl) (by kernel_rfl) ?_
  refine HO.go' 2 ?_
  refine HO.end' ?_
  refine Kblock_norm ?_
  refine Kseq_norm ?_
  refine H.reg' ?_
  refine HO.go' 2 ?_
  refine HO.end' ?_
  refine Kloop_norm ?_
  exact HL.ren' hS [0] (ih_long_L1 ((IntKind.i64.wrap (x.1 + y2)), x.2.1, x.2.2.1, (IntKind.i64.wrap (x.2.2.2.1 + 1)), x.2.2.2.2.1, x.2.2.2.2.2.1, x.2.2.2.2.2.2.1, x.2.2.2.2.2.2.2) r h W0 w0 S hS)
 ·intro g_long_L1 ih_long_L1 x r h
  intro W0
  refine PTo.of_body (fn := Tryz.f78) (code := cB Tryz.f78) Tryz.func78 rfl rfl ?_
  intro w0 S hS
  haveI := hS.noEx Tryz.prog
  refine H.sr' 2 ?_
  refine H.sg' ?_
  refine HO.go' 2 ?_
  refine HO.len (by kernel_rfl) (by kernel_rfl) (ls_size (encI .u8) x.2.2.2.1) ?_
  refine HO.fin' 1 ?_
  refine H.seq' ?_
  refine H.sg' ?_
  refine HO.go' 2 ?_
  refine HO.len (by kernel_rfl) (by kernel_rfl) (ls_size enc41 x.2.2.2.2) ?_
  refine HO.fin' 1 ?_
  refine H.blk' 0 ?_
  refine H.lop' ?_
  exact HL.ren' hS [0] (ih_long_L1 ((x.2.2.2.1.length : Int), x.2.2.2.2, (x.2.2.2.2.length : Int), 0, x.1, x.2.1, x.2.2.1, x.2.2.2.1) r h W0 w0 S hS)
theorem long_L1_ok : ∀ x r, long_L1 x = some r → T_long_L1 x r := long_L1_grp.1
theorem long_ok : ∀ x r, long x = some r → T_long x r := long_L1_grp.2
def identifier_1_L3 (x : (List Int) × Int × Int × Int × Bool × (List Int) × (List S41)) : Option ((List Int)) :=
 if 0 < x.2.1 then
  (shr' .u32 x.2.2.2.1 x.2.1) >>= fun y4 =>
  (app' 1 x.1 [(bOr .u8 (IntKind.u8.wrap y4) 128)]) >>= fun y5 =>
  identifier_1_L3 (y5, (IntKind.i64.wrap (x.2.1 - 7)), x.2.2.1, x.2.2.2.1, x.2.2.2.2.1, x.2.2.2.2.2.1, x.2.2.2.2.2.2)
 else
  (app' 1 x.1 [(IntKind.u8.wrap (bAnd .u32 x.2.2.2.1 127))]) >>= fun y6 =>
  some y6
partial_fixpoint
abbrev T_identifier_1_L3 (x : (List Int) × Int × Int × Int × Bool × (List Int) × (List S41)) (r : (List Int)) : Prop := ∀ (W0 w0 : World) (S : Own), Std W0 w0 S 1 → HL Tryz.prog w0 S 58 (cL (cL (cL (cR (cR (cR (cR (cR (cR (cR (cB Tryz.f109))))))))))) (mkS [(0, tl 1 1 (encI .u8) x.1), (3, .pointer (some ⟨2, 0, none⟩)), (6, .int .i64 x.2.1)] [(2, .cells [.int .u8 x.2.2.1, .int .u32 x.2.2.2.1, .bool x.2.2.2.2.1, ls 1 false (encI .u8) x.2.2.2.2.2.1, ls 5 false enc41 x.2.2.2.2.2.2] 41 5)] 3 [1]) (Kblock 2 (Kseq Tryz.prog w0 S 58 (cR (cR (cR (cR (cR (cR (cR (cR (cB Tryz.f109))))))))) (KEnd Tryz.prog Tryz.f109 (FEnd w0 S (.returned (tl 1 1 (encI .u8) r)) (mkW 2 [1] [])))))
theorem identifier_1_L3_ok : ∀ x r, identifier_1_L3 x = some r → T_identifier_1_L3 x r := by
 refine identifier_1_L3.partial_correctness T_identifier_1_L3 ?_
 intro self ih_identifier_1_L3 x r h
 intro W0 w0 S hS
 haveI := hS.noEx Tryz.prog
 refine HL.round ?_
 refine H.seq' ?_
 refine H.sr' 2 ?_
 refine H.cS' (decide (0 < x.2.1)) (fun hb => ?_) (fun hb => ?_)
 rotate_left
 ·rw [if_neg (of_decide_eq_false hb)] at h
  refine H.ext' 2 ?_
  refine Kseq_exit ?_
  refine Kloop_exit ?_
  refine Kblock_hit ?_
  refine Kseq_norm ?_
  refine H.sg' ?_
  refine HO.go' 6 ?_
  obtain ⟨y6, hy, h⟩ := bindS h
  refine HO.effA (app1_aop (enc := (encI .u8)) (k := 1) false 1 [.int .u8 (IntKind.u8.wrap (bAnd .u32 x.2.2.2.1 127))] [] hy (by kernel_rfl) (by kernel_rfl) (by kernel_rfl)) ?_
  refine HO.fin' 1 ?_
  refine H.ret' ?_
  obtain rfl := Option.some.inj h
  exact KEnd.of (v := tl 1 4 (encI .u8) y6) (by kernel_rfl) (by kernel_rfl) (FEnd.ren hS [0, 4] _ _ (by kernel_rfl))
 rw [if_pos (of_decide_eq_true hb)] at h
 refine H.skp' ?_
 refine Kseq_norm ?_
 refine H.seq' ?_
 refine H.blk' 3 ?_
 refine H.reg' ?_
 refine HO.go' 4 ?_
 obtain ⟨y4, hy, h⟩ := bindS h
 refine HO.valA (shr_aop hy (by kernel_rfl)) ?_
 refine HO.go' 3 ?_
 obtain ⟨y5, hy, h⟩ := bindS h
 refine HO.effA (app1_aop (enc := (encI .u8)) (k := 1) false 1 [.int .u8 (bOr .u8 (IntKind.u8.wrap y4) 128)] [] hy (by kernel_rfl) (by kernel_rfl) (by kernel_rfl)) ?_
 refine HO.go' 1 ?_
 refine HO.end' ?_
 refine Kblock_norm ?_
 refine Kseq_norm ?_
 refine H.reg' ?_
 refine HO.go' 3 ?_
 refine HO.end' ?_
 refine Kloop_norm ?_
 exact HL.ren' hS [0, 4, 2] (ih_identifier_1_L3 (y5, (IntKind.i64.wrap (x.2.1 - 7)), x.2.2.1, x.2.2.2.1, x.2.2.2.2.1, x.2.2.2.2.2.1, x.2.2.2.2.2.2) r h W0 w0 S hS)
def identifier_1_L2 (x : (List Int) × Int × Int × Int × Bool × (List Int) × (List S41)) : Option ((List Int)) :=
 (shr' .u32 x.2.2.2.1 (IntKind.i64.wrap (x.2.1 + 7))) >>= fun y3 =>
 if 0 < y3 then
  identifier_1_L2 (x.1, (IntKind.i64.wrap (x.2.1 + 7)), x.2.2.1, x.2.2.2.1, x.2.2.2.2.1, x.2.2.2.2.2.1, x.2.2.2.2.2.2)
 else
  identifier_1_L3 (x.1, x.2.1, x.2.2.1, x.2.2.2.1, x.2.2.2.2.1, x.2.2.2.2.2.1, x.2.2.2.2.2.2)
partial_fixpoint
abbrev T_identifier_1_L2 (x : (List Int) × Int × Int × Int × Bool × (List Int) × (List S41)) (r : (List Int)) : Prop := ∀ (W0 w0 : World) (S : Own), Std W0 w0 S 1 → HL Tryz.prog w0 S 58 (cL (cL (cL (cR (cR (cR (cR (cR (cR (cB Tryz.f109)))))))))) (mkS [(0, tl 1 1 (encI .u8) x.1), (3, .pointer (some ⟨2, 0, none⟩)), (6, .int .i64 x.2.1)] [(2, .cells [.int .u8 x.2.2.1, .int .u32 x.2.2.2.1, .bool x.2.2.2.2.1, ls 1 false (encI .u8) x.2.2.2.2.2.1, ls 5 false enc41 x.2.2.2.2.2.2] 41 5)] 3 [1]) (Kblock 0 (Kseq Tryz.prog w0 S 58 (cR (cR (cR (cR (cR (cR (cR (cB Tryz.f109)))))))) (KEnd Tryz.prog Tryz.f109 (FEnd w0 S (.returned (tl 1 1 (encI .u8) r)) (mkW 2 [1] [])))))
theorem identifier_1_L2_ok : ∀ x r, identifier_1_L2 x = some r → T_identifier_1_L2 x r := by
 refine identifier_1_L2.partial_correctness T_identifier_1_L2 ?_
 intro self ih_identifier_1_L2 x r h
 intro W0 w0 S hS
 haveI := hS.noEx Tryz.prog
 refine HL.round ?_
 refine H.seq' ?_
 refine H.sg' ?_
 refine HO.go' 4 ?_
 obtain ⟨y3, hy, h⟩ := bindS h
 refine HO.valA (shr_aop hy (by kernel_rfl)) ?_
 refine HO.fin' 1 ?_
 refine H.cS' (decide (0 < y3)) (fun hb => ?_) (fun hb => ?_)
 ·rw [if_pos (of_decide_eq_true hb)] at h
  refine H.skp' ?_
  refine Kseq_norm ?_
  refine H.blk' 1 ?_
  refine H.reg' ?_
  refine HO.go' 3 ?_
  refine HO.end' ?_
  refine Kblock_norm ?_
  refine Kloop_norm ?_
  exact HL.ren' hS [0, 1, 2] (ih_identifier_1_L2 (x.1, (IntKind.i64.wrap (x.2.1 + 7)), x.2.2.1, x.2.2.2.1, x.2.2.2.2.1, x.2.2.2.2.2.1, x.2.2.2.2.2.2) r h W0 w0 S hS)
 rw [if_neg (of_decide_eq_false hb)] at h
 refine H.ext' 0 ?_
 refine Kseq_exit ?_
 refine Kloop_exit ?_
 refine Kblock_hit ?_
 refine Kseq_norm ?_
 refine H.seq' ?_
 refine H.blk' 2 ?_
 refine H.lop' ?_
 exact HL.ren' hS [0, 1, 2] (identifier_1_L3_ok (x.1, x.2.1, x.2.2.1, x.2.2.2.1, x.2.2.2.2.1, x.2.2.2.2.2.1, x.2.2.2.2.2.2) r h W0 w0 S hS)
def identifier_1_L1 (x : (List Int) × Int × Int × Int × Bool × (List Int) × (List S41)) : Option ((List Int)) :=
 if x.2.2.2.1 < 31 then
  (app' 1 x.1 [(bOr .u8 x.2.1 (IntKind.u8.wrap x.2.2.2.1))]) >>= fun y1 =>
  some y1
 else
  (app' 1 x.1 [(bOr .u8 x.2.1 31)]) >>= fun y2 =>
  identifier_1_L2 (y2, 0, x.2.2.1, x.2.2.2.1, x.2.2.2.2.1, x.2.2.2.2.2.1, x.2.2.2.2.2.2)
theorem identifier_1_L1_ok : ∀ (x : (List Int) × Int × Int × Int × Bool × (List Int) × (List S41)) (r : (List Int)), identifier_1_L1 x = some r → ∀ (W0 w0 : World) (S : Own), Std W0 w0 S 1 → H Tryz.prog w0 S 58 (cR (cR (cR (cB Tryz.f109)))) (mkS [(0, tl 1 0 (encI .u8) x.1), (3, .pointer (some ⟨1, 0, none⟩)), (5, .int .u8 x.2.1)] [(1, .cells [.int .u8 x.2.2.1, .int .u32 x.2.2.2.1, .bool x.2.2.2.2.1, ls 1 false (encI .u8) x.2.2.2.2.2.1, ls 5 false enc41 x.2.2.2.2.2.2] 41 5)] 2 [0]) (KEnd Tryz.prog Tryz.f109 (FEnd w0 S (.returned (tl 1 1 (encI .u8) r)) (mkW 2 [1] []))) := by
 intro x r h
 unfold identifier_1_L1 at h
 intro W0 w0 S hS
 haveI := hS.noEx Tryz.prog
 refine H.seq' ?_
 refine H.sr' 3 ?_
 refine H.cS' (decide (x.2.2.2.1 < 31)) (fun hb => ?_) (fun hb => ?_)
 ·rw [if_pos (of_decide_eq_true hb)] at h
  refine H.sg' ?_
  refine HO.go' 7 ?_
  obtain ⟨y1, hy, h⟩ := bindS h
  refine HO.effA (app1_aop (enc := (encI .u8)) (k := 1) false 1 [.int .u8 (bOr .u8 x.2.1 (IntKind.u8.wrap x.2.2.2.1))] [] hy (by kernel_rfl) (by kernel_rfl) (by kernel_rfl)) ?_
  refine HO.fin' 1 ?_
  refine H.ret' ?_
  refine Kseq_ret ?_
  obtain rfl := Option.some.inj h
  exact KEnd.of (v := tl 1 3 (encI .u8) y1) (by kernel_rfl) (by kernel_rfl) (FEnd.ren hS [0, 3] _ _ (by kernel_rfl))
 rw [if_neg (of_decide_eq_false hb)] at h
 refine H.skp' ?_
 refine Kseq_norm ?_
 refine H.sg' ?_
 refine HO.go' 4 ?_
 obtain ⟨y2, hy, h⟩ := bindS h
 refine HO.effA (app1_aop (enc := (encI .u8)) (k := 1) false 1 [.int .u8 (bOr .u8 x.2.1 31)] [] hy (by kernel_rfl) (by kernel_rfl) (by kernel_rfl)) ?_
 refine HO.fin' 1 ?_
 refine H.sr' 1 ?_
 refine H.seq' ?_
 refine H.blk' 0 ?_
 refine H.lop' ?_
 exact HL.ren' hS [0, 3, 1] (identifier_1_L2_ok (y2, 0, x.2.2.1, x.2.2.2.1, x.2.2.2.2.1, x.2.2.2.2.2.1, x.2.2.2.2.2.2) r h W0 w0 S hS)
def identifier_1 (x : (List Int) × Int × Int × Bool × (List Int) × (List S41)) : Option ((List Int)) :=
 if x.2.2.2.1 = true then
  identifier_1_L1 (x.1, (bOr .u8 (shlI .u8 x.2.1 6) 32), x.2.1, x.2.2.1, x.2.2.2.1, x.2.2.2.2.1, x.2.2.2.2.2)
 else
  identifier_1_L1 (x.1, (shlI .u8 x.2.1 6), x.2.1, x.2.2.1, x.2.2.2.1, x.2.2.2.2.1, x.2.2.2.2.2)
theorem identifier_1_ok : ∀ (x : (List Int) × Int × Int × Bool × (List Int) × (List S41)) (r : (List Int)), identifier_1 x = some r → ∀ W0 : World, FTo Tryz.prog W0 109 #[tl 1 0 (encI .u8) x.1, .agg #[.int .u8 x.2.1, .int .u32 x.2.2.1, .bool x.2.2.2.1, ls 1 false (encI .u8) x.2.2.2.2.1, ls 5 false enc41 x.2.2.2.2.2]] (mkW 1 [0] []) (.returned (tl 1 1 (encI .u8) r)) (mkW 2 [1] []) := by
 intro x r h
 unfold identifier_1 at h
 intro W0
 refine FTo.of_body (fn := Tryz.f109) (code := cB Tryz.f109) Tryz.func109 rfl rfl ?_
 intro w0 S hS
 haveI := hS.noEx Tryz.prog
 refine H.sr' 2 ?_
 refine H.sr' 4 ?_
 refine H.seq' ?_
 refine H.sr' 2 ?_
 refine H.cS' (x.2.2.2.1) (fun hb => ?_) (fun hb => ?_)
 rotate_left
 ·rw [if_neg (ne_true hb)] at h
  refine H.skp' ?_
  refine Kseq_norm ?_
  exact H.ren' hS [0, 1] (identifier_1_L1_ok (x.1, (shlI .u8 x.2.1 6), x.2.1, x.2.2.1, x.2.2.2.1, x.2.2.2.2.1, x.2.2.2.2.2) r h W0 w0 S hS)
 rw [if_pos hb] at h
 refine H.reg' ?_
 refine HO.fin' 3 ?_
 exact H.ren' hS [0, 1] (identifier_1_L1_ok (x.1, (bOr .u8 (shlI .u8 x.2.1 6) 32), x.2.1, x.2.2.1, x.2.2.2.1, x.2.2.2.2.1, x.2.2.2.2.2) r h W0 w0 S hS)
def encode_1_L4 (x : (List Int)) : Option ((List Int)) :=
 (app' 1 x [0, 0]) >>= fun y7 =>
 some y7
theorem encode_1_L4_ok : ∀ (x : (List Int)) (r : (List Int)), encode_1_L4 x = some r → ∀ (W0 w0 : World) (S : Own), Std W0 w0 S 1 → H Tryz.prog w0 S 52 (cR (cL (cR (cL (cR (cR (cR (cR (cR (cB Tryz.f79)))))))))) (mkS [(0, tl 1 1 (encI .u8) x)] [] 2 [1]) (Kseq Tryz.prog w0 S 52 (cR (cR (cR (cR (cR (cR (cB Tryz.f79))))))) (KEnd Tryz.prog Tryz.f79 (FEnd w0 S (.returned (tl 1 1 (encI .u8) r)) (mkW 2 [1] [])))) := by
 intro x r h
 unfold encode_1_L4 at h
 intro W0 w0 S hS
 haveI := hS.noEx Tryz.prog
 refine H.sg' ?_
 refine HO.go' 2 ?_
 obtain ⟨y7, hy, h⟩ := bindS h
 refine HO.effA (app1_aop (enc := (encI .u8)) (k := 1) false 2 [.int .u8 0, .int .u8 0] [] hy (by kernel_rfl) (by kernel_rfl) (by kernel_rfl)) ?_
 refine HO.fin' 1 ?_
 refine H.ret' ?_
 refine Kseq_ret ?_
 obtain rfl := Option.some.inj h
 exact KEnd.of (v := tl 1 3 (encI .u8) y7) (by kernel_rfl) (by kernel_rfl) (FEnd.ren hS [0, 3] _ _ (by kernel_rfl))
def encode_1_L5 (x : (List Int)) : Option ((List Int)) :=
 some x
theorem encode_1_L5_ok : ∀ (x : (List Int)) (r : (List Int)), encode_1_L5 x = some r → ∀ (W0 w0 : World) (S : Own), Std W0 w0 S 1 → H Tryz.prog w0 S 52 (cR (cR (cR (cR (cR (cR (cR (cB Tryz.f79)))))))) (mkS [(6, tl 1 1 (encI .u8) x)] [] 2 [1]) (KEnd Tryz.prog Tryz.f79 (FEnd w0 S (.returned (tl 1 1 (encI .u8) r)) (mkW 2 [1] []))) := by
 intro x r h
 unfold encode_1_L5 at h
 intro W0 w0 S hS
 haveI := hS.noEx Tryz.prog
 refine H.ret' ?_
 obtain rfl := Option.some.inj h
 exact KEnd.of (v := tl 1 1 (encI .u8) x) (by kernel_rfl) (by kernel_rfl) (FEnd.ren hS [0, 1] _ _ (by kernel_rfl))
mutual
def encode_1_L3 (x : (List Int) × Int × (List Int) × (List S41) × Int × Int) : Option ((List Int)) :=
 if x.2.2.2.2.2 < x.2.2.2.2.1 then
  (at' x.2.2.2.1 x.2.2.2.2.2) >>= fun y3 =>
  (encode_1 (x.2.2.1, y3.c0, y3.c1, y3.c2, y3.c3, y3.c4, x.2.1)) >>= fun y4 =>
  encode_1_L3 (x.1, x.2.1, y4, x.2.2.2.1, x.2.2.2.2.1, (IntKind.i64.wrap (x.2.2.2.2.2 + 1)))
 else
  if x.2.1 = 1 then
   (app' 1 x.1 [128]) >>= fun y5 =>
   (app' 1 y5 x.2.2.1) >>= fun y6 =>
   if x.2.2.1.length = 0 then
    encode_1_L4 y5
   else
    encode_1_L4 y6
  else
   (size (x.1, (x.2.2.1.length : Int), x.2.1)) >>= fun y8 =>
   (app' 1 y8 x.2.2.1) >>= fun y9 =>
   if x.2.2.1.length = 0 then
    encode_1_L5 y8
   else
    encode_1_L5 y9
partial_fixpoint
def encode_1 (x : (List Int) × Int × Int × Bool × (List Int) × (List S41) × Int) : Option ((List Int)) :=
 (identifier_1 (x.1, x.2.1, x.2.2.1, x.2.2.2.1, x.2.2.2.2.1, x.2.2.2.2.2.1)) >>= fun y1 =>
 if (!x.2.2.2.1) = true then
  encode_1_L1 (y1, x.2.2.2.2.2.2, (!decide (x.2.2.2.2.2.2 = 2)), x.2.1, x.2.2.1, x.2.2.2.1, x.2.2.2.2.1, x.2.2.2.2.2.1)
 else
  encode_1_L1 (y1, x.2.2.2.2.2.2, false, x.2.1, x.2.2.1, x.2.2.2.1, x.2.2.2.2.1, x.2.2.2.2.2.1)
partial_fixpoint
def encode_1_L1 (x : (List Int) × Int × Bool × Int × Int × Bool × (List Int) × (List S41)) : Option ((List Int)) :=
 if x.2.2.1 = true then
  encode_1_L2 (x.1, 0, x.2.2.2.1, x.2.2.2.2.1, x.2.2.2.2.2.1, x.2.2.2.2.2.2.1, x.2.2.2.2.2.2.2)
 else
  encode_1_L2 (x.1, x.2.1, x.2.2.2.1, x.2.2.2.2.1, x.2.2.2.2.2.1, x.2.2.2.2.2.2.1, x.2.2.2.2.2.2.2)
partial_fixpoint
def encode_1_L2 (x : (List Int) × Int × Int × Int × Bool × (List Int) × (List S41)) : Option ((List Int)) :=
 (clip x.2.2.2.2.2.1) >>= fun y2 =>
 encode_1_L3 (x.1, x.2.1, y2, x.2.2.2.2.2.2, (x.2.2.2.2.2.2.length : Int), 0)
partial_fixpoint
end
abbrev T_encode_1_L3 (x : (List Int) × Int × (List Int) × (List S41) × Int × Int) (r : (List Int)) : Prop := ∀ (W0 w0 : World) (S : Own), Std W0 w0 S 1 → HL Tryz.prog w0 S 52 (cL (cL (cR (cL (cR (cR (cR (cR (cB Tryz.f79))))))))) (mkS [(0, tl 1 1 (encI .u8) x.1), (2, .int .u8 x.2.1), (7, tl 1 2 (encI .u8) x.2.2.1), (24, ls 5 false enc41 x.2.2.2.1), (25, .int .i64 x.2.2.2.2.1), (26, .int .i64 x.2.2.2.2.2)] [] 3 [2, 1]) (Kblock 0 (Kseq Tryz.prog w0 S 52 (cR (cR (cR (cR (cR (cB Tryz.f79)))))) (KEnd Tryz.prog Tryz.f79 (FEnd w0 S (.returned (tl 1 1 (encI .u8) r)) (mkW 2 [1] [])))))
abbrev T_encode_1 (x : (List Int) × Int × Int × Bool × (List Int) × (List S41) × Int) (r : (List Int)) : Prop := ∀ W0 : World, FTo Tryz.prog W0 79 #[tl 1 0 (encI .u8) x.1, .agg #[.int .u8 x.2.1, .int .u32 x.2.2.1, .bool x.2.2.2.1, ls 1 false (encI .u8) x.2.2.2.2.1, ls 5 false enc41 x.2.2.2.2.2.1], .int .u8 x.2.2.2.2.2.2] (mkW 1 [0] []) (.returned (tl 1 1 (encI .u8) r)) (mkW 2 [1] [])
abbrev T_encode_1_L1 (x : (List Int) × Int × Bool × Int × Int × Bool × (List Int) × (List S41)) (r : (List Int)) : Prop := ∀ (W0 w0 : World) (S : Own), Std W0 w0 S 1 → H Tryz.prog w0 S 52 (cR (cL (cR (cR (cB Tryz.f79))))) (mkS [(0, tl 1 1 (encI .u8) x.1), (2, .int .u8 x.2.1), (4, .pointer (some ⟨2, 0, none⟩)), (19, .bool x.2.2.1)] [(2, .cells [.int .u8 x.2.2.2.1, .int .u32 x.2.2.2.2.1, .bool x.2.2.2.2.2.1, ls 1 false (encI .u8) x.2.2.2.2.2.2.1, ls 5 false enc41 x.2.2.2.2.2.2.2] 41 5)] 3 [1]) (Kseq Tryz.prog w0 S 52 (cR (cR (cR (cB Tryz.f79)))) (KEnd Tryz.prog Tryz.f79 (FEnd w0 S (.returned (tl 1 1 (encI .u8) r)) (mkW 2 [1] []))))
abbrev T_encode_1_L2 (x : (List Int) × Int × Int × Int × Bool × (List Int) × (List S41)) (r : (List Int)) : Prop := ∀ (W0 w0 : World) (S : Own), Std W0 w0 S 1 → H Tryz.prog w0 S 52 (cR (cR (cR (cB Tryz.f79)))) (mkS [(0, tl 1 1 (encI .u8) x.1), (2, .int .u8 x.2.1), (4, .pointer (some ⟨2, 0, none⟩))] [(2, .cells [.int .u8 x.2.2.1, .int .u32 x.2.2.2.1, .bool x.2.2.2.2.1, ls 1 false (encI .u8) x.2.2.2.2.2.1, ls 5 false enc41 x.2.2.2.2.2.2] 41 5)] 3 [1]) (KEnd Tryz.prog Tryz.f79 (FEnd w0 S (.returned (tl 1 1 (encI .u8) r)) (mkW 2 [1] [])))
theorem encode_1_L3_grp : (∀ x r, encode_1_L3 x = some r → T_encode_1_L3 x r) ∧
 (∀ x r, encode_1 x = some r → T_encode_1 x r) ∧
 (∀ x r, encode_1_L1 x = some r → T_encode_1_L1 x r) ∧
 (∀ x r, encode_1_L2 x = some r → T_encode_1_L2 x r) := by
 refine encode_1_L3.mutual_partial_correctness T_encode_1_L3 T_encode_1 T_encode_1_L1 T_encode_1_L2 ?_ ?_ ?_ ?_
 ·intro g_encode_1_L3 g_encode_1 ih_encode_1_L3 ih_encode_1 x r h
  intro W0 w0 S hS
  haveI := hS.noEx Tryz.prog
  refine HL.round ?_
  refine H.sr' 1 ?_
  refine H.seq' ?_
  refine H.cS' (decide (x.2.2.2.2.2 < x.2.2.2.2.1)) (fun hb => ?_) (fun hb => ?_)
  ·rw [if_pos (of_decide_eq_true hb)] at h
   refine H.skp' ?_
   refine Kseq_norm ?_
   refine H.seq' ?_
   refine H.blk' 1 ?_
   refine H.sg' ?_
   obtain ⟨y3, hy, h⟩ := bindS h
   refine HO.idx (.agg #[.int .u8 y3.c0, .int .u32 y3.c1, .bool y3.c2, ls 1 false (encI .u8) y3.c3, ls 5 false enc41 y3.c4]) hy (enc41_eq y3) (by kernel_rfl) ?_
   refine HO.fin' 3 ?_
   refine H.reg' ?_
   refine HO.go' 3 ?_
   obtain ⟨y4, hy, h⟩ := bindS h
   refine HO.callFW hS (tl 1 4 (encI .u8) y4) 5 [4, 1] [(3, .cells [.int .u8 y3.c0, .int .u32 y3.c1, .bool y3.c2, ls 1 false (encI .u8) y3.c3, ls 5 false enc41 y3.c4] 41 5)] [2] [.keep, .agg [.keep, .keep, .keep, .list 1 false, .list 5 false], .keep] (ih_encode_1 (x.2.2.1, y3.c0, y3.c1, y3.c2, y3.c3, y3.c4, x.2.1) y4 hy W0) (by kernel_rfl) (by kernel_rfl) ?_
   refine HO.go' 1 ?_
   refine HO.end' ?_
   refine Kblock_norm ?_
   refine Kseq_norm ?_
   refine H.reg' ?_
   refine HO.go' 2 ?_
   refine HO.end' ?_
   refine Kloop_norm ?_
   exact HL.ren' hS [0, 1, 4] (ih_encode_1_L3 (x.1, x.2.1, y4, x.2.2.2.1, x.2.2.2.2.1, (IntKind.i64.wrap (x.2.2.2.2.2 + 1))) r h W0 w0 S hS)
  rw [if_neg (of_decide_eq_false hb)] at h
  refine H.ext' 0 ?_
  refine Kseq_exit ?_
  refine Kloop_exit ?_
  refine Kblock_hit ?_
  refine Kseq_norm ?_
  refine H.seq' ?_
  refine H.sr' 2 ?_
  refine H.cS' (decide (x.2.1 = 1)) (fun hb => ?_) (fun hb => ?_)
  ·rw [if_pos (of_decide_eq_true hb)] at h
   refine H.sg' ?_
   refine HO.go' 2 ?_
   obtain ⟨y5, hy, h⟩ := bindS h
   refine HO.effA (app1_aop (enc := (encI .u8)) (k := 1) false 1 [.int .u8 128] [2] hy (by kernel_rfl) (by kernel_rfl) (by kernel_rfl)) ?_
   refine HO.go' 1 ?_
   obtain ⟨y6, hy, h⟩ := bindS h
   by_cases hb : x.2.2.1.length = 0
   ·rw [if_pos hb] at h
    refine HO.valA (appN_aop (ag := false) [2] (encI_ok .u8) hy hb (by kernel_rfl)) ?_
    refine HO.fin' 1 ?_
    exact H.ren' hS [0, 4] (encode_1_L4_ok y5 r h W0 w0 S hS)
   rw [if_neg hb] at h
   refine HO.effA (appL_aop (ag := false) [2] (encI_ok .u8) hy hb (by kernel_rfl)) ?_
   refine HO.fin' 1 ?_
   exact H.ren' hS [0, 5] (encode_1_L4_ok y6 r h W0 w0 S hS)
  rw [if_neg (of_decide_eq_false hb)] at h
  refine H.skp' ?_
  refine Kseq_norm ?_
  refine H.sg' ?_
  refine HO.go' 2 ?_
  refine HO.len (by kernel_rfl) (by kernel_rfl) (ls_size (encI .u8) x.2.2.1) ?_
  refine HO.go' 1 ?_
  obtain ⟨y8, hy, h⟩ := bindS h
  refine HO.callFW hS (tl 1 3 (encI .u8) y8) 4 [3, 2] [] [1] [.keep, .keep, .keep] (size_ok (x.1, (x.2.2.1.length : Int), x.2.1) y8 hy W0) (by kernel_rfl) (by kernel_rfl) ?_
  refine HO.go' 1 ?_
  obtain ⟨y9, hy, h⟩ := bindS h
  by_cases hb : x.2.2.1.length = 0
  ·rw [if_pos hb] at h
   refine HO.valA (appN_aop (ag := false) [2] (encI_ok .u8) hy hb (by kernel_rfl)) ?_
   refine HO.fin' 1 ?_
   exact H.ren' hS [0, 3] (encode_1_L5_ok y8 r h W0 w0 S hS)
  rw [if_neg hb] at h
  refine HO.effA (appL_aop (ag := false) [2] (encI_ok .u8) hy hb (by kernel_rfl)) ?_
  refine HO.fin' 1 ?_
  exact H.ren' hS [0, 4] (encode_1_L5_ok y9 r h W0 w0 S hS)
 ·intro g_encode_1_L1 ih_encode_1_L1 x r h
  intro W0
  refine FTo.of_body (fn := Tryz.f79) (code := cB Tryz.f79) Tryz.func79 rfl rfl ?_
  intro w0 S hS
  haveI := hS.noEx Tryz.prog
  refine H.sr' 2 ?_
  refine H.sg' ?_
  refine HO.go' 2 ?_
  obtain ⟨y1, hy, h⟩ := bindS h
  refine HO.callFW hS (tl 1 2 (encI .u8) y1) 3 [2] [(1, .cells [.int .u8 x.2.1, .int .u32 x.2.2.1, .bool x.2.2.2.1, ls 1 false (encI .u8) x.2.2.2.2.1, ls 5 false enc41 x.2.2.2.2.2.1] 41 5)] [0] [.keep, .agg [.keep, .keep, .keep, .list 1 false, .list 5 false]] (identifier_1_ok (x.1, x.2.1, x.2.2.1, x.2.2.2.1, x.2.2.2.2.1, x.2.2.2.2.2.1) y1 hy W0) (by kernel_rfl) (by kernel_rfl) ?_
  refine HO.fin' 1 ?_
  refine H.seq' ?_
  refine H.sg' ?_
  refine HO.go' 3 ?_
  refine HO.bo' (!x.2.2.2.1) (fun hb => ?_) (fun hb => ?_)
  ·rw [if_pos hb] at h
   refine HO.fin' 3 ?_
   exact H.ren' hS [0, 2, 1] (ih_encode_1_L1 (y1, x.2.2.2.2.2.2, (!decide (x.2.2.2.2.2.2 = 2)), x.2.1, x.2.2.1, x.2.2.2.1, x.2.2.2.2.1, x.2.2.2.2.2.1) r h W0 w0 S hS)
  rw [if_neg (ne_true hb)] at h
  refine HO.fin' 3 ?_
  exact H.ren' hS [0, 2, 1] (ih_encode_1_L1 (y1, x.2.2.2.2.2.2, false, x.2.1, x.2.2.1, x.2.2.2.1, x.2.2.2.2.1, x.2.2.2.2.2.1) r h W0 w0 S hS)
 ·intro g_encode_1_L2 ih_encode_1_L2 x r h
  intro W0 w0 S hS
  haveI := hS.noEx Tryz.prog
  refine H.cS' (x.2.2.1) (fun hb => ?_) (fun hb => ?_)
  rotate_left
  ·rw [if_neg (ne_true hb)] at h
   refine H.skp' ?_
   refine Kseq_norm ?_
   exact H.ren' hS [0, 1, 2] (ih_encode_1_L2 (x.1, x.2.1, x.2.2.2.1, x.2.2.2.2.1, x.2.2.2.2.2.1, x.2.2.2.2.2.2.1, x.2.2.2.2.2.2.2) r h W0 w0 S hS)
  rw [if_pos hb] at h
  refine H.reg' ?_
  refine HO.fin' 1 ?_
  exact H.ren' hS [0, 1, 2] (ih_encode_1_L2 (x.1, 0, x.2.2.2.1, x.2.2.2.2.1, x.2.2.2.2.2.1, x.2.2.2.2.2.2.1, x.2.2.2.2.2.2.2) r h W0 w0 S hS)
 ·intro g_encode_1_L3 ih_encode_1_L3 x r h
  intro W0 w0 S hS
  haveI := hS.noEx Tryz.prog
  refine H.sg' ?_
  refine HO.go' 2 ?_
  obtain ⟨y2, hy, h⟩ := bindS h
  refine HO.callW hS [.list 1 false] (clip_ok x.2.2.2.2.2.1 y2 hy W0) (by kernel_rfl) (by kernel_rfl) ?_
  refine HO.fin' 1 ?_
  refine H.seq' ?_
  refine H.sg' ?_
  refine HO.go' 2 ?_
  refine HO.len (by kernel_rfl) (by kernel_rfl) (ls_size enc41 x.2.2.2.2.2.2) ?_
  refine HO.fin' 1 ?_
  refine H.blk' 0 ?_
  refine H.lop' ?_
  refine HL.tok 7 1 (es := (y2.map (encI .u8)).toArray) (by kernel_rfl) ?_
  exact HL.ren' hS [0, 1, 3] (ih_encode_1_L3 (x.1, x.2.1, y2, x.2.2.2.2.2.2, (x.2.2.2.2.2.2.length : Int), 0) r h W0 w0 S hS)
theorem encode_1_L3_ok : ∀ x r, encode_1_L3 x = some r → T_encode_1_L3 x r := encode_1_L3_grp.1
theorem encode_1_ok : ∀ x r, encode_1 x = some r → T_encode_1 x r := encode_1_L3_grp.2.1
theorem encode_1_L1_ok : ∀ x r, encode_1_L1 x = some r → T_encode_1_L1 x r := encode_1_L3_grp.2.2.1
theorem encode_1_L2_ok : ∀ x r, encode_1_L2 x = some r → T_encode_1_L2 x r := encode_1_L3_grp.2.2.2
def encode_L4 (x : (List Int)) : Option ((List Int)) :=
 (app' 1 x [0, 0]) >>= fun y7 =>
 some y7
theorem encode_L4_ok : ∀ (x : (List Int)) (r : (List Int)), encode_L4 x = some r → ∀ (W0 w0 : World) (S : Own), Std W0 w0 S 0 → H Tryz.prog w0 S 52 (cR (cL (cR (cL (cR (cR (cR (cR (cR (cB Tryz.f79)))))))))) (mkS [(0, tl 1 0 (encI .u8) x)] [] 1 [0]) (Kseq Tryz.prog w0 S 52 (cR (cR (cR (cR (cR (cR (cB Tryz.f79))))))) (KEnd Tryz.prog Tryz.f79 (FEnd w0 S (.returned (tl 1 0 (encI .u8) r)) (mkW 1 [0] [])))) := by
 intro x r h
 unfold encode_L4 at h
 intro W0 w0 S hS
 haveI := hS.noEx Tryz.prog
 refine H.sg' ?_
 refine HO.go' 2 ?_
 obtain ⟨y7, hy, h⟩ := bindS h
 refine HO.effA (app1_aop (enc := (encI .u8)) (k := 1) false 2 [.int .u8 0, .int .u8 0] [] hy (by kernel_rfl) (by kernel_rfl) (by kernel_rfl)) ?_
 refine HO.fin' 1 ?_
 refine H.ret' ?_
 refine Kseq_ret ?_
 obtain rfl := Option.some.inj h
 exact KEnd.of (v := tl 1 2 (encI .u8) y7) (by kernel_rfl) (by kernel_rfl) (FEnd.ren hS [2] _ _ (by kernel_rfl))
def encode_L5 (x : (List Int)) : Option ((List Int)) :=
 some x
theorem encode_L5_ok : ∀ (x : (List Int)) (r : (List Int)), encode_L5 x = some r → ∀ (W0 w0 : World) (S : Own), Std W0 w0 S 0 → H Tryz.prog w0 S 52 (cR (cR (cR (cR (cR (cR (cR (cB Tryz.f79)))))))) (mkS [(6, tl 1 0 (encI .u8) x)] [] 1 [0]) (KEnd Tryz.prog Tryz.f79 (FEnd w0 S (.returned (tl 1 0 (encI .u8) r)) (mkW 1 [0] []))) := by
 intro x r h
 unfold encode_L5 at h
 intro W0 w0 S hS
 haveI := hS.noEx Tryz.prog
 refine H.ret' ?_
 obtain rfl := Option.some.inj h
 exact KEnd.of (v := tl 1 0 (encI .u8) x) (by kernel_rfl) (by kernel_rfl) (FEnd.ren hS [0] _ _ (by kernel_rfl))
def encode_L3 (x : (List Int) × Int × (List Int) × (List S41) × Int × Int) : Option ((List Int)) :=
 if x.2.2.2.2.2 < x.2.2.2.2.1 then
  (at' x.2.2.2.1 x.2.2.2.2.2) >>= fun y3 =>
  (encode_1 (x.2.2.1, y3.c0, y3.c1, y3.c2, y3.c3, y3.c4, x.2.1)) >>= fun y4 =>
  encode_L3 (x.1, x.2.1, y4, x.2.2.2.1, x.2.2.2.2.1, (IntKind.i64.wrap (x.2.2.2.2.2 + 1)))
 else
  if x.2.1 = 1 then
   (app' 1 x.1 [128]) >>= fun y5 =>
   (app' 1 y5 x.2.2.1) >>= fun y6 =>
   if x.2.2.1.length = 0 then
    encode_L4 y5
   else
    encode_L4 y6
  else
   (size (x.1, (x.2.2.1.length : Int), x.2.1)) >>= fun y8 =>
   (app' 1 y8 x.2.2.1) >>= fun y9 =>
   if x.2.2.1.length = 0 then
    encode_L5 y8
   else
    encode_L5 y9
partial_fixpoint
abbrev T_encode_L3 (x : (List Int) × Int × (List Int) × (List S41) × Int × Int) (r : (List Int)) : Prop := ∀ (W0 w0 : World) (S : Own), Std W0 w0 S 0 → HL Tryz.prog w0 S 52 (cL (cL (cR (cL (cR (cR (cR (cR (cB Tryz.f79))))))))) (mkS [(0, tl 1 0 (encI .u8) x.1), (2, .int .u8 x.2.1), (7, tl 1 1 (encI .u8) x.2.2.1), (24, ls 5 false enc41 x.2.2.2.1), (25, .int .i64 x.2.2.2.2.1), (26, .int .i64 x.2.2.2.2.2)] [] 2 [1, 0]) (Kblock 0 (Kseq Tryz.prog w0 S 52 (cR (cR (cR (cR (cR (cB Tryz.f79)))))) (KEnd Tryz.prog Tryz.f79 (FEnd w0 S (.returned (tl 1 0 (encI .u8) r)) (mkW 1 [0] [])))))
theorem encode_L3_ok : ∀ x r, encode_L3 x = some r → T_encode_L3 x r := by
 refine encode_L3.partial_correctness T_encode_L3 ?_
 intro self ih_encode_L3 x r h
 intro W0 w0 S hS
 haveI := hS.noEx Tryz.prog
 refine HL.round ?_
 refine H.sr' 1 ?_
 refine H.seq' ?_
 refine H.cS' (decide (x.2.2.2.2.2 < x.2.2.2.2.1)) (fun hb => ?_) (fun hb => ?_)
 ·rw [if_pos (of_decide_eq_true hb)] at h
  refine H.skp' ?_
  refine Kseq_norm ?_
  refine H.seq' ?_
  refine H.blk' 1 ?_
  refine H.sg' ?_
  obtain ⟨y3, hy, h⟩ := bindS h
  refine HO.idx (.agg #[.int .u8 y3.c0, .int .u32 y3.c1, .bool y3.c2, ls 1 false (encI .u8) y3.c3, ls 5 false enc41 y3.c4]) hy (enc41_eq y3) (by kernel_rfl) ?_
  refine HO.fin' 3 ?_
  refine H.reg' ?_
  refine HO.go' 3 ?_
  obtain ⟨y4, hy, h⟩ := bindS h
  refine HO.callFW hS (tl 1 3 (encI .u8) y4) 4 [3, 0] [(2, .cells [.int .u8 y3.c0, .int .u32 y3.c1, .bool y3.c2, ls 1 false (encI .u8) y3.c3, ls 5 false enc41 y3.c4] 41 5)] [1] [.keep, .agg [.keep, .keep, .keep, .list 1 false, .list 5 false], .keep] (encode_1_ok (x.2.2.1, y3.c0, y3.c1, y3.c2, y3.c3, y3.c4, x.2.1) y4 hy W0) (by kernel_rfl) (by kernel_rfl) ?_
  refine HO.go' 1 ?_
  refine HO.end' ?_
  refine Kblock_norm ?_
  refine Kseq_norm ?_
  refine H.reg' ?_
  refine HO.go' 2 ?_
  refine HO.end' ?_
  refine Kloop_norm ?_
  exact HL.ren' hS [0, 3] (ih_encode_L3 (x.1, x.2.1, y4, x.2.2.2.1, x.2.2.2.2.1, (IntKind.i64.wrap (x.2.2.2.2.2 + 1))) r h W0 w0 S hS)
 rw [if_neg (of_decide_eq_false hb)] at h
 refine H.ext' 0 ?_
 refine Kseq_exit ?_
 refine Kloop_exit ?_
 refine Kblock_hit ?_
 refine Kseq_norm ?_
 refine H.seq' ?_
 refine H.sr' 2 ?_
 refine H.cS' (decide (x.2.1 = 1)) (fun hb => ?_) (fun hb => ?_)
 ·rw [if_pos (of_decide_eq_true hb)] at h
  refine H.sg' ?_
  refine HO.go' 2 ?_
  obtain ⟨y5, hy, h⟩ := bindS h
  refine HO.effA (app1_aop (enc := (encI .u8)) (k := 1) false 1 [.int .u8 128] [1] hy (by kernel_rfl) (by kernel_rfl) (by kernel_rfl)) ?_
  refine HO.go' 1 ?_
  obtain ⟨y6, hy, h⟩ := bindS h
  by_cases hb : x.2.2.1.length = 0
  ·rw [if_pos hb] at h
   refine HO.valA (appN_aop (ag := false) [1] (encI_ok .u8) hy hb (by kernel_rfl)) ?_
   refine HO.fin' 1 ?_
   exact H.ren' hS [3] (encode_L4_ok y5 r h W0 w0 S hS)
  rw [if_neg hb] at h
  refine HO.effA (appL_aop (ag := false) [1] (encI_ok .u8) hy hb (by kernel_rfl)) ?_
  refine HO.fin' 1 ?_
  exact H.ren' hS [4] (encode_L4_ok y6 r h W0 w0 S hS)
 rw [if_neg (of_decide_eq_false hb)] at h
 refine H.skp' ?_
 refine Kseq_norm ?_
 refine H.sg' ?_
 refine HO.go' 2 ?_
 refine HO.len (by kernel_rfl) (by kernel_rfl) (ls_size (encI .u8) x.2.2.1) ?_
 refine HO.go' 1 ?_
 obtain ⟨y8, hy, h⟩ := bindS h
 refine HO.callFW hS (tl 1 2 (encI .u8) y8) 3 [2, 1] [] [0] [.keep, .keep, .keep] (size_ok (x.1, (x.2.2.1.length : Int), x.2.1) y8 hy W0) (by kernel_rfl) (by kernel_rfl) ?_
 refine HO.go' 1 ?_
 obtain ⟨y9, hy, h⟩ := bindS h
 by_cases hb : x.2.2.1.length = 0
 ·rw [if_pos hb] at h
  refine HO.valA (appN_aop (ag := false) [1] (encI_ok .u8) hy hb (by kernel_rfl)) ?_
  refine HO.fin' 1 ?_
  exact H.ren' hS [2] (encode_L5_ok y8 r h W0 w0 S hS)
 rw [if_neg hb] at h
 refine HO.effA (appL_aop (ag := false) [1] (encI_ok .u8) hy hb (by kernel_rfl)) ?_
 refine HO.fin' 1 ?_
 exact H.ren' hS [3] (encode_L5_ok y9 r h W0 w0 S hS)
def encode_L2 (x : (List Int) × Int × Int × Int × Bool × (List Int) × (List S41)) : Option ((List Int)) :=
 (clip x.2.2.2.2.2.1) >>= fun y2 =>
 encode_L3 (x.1, x.2.1, y2, x.2.2.2.2.2.2, (x.2.2.2.2.2.2.length : Int), 0)
theorem encode_L2_ok : ∀ (x : (List Int) × Int × Int × Int × Bool × (List Int) × (List S41)) (r : (List Int)), encode_L2 x = some r → ∀ (W0 w0 : World) (S : Own), Std W0 w0 S 0 → H Tryz.prog w0 S 52 (cR (cR (cR (cB Tryz.f79)))) (mkS [(0, tl 1 0 (encI .u8) x.1), (2, .int .u8 x.2.1), (4, .pointer (some ⟨1, 0, none⟩))] [(1, .cells [.int .u8 x.2.2.1, .int .u32 x.2.2.2.1, .bool x.2.2.2.2.1, ls 1 false (encI .u8) x.2.2.2.2.2.1, ls 5 false enc41 x.2.2.2.2.2.2] 41 5)] 2 [0]) (KEnd Tryz.prog Tryz.f79 (FEnd w0 S (.returned (tl 1 0 (encI .u8) r)) (mkW 1 [0] []))) := by
 intro x r h
 unfold encode_L2 at h
 intro W0 w0 S hS
 haveI := hS.noEx Tryz.prog
 refine H.sg' ?_
 refine HO.go' 2 ?_
 obtain ⟨y2, hy, h⟩ := bindS h
 refine HO.callW hS [.list 1 false] (clip_ok x.2.2.2.2.2.1 y2 hy W0) (by kernel_rfl) (by kernel_rfl) ?_
 refine HO.fin' 1 ?_
 refine H.seq' ?_
 refine H.sg' ?_
 refine HO.go' 2 ?_
 refine HO.len (by kernel_rfl) (by kernel_rfl) (ls_size enc41 x.2.2.2.2.2.2) ?_
 refine HO.fin' 1 ?_
 refine H.blk' 0 ?_
 refine H.lop' ?_
 refine HL.tok 7 1 (es := (y2.map (encI .u8)).toArray) (by kernel_rfl) ?_
 exact HL.ren' hS [0, 2] (encode_L3_ok (x.1, x.2.1, y2, x.2.2.2.2.2.2, (x.2.2.2.2.2.2.length : Int), 0) r h W0 w0 S hS)
def encode_L1 (x : (List Int) × Int × Bool × Int × Int × Bool × (List Int) × (List S41)) : Option ((List Int)) :=
 if x.2.2.1 = true then
  encode_L2 (x.1, 0, x.2.2.2.1, x.2.2.2.2.1, x.2.2.2.2.2.1, x.2.2.2.2.2.2.1, x.2.2.2.2.2.2.2)
 else
  encode_L2 (x.1, x.2.1, x.2.2.2.1, x.2.2.2.2.1, x.2.2.2.2.2.1, x.2.2.2.2.2.2.1, x.2.2.2.2.2.2.2)
theorem encode_L1_ok : ∀ (x : (List Int) × Int × Bool × Int × Int × Bool × (List Int) × (List S41)) (r : (List Int)), encode_L1 x = some r → ∀ (W0 w0 : World) (S : Own), Std W0 w0 S 0 → H Tryz.prog w0 S 52 (cR (cL (cR (cR (cB Tryz.f79))))) (mkS [(0, tl 1 0 (encI .u8) x.1), (2, .int .u8 x.2.1), (4, .pointer (some ⟨1, 0, none⟩)), (19, .bool x.2.2.1)] [(1, .cells [.int .u8 x.2.2.2.1, .int .u32 x.2.2.2.2.1, .bool x.2.2.2.2.2.1, ls 1 false (encI .u8) x.2.2.2.2.2.2.1, ls 5 false enc41 x.2.2.2.2.2.2.2] 41 5)] 2 [0]) (Kseq Tryz.prog w0 S 52 (cR (cR (cR (cB Tryz.f79)))) (KEnd Tryz.prog Tryz.f79 (FEnd w0 S (.returned (tl 1 0 (encI .u8) r)) (mkW 1 [0] [])))) := by
 intro x r h
 unfold encode_L1 at h
 intro W0 w0 S hS
 haveI := hS.noEx Tryz.prog
 refine H.cS' (x.2.2.1) (fun hb => ?_) (fun hb => ?_)
 rotate_left
 ·rw [if_neg (ne_true hb)] at h
  refine H.skp' ?_
  refine Kseq_norm ?_
  exact H.ren' hS [0, 1] (encode_L2_ok (x.1, x.2.1, x.2.2.2.1, x.2.2.2.2.1, x.2.2.2.2.2.1, x.2.2.2.2.2.2.1, x.2.2.2.2.2.2.2) r h W0 w0 S hS)
 rw [if_pos hb] at h
 refine H.reg' ?_
 refine HO.fin' 1 ?_
 exact H.ren' hS [0, 1] (encode_L2_ok (x.1, 0, x.2.2.2.1, x.2.2.2.2.1, x.2.2.2.2.2.1, x.2.2.2.2.2.2.1, x.2.2.2.2.2.2.2) r h W0 w0 S hS)
def encode (x : Int × Int × Bool × (List Int) × (List S41) × Int) : Option ((List Int)) :=
 (identifier_1 ([], x.1, x.2.1, x.2.2.1, x.2.2.2.1, x.2.2.2.2.1)) >>= fun y1 =>
 if (!x.2.2.1) = true then
  encode_L1 (y1, x.2.2.2.2.2, (!decide (x.2.2.2.2.2 = 2)), x.1, x.2.1, x.2.2.1, x.2.2.2.1, x.2.2.2.2.1)
 else
  encode_L1 (y1, x.2.2.2.2.2, false, x.1, x.2.1, x.2.2.1, x.2.2.2.1, x.2.2.2.2.1)
theorem encode_ok : ∀ (x : Int × Int × Bool × (List Int) × (List S41) × Int) (r : (List Int)), encode x = some r → ∀ W0 : World, FTo Tryz.prog W0 79 #[.slice none 0 0, .agg #[.int .u8 x.1, .int .u32 x.2.1, .bool x.2.2.1, ls 1 false (encI .u8) x.2.2.2.1, ls 5 false enc41 x.2.2.2.2.1], .int .u8 x.2.2.2.2.2] (mkW 0 [] []) (.returned (tl 1 0 (encI .u8) r)) (mkW 1 [0] []) := by
 intro x r h
 unfold encode at h
 intro W0
 refine FTo.of_body (fn := Tryz.f79) (code := cB Tryz.f79) Tryz.func79 rfl rfl ?_
 intro w0 S hS
 haveI := hS.noEx Tryz.prog
 refine H.sr' 2 ?_
 refine H.sg' ?_
 refine HO.go' 2 ?_
 refine HO.tok 10 1 (es := #[]) (by kernel_rfl) ?_
 obtain ⟨y1, hy, h⟩ := bindS h
 refine HO.callFW hS (tl 1 2 (encI .u8) y1) 3 [2] [(0, .cells [.int .u8 x.1, .int .u32 x.2.1, .bool x.2.2.1, ls 1 false (encI .u8) x.2.2.2.1, ls 5 false enc41 x.2.2.2.2.1] 41 5)] [1] [.keep, .agg [.keep, .keep, .keep, .list 1 false, .list 5 false]] (identifier_1_ok ([], x.1, x.2.1, x.2.2.1, x.2.2.2.1, x.2.2.2.2.1) y1 hy W0) (by kernel_rfl) (by kernel_rfl) ?_
 refine HO.fin' 1 ?_
 refine H.seq' ?_
 refine H.sg' ?_
 refine HO.go' 3 ?_
 refine HO.bo' (!x.2.2.1) (fun hb => ?_) (fun hb => ?_)
 ·rw [if_pos hb] at h
  refine HO.fin' 3 ?_
  exact H.ren' hS [2, 0] (encode_L1_ok (y1, x.2.2.2.2.2, (!decide (x.2.2.2.2.2 = 2)), x.1, x.2.1, x.2.2.1, x.2.2.2.1, x.2.2.2.2.1) r h W0 w0 S hS)
 rw [if_neg (ne_true hb)] at h
 refine HO.fin' 3 ?_
 exact H.ren' hS [2, 0] (encode_L1_ok (y1, x.2.2.2.2.2, false, x.1, x.2.1, x.2.2.1, x.2.2.2.1, x.2.2.2.2.1) r h W0 w0 S hS)
def encodeAs (x : Int × Int × Bool × (List Int) × (List S41) × Int) : Option ((List Int) × Int) :=
 (check (x.1, x.2.1, x.2.2.1, x.2.2.2.1, x.2.2.2.2.1)) >>= fun y1 =>
 if (!decide (y1 = 0)) = true then
  some ([], y1)
 else
  if 2 < x.2.2.2.2.2 then
   some ([], 1)
  else
   (long (x.1, x.2.1, x.2.2.1, x.2.2.2.1, x.2.2.2.2.1)) >>= fun y2 =>
   if 65536 < y2 then
    some ([], 3)
   else
    (encode (x.1, x.2.1, x.2.2.1, x.2.2.2.1, x.2.2.2.2.1, x.2.2.2.2.2)) >>= fun y3 =>
    if 65536 < (y3.length : Int) then
     some ([], 3)
    else
     (clip y3) >>= fun y4 =>
     some (y4, 0)
theorem encodeAs_ok : ∀ (x : Int × Int × Bool × (List Int) × (List S41) × Int) (r : (List Int) × Int), encodeAs x = some r → ∀ W0 : World, PTo Tryz.prog W0 40 #[.agg #[.int .u8 x.1, .int .u32 x.2.1, .bool x.2.2.1, ls 1 false (encI .u8) x.2.2.2.1, ls 5 false enc41 x.2.2.2.2.1], .int .u8 x.2.2.2.2.2] (.returned (.tuple #[ls 1 true (encI .u8) r.1, .int .i64 r.2])) := by
 intro x r h
 unfold encodeAs at h
 intro W0
 refine PTo.of_body (fn := Tryz.f40) (code := cB Tryz.f40) Tryz.func40 rfl rfl ?_
 intro w0 S hS
 haveI := hS.noEx Tryz.prog
 refine H.sr' 3 ?_
 refine H.seq' ?_
 refine H.sg' ?_
 refine HO.go' 1 ?_
 obtain ⟨y1, hy, h⟩ := bindS h
 refine HO.callW hS [.agg [.keep, .keep, .keep, .list 1 false, .list 5 false]] (check_ok (x.1, x.2.1, x.2.2.1, x.2.2.2.1, x.2.2.2.2.1) y1 hy W0) (by kernel_rfl) (by kernel_rfl) ?_
 refine HO.fin' 1 ?_
 refine H.blk' 0 ?_
 refine H.sr' 3 ?_
 refine H.cS' (!decide (y1 = 0)) (fun hb => ?_) (fun hb => ?_)
 ·rw [if_pos hb] at h
  refine H.sr' 3 ?_
  refine H.ret' ?_
  refine Kblock_ret ?_
  refine Kseq_ret ?_
  obtain rfl := Option.some.inj h
  exact KEnd.retW (v := .tuple #[.slice none 0 0, .int .i64 y1]) (.tuple [.list 1 true, .keep]) (by kernel_rfl) (by kernel_rfl) (by kernel_rfl) (by kernel_rfl)
 rw [if_neg (ne_true hb)] at h
 refine H.sr' 3 ?_
 refine H.cS' (decide (2 < x.2.2.2.2.2)) (fun hb => ?_) (fun hb => ?_)
 ·rw [if_pos (of_decide_eq_true hb)] at h
  refine H.sr' 2 ?_
  refine H.ret' ?_
  refine Kblock_ret ?_
  refine Kseq_ret ?_
  obtain rfl := Option.some.inj h
  exact KEnd.retW (v := .tuple #[.slice none 0 0, .int .i64 1]) (.tuple [.list 1 true, .keep]) (by kernel_rfl) (by kernel_rfl) (by kernel_rfl) (by kernel_rfl)
 rw [if_neg (of_decide_eq_false hb)] at h
 refine H.skp' ?_
 refine Kblock_norm ?_
 refine Kseq_norm ?_
 refine H.seq' ?_
 refine H.sg' ?_
 refine HO.go' 1 ?_
 obtain ⟨y2, hy, h⟩ := bindS h
 refine HO.callW hS [.agg [.keep, .keep, .keep, .list 1 false, .list 5 false]] (long_ok (x.1, x.2.1, x.2.2.1, x.2.2.2.1, x.2.2.2.2.1) y2 hy W0) (by kernel_rfl) (by kernel_rfl) ?_
 refine HO.fin' 1 ?_
 refine H.cS' (decide (65536 < y2)) (fun hb => ?_) (fun hb => ?_)
 ·rw [if_pos (of_decide_eq_true hb)] at h
  refine H.sr' 2 ?_
  refine H.ret' ?_
  refine Kseq_ret ?_
  obtain rfl := Option.some.inj h
  exact KEnd.retW (v := .tuple #[.slice none 0 0, .int .i64 3]) (.tuple [.list 1 true, .keep]) (by kernel_rfl) (by kernel_rfl) (by kernel_rfl) (by kernel_rfl)
 rw [if_neg (of_decide_eq_false hb)] at h
 refine H.skp' ?_
 refine Kseq_norm ?_
 refine H.sg' ?_
 refine HO.go' 2 ?_
 obtain ⟨y3, hy, h⟩ := bindS h
 refine HO.callFW hS (tl 1 1 (encI .u8) y3) 2 [1] [(0, .cells [.int .u8 x.1, .int .u32 x.2.1, .bool x.2.2.1, ls 1 false (encI .u8) x.2.2.2.1, ls 5 false enc41 x.2.2.2.2.1] 41 5)] [] [.keep, .agg [.keep, .keep, .keep, .list 1 false, .list 5 false], .keep] (encode_ok (x.1, x.2.1, x.2.2.1, x.2.2.2.1, x.2.2.2.2.1, x.2.2.2.2.2) y3 hy W0) (by kernel_rfl) (by kernel_rfl) ?_
 refine HO.fin' 1 ?_
 refine H.seq' ?_
 refine H.sg' ?_
 refine HO.go' 1 ?_
 refine HO.len (by kernel_rfl) (by kernel_rfl) (ls_size (encI .u8) y3) ?_
 refine HO.fin' 1 ?_
 refine H.cS' (decide (65536 < (y3.length : Int))) (fun hb => ?_) (fun hb => ?_)
 ·rw [if_pos (of_decide_eq_true hb)] at h
  refine H.sr' 2 ?_
  refine H.ret' ?_
  refine Kseq_ret ?_
  obtain rfl := Option.some.inj h
  exact KEnd.retW (v := .tuple #[.slice none 0 0, .int .i64 3]) (.tuple [.list 1 true, .keep]) (by kernel_rfl) (by kernel_rfl) (by kernel_rfl) (by kernel_rfl)
 rw [if_neg (of_decide_eq_false hb)] at h
 refine H.skp' ?_
 refine Kseq_norm ?_
 refine H.sg' ?_
 refine HO.go' 1 ?_
 obtain ⟨y4, hy, h⟩ := bindS h
 refine HO.callW hS [.list 1 false] (clip_ok y3 y4 hy W0) (by kernel_rfl) (by kernel_rfl) ?_
 refine HO.fin' 2 ?_
 refine H.ret' ?_
 obtain rfl := Option.some.inj h
 exact KEnd.retW (v := .tuple #[ls 1 true (encI .u8) y4, .int .i64 0]) (.tuple [.list 1 true, .keep]) (by kernel_rfl) (by kernel_rfl) (by kernel_rfl) (by kernel_rfl)
def encodeC (x : Int × Int × Bool × (List Int) × (List S41)) : Option ((List Int) × Int) :=
 (encodeAs (x.1, x.2.1, x.2.2.1, x.2.2.2.1, x.2.2.2.2, 0)) >>= fun y1 =>
 some (y1.1, y1.2)
theorem encodeC_ok : ∀ (x : Int × Int × Bool × (List Int) × (List S41)) (r : (List Int) × Int), encodeC x = some r → ∀ W0 : World, PTo Tryz.prog W0 11 #[.agg #[.int .u8 x.1, .int .u32 x.2.1, .bool x.2.2.1, ls 1 false (encI .u8) x.2.2.2.1, ls 5 false enc41 x.2.2.2.2]] (.returned (.tuple #[ls 1 true (encI .u8) r.1, .int .i64 r.2])) := by
 intro x r h
 unfold encodeC at h
 intro W0
 refine PTo.of_body (fn := Tryz.f11) (code := cB Tryz.f11) Tryz.func11 rfl rfl ?_
 intro w0 S hS
 haveI := hS.noEx Tryz.prog
 refine H.sr' 3 ?_
 refine H.sg' ?_
 refine HO.go' 1 ?_
 obtain ⟨y1, hy, h⟩ := bindS h
 refine HO.callW hS [.agg [.keep, .keep, .keep, .list 1 false, .list 5 false], .keep] (encodeAs_ok (x.1, x.2.1, x.2.2.1, x.2.2.2.1, x.2.2.2.2, 0) y1 hy W0) (by kernel_rfl) (by kernel_rfl) ?_
 refine HO.fin' 4 ?_
 refine H.ret' ?_
 obtain rfl := Option.some.inj h
 exact KEnd.retW (v := .tuple #[ls 1 true (encI .u8) y1.1, .int .i64 y1.2]) (.tuple [.list 1 true, .keep]) (by kernel_rfl) (by kernel_rfl) (by kernel_rfl) (by kernel_rfl)
def must (x : Bool × Int) : Option (Except Int Unit) :=
 if (!x.1) = true then
  some (.error x.2)
 else
  some (.ok ())
theorem must_ok : ∀ (x : Bool × Int) (r : Except Int Unit), must x = some r → ∀ W0 : World, PTo Tryz.prog W0 120 #[.bool x.1, .int .i64 x.2] (match r with | .ok r => .returned (.tuple #[]) | .error e => panE (.iface 43 (.int .i64 e))) := by
 intro x r h
 unfold must at h
 intro W0
 refine PTo.of_body (fn := Tryz.f120) (code := cB Tryz.f120) Tryz.func120 rfl rfl ?_
 intro w0 S hS
 haveI := hS.noEx Tryz.prog
 refine H.sr' 2 ?_
 refine H.cS' (!x.1) (fun hb => ?_) (fun hb => ?_)
 rotate_left
 ·rw [if_neg (ne_true hb)] at h
  refine H.skp' ?_
  obtain rfl := Option.some.inj h
  exact KEnd.r'
 rw [if_pos hb] at h
 refine H.reg' ?_
 refine HO.go' 2 ?_
 refine HO.pan1 (.iface 43 (.int .i64 x.2)) (by kernel_rfl) ?_
 obtain rfl := Option.some.inj h
 exact KEnd.pan (by kernel_rfl) (by kernel_rfl)
def take (x : Int × (List Int) × Int) : Option (Except Int ((List Int) × (List Int) × Int)) :=
 if (x.2.1.length : Int) < x.1 then
  some (.error 4)
 else
  (sub' x.2.1 0 x.1) >>= fun y1 =>
  (sub' x.2.1 x.1 (x.2.1.length : Int)) >>= fun y2 =>
  some (.ok (y1, y2, x.2.2))
theorem take_ok : ∀ (x : Int × (List Int) × Int) (r : Except Int ((List Int) × (List Int) × Int)), take x = some r → ∀ W0 : World, FTo Tryz.prog W0 125 #[.pointer (some ⟨0, 0, none⟩), .int .i64 x.1] (mkW 1 [] [(0, .cells [ls 1 false (encI .u8) x.2.1, .int .i64 x.2.2] 189 2)]) (match r with | .ok r => .returned (ls 1 false (encI .u8) r.1) | .error e => panE (.iface 43 (.int .i64 e))) (match r with | .ok r => (mkW 1 [] [(0, .cells [ls 1 false (encI .u8) r.2.1, .int .i64 r.2.2] 189 2)]) | .error _ => (mkW 1 [] [])) := by
 intro x r h
 unfold take at h
 intro W0
 refine FTo.of_body (fn := Tryz.f125) (code := cB Tryz.f125) Tryz.func125 rfl rfl ?_
 intro w0 S hS
 haveI := hS.noEx Tryz.prog
 refine H.sr' 1 ?_
 refine H.seq' ?_
 refine H.sg' ?_
 refine HO.go' 5 ?_
 refine HO.len (by kernel_rfl) (by kernel_rfl) (ls_size (encI .u8) x.2.1) ?_
 refine HO.fin' 1 ?_
 refine H.cS' (decide ((x.2.1.length : Int) < x.1)) (fun hb => ?_) (fun hb => ?_)
 ·rw [if_pos (of_decide_eq_true hb)] at h
  refine H.reg' ?_
  refine HO.go' 1 ?_
  refine HO.pan1 (.iface 43 (.int .i64 4)) (by kernel_rfl) ?_
  refine Kseq_pan ?_
  obtain rfl := Option.some.inj h
  exact KEnd.ofPan (by kernel_rfl) (FEnd.pan hS [0] [] [] (by kernel_rfl))
 rw [if_neg (of_decide_eq_false hb)] at h
 refine H.skp' ?_
 refine Kseq_norm ?_
 refine H.sg' ?_
 refine HO.go' 5 ?_
 obtain ⟨y1, hy, h⟩ := bindS h
 refine HO.valA (sl2_aop (enc := (encI .u8)) (k := 1) (j := .i64) hy (by kernel_rfl)) ?_
 refine HO.fin' 1 ?_
 refine H.sg' ?_
 refine HO.go' 6 ?_
 obtain ⟨y2, hy, h⟩ := bindS h
 refine HO.valA (sl1_aop (enc := (encI .u8)) (k := 1) (j := .i64) false hy (by kernel_rfl)) ?_
 refine HO.fin' 3 ?_
 refine H.sr' 2 ?_
 refine H.ret' ?_
 obtain rfl := Option.some.inj h
 exact KEnd.of (v := ls 1 false (encI .u8) y1) (by kernel_rfl) (by kernel_rfl) (FEnd.wk (v1 := ls 1 false (encI .u8) y1) (.list 1 false) (by kernel_rfl) (FEnd.ren hS [0] _ _ (by kernel_rfl)))
def next (x : (List Int) × Int) : Option (Except Int (Int × (List Int) × Int)) :=
 (take (1, x.1, x.2)) >>= fun y1 =>
 match y1 with
 | .error y1 =>
  some (.error y1)
 | .ok y1 =>
  (at' y1.1 0) >>= fun y2 =>
  some (.ok (y2, y1.2.1, y1.2.2))
theorem next_ok : ∀ (x : (List Int) × Int) (r : Except Int (Int × (List Int) × Int)), next x = some r → ∀ W0 : World, FTo Tryz.prog W0 121 #[.pointer (some ⟨0, 0, none⟩)] (mkW 1 [] [(0, .cells [ls 1 false (encI .u8) x.1, .int .i64 x.2] 189 2)]) (match r with | .ok r => .returned (.int .u8 r.1) | .error e => panE (.iface 43 (.int .i64 e))) (match r with | .ok r => (mkW 1 [] [(0, .cells [ls 1 false (encI .u8) r.2.1, .int .i64 r.2.2] 189 2)]) | .error _ => (mkW 1 [] [])) := by
 intro x r h
 unfold next at h
 intro W0
 refine FTo.of_body (fn := Tryz.f121) (code := cB Tryz.f121) Tryz.func121 rfl rfl ?_
 intro w0 S hS
 haveI := hS.noEx Tryz.prog
 refine H.sr' 1 ?_
 refine H.sg' ?_
 refine HO.go' 1 ?_
 obtain ⟨y1, hy, h⟩ := bindS h
 rcases y1 with y1 | y1
 ·dsimp only at h
  refine HO.panFW hS 1 [] [] [0] [.keep, .keep] (take_ok (1, x.1, x.2) (.error y1) hy W0) (by kernel_rfl) (by kernel_rfl) ?_
  refine Kseq_pan ?_
  obtain rfl := Option.some.inj h
  exact KEnd.ofPan (by kernel_rfl) (FEnd.pan hS [0] [] [] (by kernel_rfl))
 dsimp only at h
 refine HO.callFW hS (ls 1 false (encI .u8) y1.1) 1 [] [(0, .cells [ls 1 false (encI .u8) y1.2.1, .int .i64 y1.2.2] 189 2)] [0] [.keep, .keep] (take_ok (1, x.1, x.2) (.ok y1) hy W0) (by kernel_rfl) (by kernel_rfl) ?_
 obtain ⟨y2, hy, h⟩ := bindS h
 refine HO.idx (.int .u8 y2) hy rfl (by kernel_rfl) ?_
 refine HO.fin' 2 ?_
 refine H.ret' ?_
 obtain rfl := Option.some.inj h
 exact KEnd.of (v := .int .u8 y2) (by kernel_rfl) (by kernel_rfl) (FEnd.ren hS [0] _ _ (by kernel_rfl))
mutual
def numberT_L2 (x : Int × Int × (List Int) × Int) : Option (Except Int (Int × (List Int) × Int)) :=
 (must ((decide ((bOr .u32 (shlI .u32 x.1 7) (IntKind.u32.wrap (bAnd .u8 x.2.1 127))) ≤ 2097151)), 3)) >>= fun y4 =>
 match y4 with
 | .error y4 =>
  some (.error y4)
 | .ok y4 =>
  if x.2.1 < 128 then
   (must ((decide (31 ≤ (bOr .u32 (shlI .u32 x.1 7) (IntKind.u32.wrap (bAnd .u8 x.2.1 127))))), 4)) >>= fun y5 =>
   match y5 with
   | .error y5 =>
    some (.error y5)
   | .ok y5 =>
    some (.ok ((bOr .u32 (shlI .u32 x.1 7) (IntKind.u32.wrap (bAnd .u8 x.2.1 127))), x.2.2.1, x.2.2.2))
  else
   numberT_L1 ((bOr .u32 (shlI .u32 x.1 7) (IntKind.u32.wrap (bAnd .u8 x.2.1 127))), false, x.2.2.1, x.2.2.2)
partial_fixpoint
def numberT_L1 (x : Int × Bool × (List Int) × Int) : Option (Except Int (Int × (List Int) × Int)) :=
 (next (x.2.2.1, x.2.2.2)) >>= fun y1 =>
 match y1 with
 | .error y1 =>
  some (.error y1)
 | .ok y1 =>
  if (!x.2.1) = true then
   (must (true, 4)) >>= fun y2 =>
   match y2 with
   | .error y2 =>
    some (.error y2)
   | .ok y2 =>
    numberT_L2 (x.1, y1.1, y1.2.1, y1.2.2)
  else
   (must ((!decide (y1.1 = 128)), 4)) >>= fun y3 =>
   match y3 with
   | .error y3 =>
    some (.error y3)
   | .ok y3 =>
    numberT_L2 (x.1, y1.1, y1.2.1, y1.2.2)
partial_fixpoint
end
abbrev T_numberT_L2 (x : Int × Int × (List Int) × Int) (r : Except Int (Int × (List Int) × Int)) : Prop := ∀ (W0 w0 : World) (S : Own), Std W0 w0 S 1 → H Tryz.prog w0 S 32 (cR (cR (cL (cL (cL (cL (cR (cR (cR (cB Tryz.f122)))))))))) (mkS [(0, .pointer (some ⟨0, 0, none⟩)), (3, .int .u32 x.1), (5, .int .u8 x.2.1)] [(0, .cells [ls 1 false (encI .u8) x.2.2.1, .int .i64 x.2.2.2] 189 2)] 1 []) (Kblock 1 (Kseq Tryz.prog w0 S 32 (cR (cL (cL (cR (cR (cR (cB Tryz.f122))))))) (Kloop Tryz.prog w0 S 32 (cL (cL (cR (cR (cR (cB Tryz.f122)))))) (Kblock 0 (KEnd Tryz.prog Tryz.f122 (FEnd w0 S (match r with | .ok r => .returned (.int .u32 r.1) | .error e => panE (.iface 43 (.int .i64 e))) (match r with | .ok r => (mkW 1 [] [(0, .cells [ls 1 false (encI .u8) r.2.1, .int .i64 r.2.2] 189 2)]) | .error _ => (mkW 1 [] []))))))))
abbrev T_numberT_L1 (x : Int × Bool × (List Int) × Int) (r : Except Int (Int × (List Int) × Int)) : Prop := ∀ (W0 w0 : World) (S : Own), Std W0 w0 S 1 → HL Tryz.prog w0 S 32 (cL (cL (cR (cR (cR (cB Tryz.f122)))))) (mkS [(0, .pointer (some ⟨0, 0, none⟩)), (3, .int .u32 x.1), (4, .bool x.2.1)] [(0, .cells [ls 1 false (encI .u8) x.2.2.1, .int .i64 x.2.2.2] 189 2)] 1 []) (Kblock 0 (KEnd Tryz.prog Tryz.f122 (FEnd w0 S (match r with | .ok r => .returned (.int .u32 r.1) | .error e => panE (.iface 43 (.int .i64 e))) (match r with | .ok r => (mkW 1 [] [(0, .cells [ls 1 false (encI .u8) r.2.1, .int .i64 r.2.2] 189 2)]) | .error _ => (mkW 1 [] [])))))
theorem numberT_L2_grp : (∀ x r, numberT_L2 x = some r → T_numberT_L2 x r) ∧
 (∀ x r, numberT_L1 x = some r → T_numberT_L1 x r) := by
 refine numberT_L2.mutual_partial_correctness T_numberT_L2 T_numberT_L1 ?_ ?_
 ·intro g_numberT_L1 ih_numberT_L1 x r h
  intro W0 w0 S hS
  haveI := hS.noEx Tryz.prog
  refine H.sr' 7 ?_
  refine H.sg' ?_
  refine HO.go' 2 ?_
  obtain ⟨y4, hy, h⟩ := bindS h
  rcases y4 with y4 | y4
  ·dsimp only at h
   refine HO.panW hS [.keep, .keep] (must_ok ((decide ((bOr .u32 (shlI .u32 x.1 7) (IntKind.u32.wrap (bAnd .u8 x.2.1 127))) ≤ 2097151)), 3) (.error y4) hy W0) (by kernel_rfl) (by kernel_rfl) ?_
   refine Kseq_pan ?_
   refine Kblock_pan ?_
   refine Kseq_pan ?_
   refine Kloop_pan ?_
   refine Kblock_pan ?_
   obtain rfl := Option.some.inj h
   exact KEnd.ofPan (by kernel_rfl) (FEnd.pan hS [0] [] [] (by kernel_rfl))
  dsimp only at h
  refine HO.callW hS [.keep, .keep] (must_ok ((decide ((bOr .u32 (shlI .u32 x.1 7) (IntKind.u32.wrap (bAnd .u8 x.2.1 127))) ≤ 2097151)), 3) (.ok y4) hy W0) (by kernel_rfl) (by kernel_rfl) ?_
  refine HO.fin' 0 ?_
  refine H.sr' 2 ?_
  refine H.cS' (decide (x.2.1 < 128)) (fun hb => ?_) (fun hb => ?_)
  rotate_left
  ·rw [if_neg (of_decide_eq_false hb)] at h
   refine H.skp' ?_
   refine Kblock_norm ?_
   refine Kseq_norm ?_
   refine H.reg' ?_
   refine HO.go' 1 ?_
   refine HO.end' ?_
   refine Kloop_norm ?_
   exact HL.ren' hS [0] (ih_numberT_L1 ((bOr .u32 (shlI .u32 x.1 7) (IntKind.u32.wrap (bAnd .u8 x.2.1 127))), false, x.2.2.1, x.2.2.2) r h W0 w0 S hS)
  rw [if_pos (of_decide_eq_true hb)] at h
  refine H.sg' ?_
  refine HO.go' 2 ?_
  obtain ⟨y5, hy, h⟩ := bindS h
  rcases y5 with y5 | y5
  ·dsimp only at h
   refine HO.panW hS [.keep, .keep] (must_ok ((decide (31 ≤ (bOr .u32 (shlI .u32 x.1 7) (IntKind.u32.wrap (bAnd .u8 x.2.1 127))))), 4) (.error y5) hy W0) (by kernel_rfl) (by kernel_rfl) ?_
   refine Kseq_pan ?_
   refine Kblock_pan ?_
   refine Kseq_pan ?_
   refine Kloop_pan ?_
   refine Kblock_pan ?_
   obtain rfl := Option.some.inj h
   exact KEnd.ofPan (by kernel_rfl) (FEnd.pan hS [0] [] [] (by kernel_rfl))
  dsimp only at h
  refine HO.callW hS [.keep, .keep] (must_ok ((decide (31 ≤ (bOr .u32 (shlI .u32 x.1 7) (IntKind.u32.wrap (bAnd .u8 x.2.1 127))))), 4) (.ok y5) hy W0) (by kernel_rfl) (by kernel_rfl) ?_
  refine HO.fin' 0 ?_
  refine H.sr' 2 ?_
  refine H.ret' ?_
  refine Kblock_ret ?_
  refine Kseq_ret ?_
  refine Kloop_ret ?_
  refine Kblock_ret ?_
  obtain rfl := Option.some.inj h
  exact KEnd.of (v := .int .u32 (bOr .u32 (shlI .u32 x.1 7) (IntKind.u32.wrap (bAnd .u8 x.2.1 127)))) (by kernel_rfl) (by kernel_rfl) (FEnd.ren hS [0] _ _ (by kernel_rfl))
 ·intro g_numberT_L2 ih_numberT_L2 x r h
  intro W0 w0 S hS
  haveI := hS.noEx Tryz.prog
  refine HL.round ?_
  refine H.seq' ?_
  refine H.blk' 1 ?_
  refine H.sg' ?_
  refine HO.go' 3 ?_
  obtain ⟨y1, hy, h⟩ := bindS h
  rcases y1 with y1 | y1
  ·dsimp only at h
   refine HO.panFW hS 1 [] [] [0] [.keep] (next_ok (x.2.2.1, x.2.2.2) (.error y1) hy W0) (by kernel_rfl) (by kernel_rfl) ?_
   refine Kseq_pan ?_
   refine Kblock_pan ?_
   refine Kseq_pan ?_
   refine Kloop_pan ?_
   refine Kblock_pan ?_
   obtain rfl := Option.some.inj h
   exact KEnd.ofPan (by kernel_rfl) (FEnd.pan hS [0] [] [] (by kernel_rfl))
  dsimp only at h
  refine HO.callFW hS (.int .u8 y1.1) 1 [] [(0, .cells [ls 1 false (encI .u8) y1.2.1, .int .i64 y1.2.2] 189 2)] [0] [.keep] (next_ok (x.2.2.1, x.2.2.2) (.ok y1) hy W0) (by kernel_rfl) (by kernel_rfl) ?_
  refine HO.fin' 1 ?_
  refine H.sg' ?_
  refine HO.go' 2 ?_
  refine HO.bo' (!x.2.1) (fun hb => ?_) (fun hb => ?_)
  ·rw [if_pos hb] at h
   refine HO.go' 3 ?_
   obtain ⟨y2, hy, h⟩ := bindS h
   rcases y2 with y2 | y2
   rotate_left
   ·dsimp only at h
    refine HO.callW hS [.keep, .keep] (must_ok (true, 4) (.ok y2) hy W0) (by kernel_rfl) (by kernel_rfl) ?_
    refine HO.fin' 0 ?_
    exact H.ren' hS [0] (ih_numberT_L2 (x.1, y1.1, y1.2.1, y1.2.2) r h W0 w0 S hS)
   dsimp only at h
   refine HO.panW hS [.keep, .keep] (must_ok (true, 4) (.error y2) hy W0) (by kernel_rfl) (by kernel_rfl) ?_
   refine Kseq_pan ?_
   refine Kblock_pan ?_
   refine Kseq_pan ?_
   refine Kloop_pan ?_
   refine Kblock_pan ?_
   obtain rfl := Option.some.inj h
   exact KEnd.ofPan (by kernel_rfl) (FEnd.pan hS [0] [] [] (by kernel_rfl))
  rw [if_neg (ne_true hb)] at h
  refine HO.go' 3 ?_
  obtain ⟨y3, hy, h⟩ := bindS h
  rcases y3 with y3 | y3
  rotate_left
  ·dsimp only at h
   refine HO.callW hS [.keep, .keep] (must_ok ((!decide (y1.1 = 128)), 4) (.ok y3) hy W0) (by kernel_rfl) (by kernel_rfl) ?_
   refine HO.fin' 0 ?_
   exact H.ren' hS [0] (ih_numberT_L2 (x.1, y1.1, y1.2.1, y1.2.2) r h W0 w0 S hS)
  dsimp only at h
  refine HO.panW hS [.keep, .keep] (must_ok ((!decide (y1.1 = 128)), 4) (.error y3) hy W0) (by kernel_rfl) (by kernel_rfl) ?_
  refine Kseq_pan ?_
  refine Kblock_pan ?_
  refine Kseq_pan ?_
  refine Kloop_pan ?_
  refine Kblock_pan ?_
  obtain rfl := Option.some.inj h
  exact KEnd.ofPan (by kernel_rfl) (FEnd.pan hS [0] [] [] (by kernel_rfl))
theorem numberT_L2_ok : ∀ x r, numberT_L2 x = some r → T_numberT_L2 x r := numberT_L2_grp.1
theorem numberT_L1_ok : ∀ x r, numberT_L1 x = some r → T_numberT_L1 x r := numberT_L2_grp.2
def numberT (x : (List Int) × Int) : Option (Except Int (Int × (List Int) × Int)) :=
 numberT_L1 (0, true, x.1, x.2)
theorem numberT_ok : ∀ (x : (List Int) × Int) (r : Except Int (Int × (List Int) × Int)), numberT x = some r → ∀ W0 : World, FTo Tryz.prog W0 122 #[.pointer (some ⟨0, 0, none⟩)] (mkW 1 [] [(0, .cells [ls 1 false (encI .u8) x.1, .int .i64 x.2] 189 2)]) (match r with | .ok r => .returned (.int .u32 r.1) | .error e => panE (.iface 43 (.int .i64 e))) (match r with | .ok r => (mkW 1 [] [(0, .cells [ls 1 false (encI .u8) r.2.1, .int .i64 r.2.2] 189 2)]) | .error _ => (mkW 1 [] [])) := by
 intro x r h
 unfold numberT at h
 intro W0
 refine FTo.of_body (fn := Tryz.f122) (code := cB Tryz.f122) Tryz.func122 rfl rfl ?_
 intro w0 S hS
 haveI := hS.noEx Tryz.prog
 refine H.sr' 1 ?_
 refine H.sr' 1 ?_
 refine H.sr' 1 ?_
 refine H.blk' 0 ?_
 refine H.lop' ?_
 exact HL.ren' hS [0] (numberT_L1_ok (0, true, x.1, x.2) r h W0 w0 S hS)
def lengthT_L1 (x : Int × (List Int) × Int × Int × (List Int) × Int) : Option (Except Int (Int × Bool × (List Int) × Int)) :=
 if x.2.2.2.1 < x.2.2.1 then
  (at' x.2.1 x.2.2.2.1) >>= fun y5 =>
  lengthT_L1 ((minI (bOr .i64 (shlI .i64 x.1 8) (IntKind.i64.wrap y5)) 65537), x.2.1, x.2.2.1, (IntKind.i64.wrap (x.2.2.2.1 + 1)), x.2.2.2.2.1, x.2.2.2.2.2)
 else
  some (.ok (x.1, true, x.2.2.2.2.1, x.2.2.2.2.2))
partial_fixpoint
abbrev T_lengthT_L1 (x : Int × (List Int) × Int × Int × (List Int) × Int) (r : Except Int (Int × Bool × (List Int) × Int)) : Prop := ∀ (W0 w0 : World) (S : Own), Std W0 w0 S 1 → HL Tryz.prog w0 S 48 (cL (cL (cR (cL (cR (cR (cR (cR (cR (cB Tryz.f123)))))))))) (mkS [(7, .int .i64 x.1), (34, ls 1 false (encI .u8) x.2.1), (35, .int .i64 x.2.2.1), (36, .int .i64 x.2.2.2.1)] [(0, .cells [ls 1 false (encI .u8) x.2.2.2.2.1, .int .i64 x.2.2.2.2.2] 189 2)] 1 []) (Kblock 1 (Kseq Tryz.prog w0 S 48 (cR (cR (cR (cR (cR (cR (cB Tryz.f123))))))) (KEnd Tryz.prog Tryz.f123 (FEnd w0 S (match r with | .ok r => .returned (.tuple #[.int .i64 r.1, .bool r.2.1]) | .error e => panE (.iface 43 (.int .i64 e))) (match r with | .ok r => (mkW 1 [] [(0, .cells [ls 1 false (encI .u8) r.2.2.1, .int .i64 r.2.2.2] 189 2)]) | .error _ => (mkW 1 [] []))))))
theorem lengthT_L1_ok : ∀ x r, lengthT_L1 x = some r → T_lengthT_L1 x r := by
 refine lengthT_L1.partial_correctness T_lengthT_L1 ?_
 intro self ih_lengthT_L1 x r h
 intro W0 w0 S hS
 haveI := hS.noEx Tryz.prog
 refine HL.round ?_
 refine H.sr' 1 ?_
 refine H.seq' ?_
 refine H.cS' (decide (x.2.2.2.1 < x.2.2.1)) (fun hb => ?_) (fun hb => ?_)
 rotate_left
 ·rw [if_neg (of_decide_eq_false hb)] at h
  refine H.ext' 1 ?_
  refine Kseq_exit ?_
  refine Kloop_exit ?_
  refine Kblock_hit ?_
  refine Kseq_norm ?_
  refine H.sr' 3 ?_
  refine H.ret' ?_
  obtain rfl := Option.some.inj h
  exact KEnd.of (v := .tuple #[.int .i64 x.1, .bool true]) (by kernel_rfl) (by kernel_rfl) (FEnd.ren hS [0] _ _ (by kernel_rfl))
 rw [if_pos (of_decide_eq_true hb)] at h
 refine H.skp' ?_
 refine Kseq_norm ?_
 refine H.seq' ?_
 refine H.blk' 2 ?_
 refine H.sg' ?_
 obtain ⟨y5, hy, h⟩ := bindS h
 refine HO.idx (.int .u8 y5) hy rfl (by kernel_rfl) ?_
 refine HO.fin' 2 ?_
 refine H.reg' ?_
 refine HO.go' 7 ?_
 refine HO.end' ?_
 refine Kblock_norm ?_
 refine Kseq_norm ?_
 refine H.reg' ?_
 refine HO.go' 2 ?_
 refine HO.end' ?_
 refine Kloop_norm ?_
 exact HL.ren' hS [0] (ih_lengthT_L1 ((minI (bOr .i64 (shlI .i64 x.1 8) (IntKind.i64.wrap y5)) 65537), x.2.1, x.2.2.1, (IntKind.i64.wrap (x.2.2.2.1 + 1)), x.2.2.2.2.1, x.2.2.2.2.2) r h W0 w0 S hS)
def lengthT (x : Int × Int × Bool × (List Int) × (List S41) × (List Int) × Int) : Option (Except Int (Int × Bool × (List Int) × Int)) :=
 (next (x.2.2.2.2.2.1, x.2.2.2.2.2.2)) >>= fun y1 =>
 match y1 with
 | .error y1 =>
  some (.error y1)
 | .ok y1 =>
  if y1.1 < 128 then
   some (.ok ((IntKind.i64.wrap y1.1), true, y1.2.1, y1.2.2))
  else
   if y1.1 = 128 then
    (must (x.2.2.1, 4)) >>= fun y2 =>
    match y2 with
    | .error y2 =>
     some (.error y2)
    | .ok y2 =>
     some (.ok (0, false, y1.2.1, y1.2.2))
   else
    (must ((!decide (y1.1 = 255)), 4)) >>= fun y3 =>
    match y3 with
    | .error y3 =>
     some (.error y3)
    | .ok y3 =>
     (take ((IntKind.i64.wrap (IntKind.u8.wrap (y1.1 - 128))), y1.2.1, y1.2.2)) >>= fun y4 =>
     match y4 with
     | .error y4 =>
      some (.error y4)
     | .ok y4 =>
      lengthT_L1 (0, y4.1, (y4.1.length : Int), 0, y4.2.1, y4.2.2)
theorem lengthT_ok : ∀ (x : Int × Int × Bool × (List Int) × (List S41) × (List Int) × Int) (r : Except Int (Int × Bool × (List Int) × Int)), lengthT x = some r → ∀ W0 : World, FTo Tryz.prog W0 123 #[.pointer (some ⟨0, 0, none⟩), .agg #[.int .u8 x.1, .int .u32 x.2.1, .bool x.2.2.1, ls 1 false (encI .u8) x.2.2.2.1, ls 5 false enc41 x.2.2.2.2.1]] (mkW 1 [] [(0, .cells [ls 1 false (encI .u8) x.2.2.2.2.2.1, .int .i64 x.2.2.2.2.2.2] 189 2)]) (match r with | .ok r => .returned (.tuple #[.int .i64 r.1, .bool r.2.1]) | .error e => panE (.iface 43 (.int .i64 e))) (match r with | .ok r => (mkW 1 [] [(0, .cells [ls 1 false (encI .u8) r.2.2.1, .int .i64 r.2.2.2] 189 2)]) | .error _ => (mkW 1 [] [])) := by
 intro x r h
 unfold lengthT at h
 intro W0
 refine FTo.of_body (fn := Tryz.f123) (code := cB Tryz.f123) Tryz.func123 rfl rfl ?_
 intro w0 S hS
 haveI := hS.noEx Tryz.prog
 refine H.sr' 3 ?_
 refine H.sg' ?_
 refine HO.go' 3 ?_
 obtain ⟨y1, hy, h⟩ := bindS h
 rcases y1 with y1 | y1
 ·dsimp only at h
  refine HO.panFW hS 2 [] [(1, .cells [.int .u8 x.1, .int .u32 x.2.1, .bool x.2.2.1, ls 1 false (encI .u8) x.2.2.2.1, ls 5 false enc41 x.2.2.2.2.1] 41 5)] [0] [.keep] (next_ok (x.2.2.2.2.2.1, x.2.2.2.2.2.2) (.error y1) hy W0) (by kernel_rfl) (by kernel_rfl) ?_
  refine Kseq_pan ?_
  obtain rfl := Option.some.inj h
  exact KEnd.ofPan (by kernel_rfl) (FEnd.pan hS [0] [] [] (by kernel_rfl))
 dsimp only at h
 refine HO.callFW hS (.int .u8 y1.1) 2 [] [(0, .cells [ls 1 false (encI .u8) y1.2.1, .int .i64 y1.2.2] 189 2), (1, .cells [.int .u8 x.1, .int .u32 x.2.1, .bool x.2.2.1, ls 1 false (encI .u8) x.2.2.2.1, ls 5 false enc41 x.2.2.2.2.1] 41 5)] [0] [.keep] (next_ok (x.2.2.2.2.2.1, x.2.2.2.2.2.2) (.ok y1) hy W0) (by kernel_rfl) (by kernel_rfl) ?_
 refine HO.fin' 1 ?_
 refine H.seq' ?_
 refine H.blk' 0 ?_
 refine H.sr' 3 ?_
 refine H.cS' (decide (y1.1 < 128)) (fun hb => ?_) (fun hb => ?_)
 ·rw [if_pos (of_decide_eq_true hb)] at h
  refine H.sr' 4 ?_
  refine H.ret' ?_
  refine Kblock_ret ?_
  refine Kseq_ret ?_
  obtain rfl := Option.some.inj h
  exact KEnd.of (v := .tuple #[.int .i64 (IntKind.i64.wrap y1.1), .bool true]) (by kernel_rfl) (by kernel_rfl) (FEnd.ren hS [0] _ _ (by kernel_rfl))
 rw [if_neg (of_decide_eq_false hb)] at h
 refine H.sr' 3 ?_
 refine H.cS' (decide (y1.1 = 128)) (fun hb => ?_) (fun hb => ?_)
 ·rw [if_pos (of_decide_eq_true hb)] at h
  refine H.sg' ?_
  refine HO.go' 2 ?_
  obtain ⟨y2, hy, h⟩ := bindS h
  rcases y2 with y2 | y2
  ·dsimp only at h
   refine HO.panW hS [.keep, .keep] (must_ok (x.2.2.1, 4) (.error y2) hy W0) (by kernel_rfl) (by kernel_rfl) ?_
   refine Kseq_pan ?_
   refine Kblock_pan ?_
   refine Kseq_pan ?_
   obtain rfl := Option.some.inj h
   exact KEnd.ofPan (by kernel_rfl) (FEnd.pan hS [0] [] [] (by kernel_rfl))
  dsimp only at h
  refine HO.callW hS [.keep, .keep] (must_ok (x.2.2.1, 4) (.ok y2) hy W0) (by kernel_rfl) (by kernel_rfl) ?_
  refine HO.fin' 0 ?_
  refine H.sr' 2 ?_
  refine H.ret' ?_
  refine Kblock_ret ?_
  refine Kseq_ret ?_
  obtain rfl := Option.some.inj h
  exact KEnd.of (v := .tuple #[.int .i64 0, .bool false]) (by kernel_rfl) (by kernel_rfl) (FEnd.ren hS [0] _ _ (by kernel_rfl))
 rw [if_neg (of_decide_eq_false hb)] at h
 refine H.skp' ?_
 refine Kblock_norm ?_
 refine Kseq_norm ?_
 refine H.sg' ?_
 refine HO.go' 2 ?_
 obtain ⟨y3, hy, h⟩ := bindS h
 rcases y3 with y3 | y3
 ·dsimp only at h
  refine HO.panW hS [.keep, .keep] (must_ok ((!decide (y1.1 = 255)), 4) (.error y3) hy W0) (by kernel_rfl) (by kernel_rfl) ?_
  refine Kseq_pan ?_
  obtain rfl := Option.some.inj h
  exact KEnd.ofPan (by kernel_rfl) (FEnd.pan hS [0] [] [] (by kernel_rfl))
 dsimp only at h
 refine HO.callW hS [.keep, .keep] (must_ok ((!decide (y1.1 = 255)), 4) (.ok y3) hy W0) (by kernel_rfl) (by kernel_rfl) ?_
 refine HO.fin' 0 ?_
 refine H.sr' 1 ?_
 refine H.seq' ?_
 refine H.sg' ?_
 refine HO.go' 6 ?_
 obtain ⟨y4, hy, h⟩ := bindS h
 rcases y4 with y4 | y4
 ·dsimp only at h
  refine HO.panFW hS 2 [] [(1, .cells [.int .u8 x.1, .int .u32 x.2.1, .bool x.2.2.1, ls 1 false (encI .u8) x.2.2.2.1, ls 5 false enc41 x.2.2.2.2.1] 41 5)] [0] [.keep, .keep] (take_ok ((IntKind.i64.wrap (IntKind.u8.wrap (y1.1 - 128))), y1.2.1, y1.2.2) (.error y4) hy W0) (by kernel_rfl) (by kernel_rfl) ?_
  refine Kseq_pan ?_
  refine Kseq_pan ?_
  obtain rfl := Option.some.inj h
  exact KEnd.ofPan (by kernel_rfl) (FEnd.pan hS [0] [] [] (by kernel_rfl))
 dsimp only at h
 refine HO.callFW hS (ls 1 false (encI .u8) y4.1) 2 [] [(0, .cells [ls 1 false (encI .u8) y4.2.1, .int .i64 y4.2.2] 189 2), (1, .cells [.int .u8 x.1, .int .u32 x.2.1, .bool x.2.2.1, ls 1 false (encI .u8) x.2.2.2.1, ls 5 false enc41 x.2.2.2.2.1] 41 5)] [0] [.keep, .keep] (take_ok ((IntKind.i64.wrap (IntKind.u8.wrap (y1.1 - 128))), y1.2.1, y1.2.2) (.ok y4) hy W0) (by kernel_rfl) (by kernel_rfl) ?_
 refine HO.len (by kernel_rfl) (by kernel_rfl) (ls_size (encI .u8) y4.1) ?_
 refine HO.fin' 1 ?_
 refine H.blk' 1 ?_
 refine H.lop' ?_
 exact HL.ren' hS [0] (lengthT_L1_ok (0, y4.1, (y4.1.length : Int), 0, y4.2.1, y4.2.2) r h W0 w0 S hS)
def ahead (x : (List Int) × Int) : Option (Except Int (Bool × (List Int) × Int)) :=
 (must ((decide (0 < (x.1.length : Int))), 4)) >>= fun y1 =>
 match y1 with
 | .error y1 =>
  some (.error y1)
 | .ok y1 =>
  (at' x.1 0) >>= fun y2 =>
  if (!decide (y2 = 0)) = true then
   some (.ok (true, x.1, x.2))
  else
   (take (2, x.1, x.2)) >>= fun y3 =>
   match y3 with
   | .error y3 =>
    some (.error y3)
   | .ok y3 =>
    (at' y3.1 1) >>= fun y4 =>
    (must ((decide (y4 = 0)), 4)) >>= fun y5 =>
    match y5 with
    | .error y5 =>
     some (.error y5)
    | .ok y5 =>
     some (.ok (false, y3.2.1, y3.2.2))
theorem ahead_ok : ∀ (x : (List Int) × Int) (r : Except Int (Bool × (List Int) × Int)), ahead x = some r → ∀ W0 : World, FTo Tryz.prog W0 124 #[.pointer (some ⟨0, 0, none⟩)] (mkW 1 [] [(0, .cells [ls 1 false (encI .u8) x.1, .int .i64 x.2] 189 2)]) (match r with | .ok r => .returned (.bool r.1) | .error e => panE (.iface 43 (.int .i64 e))) (match r with | .ok r => (mkW 1 [] [(0, .cells [ls 1 false (encI .u8) r.2.1, .int .i64 r.2.2] 189 2)]) | .error _ => (mkW 1 [] [])) := by
 intro x r h
 unfold ahead at h
 intro W0
 refine FTo.of_body (fn := Tryz.f124) (code := cB Tryz.f124) Tryz.func124 rfl rfl ?_
 intro w0 S hS
 haveI := hS.noEx Tryz.prog
 refine H.sr' 1 ?_
 refine H.sg' ?_
 refine HO.go' 5 ?_
 refine HO.len (by kernel_rfl) (by kernel_rfl) (ls_size (encI .u8) x.1) ?_
 refine HO.go' 1 ?_
 obtain ⟨y1, hy, h⟩ := bindS h
 rcases y1 with y1 | y1
 ·dsimp only at h
  refine HO.panW hS [.keep, .keep] (must_ok ((decide (0 < (x.1.length : Int))), 4) (.error y1) hy W0) (by kernel_rfl) (by kernel_rfl) ?_
  refine Kseq_pan ?_
  obtain rfl := Option.some.inj h
  exact KEnd.ofPan (by kernel_rfl) (FEnd.pan hS [0] [] [] (by kernel_rfl))
 dsimp only at h
 refine HO.callW hS [.keep, .keep] (must_ok ((decide (0 < (x.1.length : Int))), 4) (.ok y1) hy W0) (by kernel_rfl) (by kernel_rfl) ?_
 refine HO.fin' 0 ?_
 refine H.seq' ?_
 refine H.sg' ?_
 refine HO.go' 5 ?_
 obtain ⟨y2, hy, h⟩ := bindS h
 refine HO.idx (.int .u8 y2) hy rfl (by kernel_rfl) ?_
 refine HO.fin' 2 ?_
 refine H.cS' (!decide (y2 = 0)) (fun hb => ?_) (fun hb => ?_)
 ·rw [if_pos hb] at h
  refine H.sr' 1 ?_
  refine H.ret' ?_
  refine Kseq_ret ?_
  obtain rfl := Option.some.inj h
  exact KEnd.of (v := .bool true) (by kernel_rfl) (by kernel_rfl) (FEnd.ren hS [0] _ _ (by kernel_rfl))
 rw [if_neg (ne_true hb)] at h
 refine H.skp' ?_
 refine Kseq_norm ?_
 refine H.sg' ?_
 refine HO.go' 3 ?_
 obtain ⟨y3, hy, h⟩ := bindS h
 rcases y3 with y3 | y3
 ·dsimp only at h
  refine HO.panFW hS 1 [] [] [0] [.keep, .keep] (take_ok (2, x.1, x.2) (.error y3) hy W0) (by kernel_rfl) (by kernel_rfl) ?_
  refine Kseq_pan ?_
  obtain rfl := Option.some.inj h
  exact KEnd.ofPan (by kernel_rfl) (FEnd.pan hS [0] [] [] (by kernel_rfl))
 dsimp only at h
 refine HO.callFW hS (ls 1 false (encI .u8) y3.1) 1 [] [(0, .cells [ls 1 false (encI .u8) y3.2.1, .int .i64 y3.2.2] 189 2)] [0] [.keep, .keep] (take_ok (2, x.1, x.2) (.ok y3) hy W0) (by kernel_rfl) (by kernel_rfl) ?_
 obtain ⟨y4, hy, h⟩ := bindS h
 refine HO.idx (.int .u8 y4) hy rfl (by kernel_rfl) ?_
 refine HO.go' 2 ?_
 obtain ⟨y5, hy, h⟩ := bindS h
 rcases y5 with y5 | y5
 ·dsimp only at h
  refine HO.panW hS [.keep, .keep] (must_ok ((decide (y4 = 0)), 4) (.error y5) hy W0) (by kernel_rfl) (by kernel_rfl) ?_
  refine Kseq_pan ?_
  obtain rfl := Option.some.inj h
  exact KEnd.ofPan (by kernel_rfl) (FEnd.pan hS [0] [] [] (by kernel_rfl))
 dsimp only at h
 refine HO.callW hS [.keep, .keep] (must_ok ((decide (y4 = 0)), 4) (.ok y5) hy W0) (by kernel_rfl) (by kernel_rfl) ?_
 refine HO.fin' 0 ?_
 refine H.sr' 1 ?_
 refine H.ret' ?_
 obtain rfl := Option.some.inj h
 exact KEnd.of (v := .bool false) (by kernel_rfl) (by kernel_rfl) (FEnd.ren hS [0] _ _ (by kernel_rfl))
def element_L6 (x : (List Int) × Int × Int × Int × Bool × (List Int) × (List S41)) : Option (Except Int (Int × Int × Bool × (List Int) × (List S41) × (List Int) × Int)) :=
 (clipT x.2.2.2.2.2.2) >>= fun y17 =>
 some (.ok (x.2.2.1, x.2.2.2.1, x.2.2.2.2.1, x.2.2.2.2.2.1, y17, x.1, x.2.1))
theorem element_L6_ok : ∀ (x : (List Int) × Int × Int × Int × Bool × (List Int) × (List S41)) (r : Except Int (Int × Int × Bool × (List Int) × (List S41) × (List Int) × Int)), element_L6 x = some r → ∀ (W0 w0 : World) (S : Own), Std W0 w0 S 1 → H Tryz.prog w0 S 128 (cR (cR (cR (cR (cR (cR (cR (cR (cR (cB Tryz.f103)))))))))) (mkS [(4, .pointer (some ⟨1, 0, none⟩)), (6, .pointer (some ⟨2, 0, none⟩))] [(0, .cells [ls 1 false (encI .u8) x.1, .int .i64 x.2.1] 189 2), (1, .cells [.int .u8 0, .int .u32 0, .bool false, .slice none 0 0, tl 5 3 enc41 []] 41 5), (2, .cells [.int .u8 x.2.2.1, .int .u32 x.2.2.2.1, .bool x.2.2.2.2.1, ls 1 true (encI .u8) x.2.2.2.2.2.1, tl 5 4 enc41 x.2.2.2.2.2.2] 41 5)] 5 [4, 3]) (KEnd Tryz.prog Tryz.f103 (FEnd w0 S (match r with | .ok r => .returned (.agg #[.int .u8 r.1, .int .u32 r.2.1, .bool r.2.2.1, ls 1 false (encI .u8) r.2.2.2.1, ls 5 false enc41 r.2.2.2.2.1]) | .error e => panE (.iface 43 (.int .i64 e))) (match r with | .ok r => (mkW 1 [] [(0, .cells [ls 1 false (encI .u8) r.2.2.2.2.2.1, .int .i64 r.2.2.2.2.2.2] 189 2)]) | .error _ => (mkW 1 [] [])))) := by
 intro x r h
 unfold element_L6 at h
 intro W0 w0 S hS
 haveI := hS.noEx Tryz.prog
 refine H.sg' ?_
 refine HO.go' 2 ?_
 obtain ⟨y17, hy, h⟩ := bindS h
 refine HO.callW hS [.list 5 false] (clipT_ok x.2.2.2.2.2.2 y17 hy W0) (by kernel_rfl) (by kernel_rfl) ?_
 refine HO.fin' 2 ?_
 refine H.sr' 2 ?_
 refine H.ret' ?_
 obtain rfl := Option.some.inj h
 exact KEnd.of (v := .agg #[.int .u8 x.2.2.1, .int .u32 x.2.2.2.1, .bool x.2.2.2.2.1, ls 1 true (encI .u8) x.2.2.2.2.2.1, ls 5 true enc41 y17]) (by kernel_rfl) (by kernel_rfl) (FEnd.wk (v1 := .agg #[.int .u8 x.2.2.1, .int .u32 x.2.2.2.1, .bool x.2.2.2.2.1, ls 1 false (encI .u8) x.2.2.2.2.2.1, ls 5 false enc41 y17]) (.agg [.keep, .keep, .keep, .list 1 false, .list 5 false]) (by kernel_rfl) (FEnd.ren hS [0] _ _ (by kernel_rfl)))
mutual
def element_L5 (x : Int × (List Int) × (List Int) × Int × Int × Int × Bool × (List S41)) : Option (Except Int (Int × Int × Bool × (List Int) × (List S41) × (List Int) × Int)) :=
 if 0 < (x.2.2.1.length : Int) then
  (element ((IntKind.i64.wrap (x.1 + 1)), x.2.2.1, x.2.2.2.1)) >>= fun y15 =>
  match y15 with
  | .error y15 =>
   some (.error y15)
  | .ok y15 =>
   (app' 64 x.2.2.2.2.2.2.2 [(S41.mk y15.1 y15.2.1 y15.2.2.1 y15.2.2.2.1 y15.2.2.2.2.1)]) >>= fun y16 =>
   element_L5 (x.1, x.2.1, y15.2.2.2.2.2.1, y15.2.2.2.2.2.2, x.2.2.2.2.1, x.2.2.2.2.2.1, x.2.2.2.2.2.2.1, y16)
 else
  element_L6 (x.2.1, x.2.2.2.1, x.2.2.2.2.1, x.2.2.2.2.2.1, x.2.2.2.2.2.2.1, [], x.2.2.2.2.2.2.2)
partial_fixpoint
def element (x : Int × (List Int) × Int) : Option (Except Int (Int × Int × Bool × (List Int) × (List S41) × (List Int) × Int)) :=
 if x.1 ≤ 16 then
  (must ((decide (x.2.2 < 1024)), 3)) >>= fun y1 =>
  match y1 with
  | .error y1 =>
   some (.error y1)
  | .ok y1 =>
   element_L1 (x.1, x.2.1, x.2.2)
 else
  (must (false, 3)) >>= fun y2 =>
  match y2 with
  | .error y2 =>
   some (.error y2)
  | .ok y2 =>
   element_L1 (x.1, x.2.1, x.2.2)
partial_fixpoint
def element_L1 (x : Int × (List Int) × Int) : Option (Except Int (Int × Int × Bool × (List Int) × (List S41) × (List Int) × Int)) :=
 (next (x.2.1, (IntKind.i64.wrap (x.2.2 + 1)))) >>= fun y3 =>
 match y3 with
 | .error y3 =>
  some (.error y3)
 | .ok y3 =>
  if (IntKind.u32.wrap (bAnd .u8 y3.1 31)) = 31 then
   (numberT (y3.2.1, y3.2.2)) >>= fun y4 =>
   match y4 with
   | .error y4 =>
    some (.error y4)
   | .ok y4 =>
    element_L2 (x.1, y4.2.1, y4.2.2, (shrI .u8 y3.1 6), y4.1, (decide (0 < (bAnd .u8 y3.1 32))))
  else
   element_L2 (x.1, y3.2.1, y3.2.2, (shrI .u8 y3.1 6), (IntKind.u32.wrap (bAnd .u8 y3.1 31)), (decide (0 < (bAnd .u8 y3.1 32))))
partial_fixpoint
def element_L2 (x : Int × (List Int) × Int × Int × Int × Bool) : Option (Except Int (Int × Int × Bool × (List Int) × (List S41) × (List Int) × Int)) :=
 if 0 < x.2.2.2.1 then
  (must (true, 4)) >>= fun y5 =>
  match y5 with
  | .error y5 =>
   some (.error y5)
  | .ok y5 =>
   element_L3 (x.1, x.2.1, x.2.2.1, x.2.2.2.1, x.2.2.2.2.1, x.2.2.2.2.2)
 else
  (must ((decide (0 < x.2.2.2.2.1)), 4)) >>= fun y6 =>
  match y6 with
  | .error y6 =>
   some (.error y6)
  | .ok y6 =>
   element_L3 (x.1, x.2.1, x.2.2.1, x.2.2.2.1, x.2.2.2.2.1, x.2.2.2.2.2)
partial_fixpoint
def element_L3 (x : Int × (List Int) × Int × Int × Int × Bool) : Option (Except Int (Int × Int × Bool × (List Int) × (List S41) × (List Int) × Int)) :=
 (lengthT (x.2.2.2.1, x.2.2.2.2.1, x.2.2.2.2.2, [], [], x.2.1, x.2.2.1)) >>= fun y7 =>
 match y7 with
 | .error y7 =>
  some (.error y7)
 | .ok y7 =>
  if (!y7.2.1) = true then
   element_L4 (x.1, y7.2.2.1, y7.2.2.2, x.2.2.2.1, x.2.2.2.2.1, x.2.2.2.2.2, [])
  else
   if x.2.2.2.2.2 = true then
    (take (y7.1, y7.2.2.1, y7.2.2.2)) >>= fun y11 =>
    match y11 with
    | .error y11 =>
     some (.error y11)
    | .ok y11 =>
     element_L5 (x.1, y11.2.1, y11.1, y11.2.2, x.2.2.2.1, x.2.2.2.2.1, x.2.2.2.2.2, [])
   else
    (take (y7.1, y7.2.2.1, y7.2.2.2)) >>= fun y12 =>
    match y12 with
    | .error y12 =>
     some (.error y12)
    | .ok y12 =>
     (cloneB y12.1) >>= fun y13 =>
     (clip y13) >>= fun y14 =>
     element_L6 (y12.2.1, y12.2.2, x.2.2.2.1, x.2.2.2.2.1, x.2.2.2.2.2, y14, [])
partial_fixpoint
def element_L4 (x : Int × (List Int) × Int × Int × Int × Bool × (List S41)) : Option (Except Int (Int × Int × Bool × (List Int) × (List S41) × (List Int) × Int)) :=
 (ahead (x.2.1, x.2.2.1)) >>= fun y8 =>
 match y8 with
 | .error y8 =>
  some (.error y8)
 | .ok y8 =>
  if y8.1 = true then
   (element ((IntKind.i64.wrap (x.1 + 1)), y8.2.1, y8.2.2)) >>= fun y9 =>
   match y9 with
   | .error y9 =>
    some (.error y9)
   | .ok y9 =>
    (app' 64 x.2.2.2.2.2.2 [(S41.mk y9.1 y9.2.1 y9.2.2.1 y9.2.2.2.1 y9.2.2.2.2.1)]) >>= fun y10 =>
    element_L4 (x.1, y9.2.2.2.2.2.1, y9.2.2.2.2.2.2, x.2.2.2.1, x.2.2.2.2.1, x.2.2.2.2.2.1, y10)
  else
   element_L6 (y8.2.1, y8.2.2, x.2.2.2.1, x.2.2.2.2.1, x.2.2.2.2.2.1, [], x.2.2.2.2.2.2)
partial_fixpoint
end
abbrev T_element_L5 (x : Int × (List Int) × (List Int) × Int × Int × Int × Bool × (List S41)) (r : Except Int (Int × Int × Bool × (List Int) × (List S41) × (List Int) × Int)) : Prop := ∀ (W0 w0 : World) (S : Own), Std W0 w0 S 1 → HL Tryz.prog w0 S 128 (cL (cL (cR (cL (cR (cR (cL (cR (cR (cR (cL (cL (cR (cR (cR (cR (cR (cR (cR (cR (cB Tryz.f103))))))))))))))))))))) (mkS [(0, .pointer (some ⟨0, 0, none⟩)), (1, .int .i64 x.1), (4, .pointer (some ⟨1, 0, none⟩)), (6, .pointer (some ⟨2, 0, none⟩)), (10, ls 1 false (encI .u8) x.2.1)] [(0, .cells [ls 1 false (encI .u8) x.2.2.1, .int .i64 x.2.2.2.1] 189 2), (1, .cells [.int .u8 0, .int .u32 0, .bool false, .slice none 0 0, tl 5 3 enc41 []] 41 5), (2, .cells [.int .u8 x.2.2.2.2.1, .int .u32 x.2.2.2.2.2.1, .bool x.2.2.2.2.2.2.1, .slice none 0 0, tl 5 4 enc41 x.2.2.2.2.2.2.2] 41 5)] 5 [4, 3]) (Kblock 3 (Kseq Tryz.prog w0 S 128 (cR (cR (cR (cL (cR (cR (cR (cL (cL (cR (cR (cR (cR (cR (cR (cR (cR (cB Tryz.f103)))))))))))))))))) (Kblock 0 (Kseq Tryz.prog w0 S 128 (cR (cR (cR (cR (cR (cR (cR (cR (cR (cB Tryz.f103)))))))))) (KEnd Tryz.prog Tryz.f103 (FEnd w0 S (match r with | .ok r => .returned (.agg #[.int .u8 r.1, .int .u32 r.2.1, .bool r.2.2.1, ls 1 false (encI .u8) r.2.2.2.1, ls 5 false enc41 r.2.2.2.2.1]) | .error e => panE (.iface 43 (.int .i64 e))) (match r with | .ok r => (mkW 1 [] [(0, .cells [ls 1 false (encI .u8) r.2.2.2.2.2.1, .int .i64 r.2.2.2.2.2.2] 189 2)]) | .error _ => (mkW 1 [] []))))))))
abbrev T_element (x : Int × (List Int) × Int) (r : Except Int (Int × Int × Bool × (List Int) × (List S41) × (List Int) × Int)) : Prop := ∀ W0 : World, FTo Tryz.prog W0 103 #[.pointer (some ⟨0, 0, none⟩), .int .i64 x.1] (mkW 1 [] [(0, .cells [ls 1 false (encI .u8) x.2.1, .int .i64 x.2.2] 189 2)]) (match r with | .ok r => .returned (.agg #[.int .u8 r.1, .int .u32 r.2.1, .bool r.2.2.1, ls 1 false (encI .u8) r.2.2.2.1, ls 5 false enc41 r.2.2.2.2.1]) | .error e => panE (.iface 43 (.int .i64 e))) (match r with | .ok r => (mkW 1 [] [(0, .cells [ls 1 false (encI .u8) r.2.2.2.2.2.1, .int .i64 r.2.2.2.2.2.2] 189 2)]) | .error _ => (mkW 1 [] []))
abbrev T_element_L1 (x : Int × (List Int) × Int) (r : Except Int (Int × Int × Bool × (List Int) × (List S41) × (List Int) × Int)) : Prop := ∀ (W0 w0 : World) (S : Own), Std W0 w0 S 1 → H Tryz.prog w0 S 128 (cR (cR (cB Tryz.f103))) (mkS [(0, .pointer (some ⟨0, 0, none⟩)), (1, .int .i64 x.1), (4, .pointer (some ⟨1, 0, none⟩))] [(0, .cells [ls 1 false (encI .u8) x.2.1, .int .i64 x.2.2] 189 2), (1, .cells [.int .u8 0, .int .u32 0, .bool false, .slice none 0 0, .slice none 0 0] 41 5)] 2 []) (KEnd Tryz.prog Tryz.f103 (FEnd w0 S (match r with | .ok r => .returned (.agg #[.int .u8 r.1, .int .u32 r.2.1, .bool r.2.2.1, ls 1 false (encI .u8) r.2.2.2.1, ls 5 false enc41 r.2.2.2.2.1]) | .error e => panE (.iface 43 (.int .i64 e))) (match r with | .ok r => (mkW 1 [] [(0, .cells [ls 1 false (encI .u8) r.2.2.2.2.2.1, .int .i64 r.2.2.2.2.2.2] 189 2)]) | .error _ => (mkW 1 [] []))))
abbrev T_element_L2 (x : Int × (List Int) × Int × Int × Int × Bool) (r : Except Int (Int × Int × Bool × (List Int) × (List S41) × (List Int) × Int)) : Prop := ∀ (W0 w0 : World) (S : Own), Std W0 w0 S 1 → H Tryz.prog w0 S 128 (cR (cR (cR (cR (cR (cR (cB Tryz.f103))))))) (mkS [(0, .pointer (some ⟨0, 0, none⟩)), (1, .int .i64 x.1), (4, .pointer (some ⟨1, 0, none⟩)), (6, .pointer (some ⟨2, 0, none⟩))] [(0, .cells [ls 1 false (encI .u8) x.2.1, .int .i64 x.2.2.1] 189 2), (1, .cells [.int .u8 0, .int .u32 0, .bool false, .slice none 0 0, .slice none 0 0] 41 5), (2, .cells [.int .u8 x.2.2.2.1, .int .u32 x.2.2.2.2.1, .bool x.2.2.2.2.2, .slice none 0 0, .slice none 0 0] 41 5)] 3 []) (KEnd Tryz.prog Tryz.f103 (FEnd w0 S (match r with | .ok r => .returned (.agg #[.int .u8 r.1, .int .u32 r.2.1, .bool r.2.2.1, ls 1 false (encI .u8) r.2.2.2.1, ls 5 false enc41 r.2.2.2.2.1]) | .error e => panE (.iface 43 (.int .i64 e))) (match r with | .ok r => (mkW 1 [] [(0, .cells [ls 1 false (encI .u8) r.2.2.2.2.2.1, .int .i64 r.2.2.2.2.2.2] 189 2)]) | .error _ => (mkW 1 [] []))))
abbrev T_element_L3 (x : Int × (List Int) × Int × Int × Int × Bool) (r : Except Int (Int × Int × Bool × (List Int) × (List S41) × (List Int) × Int)) : Prop := ∀ (W0 w0 : World) (S : Own), Std W0 w0 S 1 → H Tryz.prog w0 S 128 (cR (cR (cR (cR (cR (cR (cR (cB Tryz.f103)))))))) (mkS [(0, .pointer (some ⟨0, 0, none⟩)), (1, .int .i64 x.1), (4, .pointer (some ⟨1, 0, none⟩)), (6, .pointer (some ⟨2, 0, none⟩))] [(0, .cells [ls 1 false (encI .u8) x.2.1, .int .i64 x.2.2.1] 189 2), (1, .cells [.int .u8 0, .int .u32 0, .bool false, .slice none 0 0, .slice none 0 0] 41 5), (2, .cells [.int .u8 x.2.2.2.1, .int .u32 x.2.2.2.2.1, .bool x.2.2.2.2.2, .slice none 0 0, .slice none 0 0] 41 5)] 3 []) (KEnd Tryz.prog Tryz.f103 (FEnd w0 S (match r with | .ok r => .returned (.agg #[.int .u8 r.1, .int .u32 r.2.1, .bool r.2.2.1, ls 1 false (encI .u8) r.2.2.2.1, ls 5 false enc41 r.2.2.2.2.1]) | .error e => panE (.iface 43 (.int .i64 e))) (match r with | .ok r => (mkW 1 [] [(0, .cells [ls 1 false (encI .u8) r.2.2.2.2.2.1, .int .i64 r.2.2.2.2.2.2] 189 2)]) | .error _ => (mkW 1 [] []))))
abbrev T_element_L4 (x : Int × (List Int) × Int × Int × Int × Bool × (List S41)) (r : Except Int (Int × Int × Bool × (List Int) × (List S41) × (List Int) × Int)) : Prop := ∀ (W0 w0 : World) (S : Own), Std W0 w0 S 1 → HL Tryz.prog w0 S 128 (cL (cL (cL (cR (cL (cL (cR (cR (cR (cR (cR (cR (cR (cR (cB Tryz.f103))))))))))))))) (mkS [(0, .pointer (some ⟨0, 0, none⟩)), (1, .int .i64 x.1), (4, .pointer (some ⟨1, 0, none⟩)), (6, .pointer (some ⟨2, 0, none⟩))] [(0, .cells [ls 1 false (encI .u8) x.2.1, .int .i64 x.2.2.1] 189 2), (1, .cells [.int .u8 0, .int .u32 0, .bool false, .slice none 0 0, tl 5 3 enc41 []] 41 5), (2, .cells [.int .u8 x.2.2.2.1, .int .u32 x.2.2.2.2.1, .bool x.2.2.2.2.2.1, .slice none 0 0, tl 5 4 enc41 x.2.2.2.2.2.2] 41 5)] 5 [4, 3]) (Kblock 1 (Kblock 0 (Kseq Tryz.prog w0 S 128 (cR (cR (cR (cR (cR (cR (cR (cR (cR (cB Tryz.f103)))))))))) (KEnd Tryz.prog Tryz.f103 (FEnd w0 S (match r with | .ok r => .returned (.agg #[.int .u8 r.1, .int .u32 r.2.1, .bool r.2.2.1, ls 1 false (encI .u8) r.2.2.2.1, ls 5 false enc41 r.2.2.2.2.1]) | .error e => panE (.iface 43 (.int .i64 e))) (match r with | .ok r => (mkW 1 [] [(0, .cells [ls 1 false (encI .u8) r.2.2.2.2.2.1, .int .i64 r.2.2.2.2.2.2] 189 2)]) | .error _ => (mkW 1 [] [])))))))
theorem element_L5_grp : (∀ x r, element_L5 x = some r → T_element_L5 x r) ∧
 (∀ x r, element x = some r → T_element x r) ∧
 (∀ x r, element_L1 x = some r → T_element_L1 x r) ∧
 (∀ x r, element_L2 x = some r → T_element_L2 x r) ∧
 (∀ x r, element_L3 x = some r → T_element_L3 x r) ∧
 (∀ x r, element_L4 x = some r → T_element_L4 x r) := by
 refine element_L5.mutual_partial_correctness T_element_L5 T_element T_element_L1 T_element_L2 T_element_L3 T_element_L4 ?_ ?_ ?_ ?_ ?_ ?_
 ·intro g_element_L5 g_element ih_element_L5 ih_element x r h
  intro W0 w0 S hS
  haveI := hS.noEx Tryz.prog
  refine HL.round ?_
  refine H.seq' ?_
  refine H.sg' ?_
  refine HO.go' 5 ?_
  refine HO.len (by kernel_rfl) (by kernel_rfl) (ls_size (encI .u8) x.2.2.1) ?_
  refine HO.fin' 1 ?_
  refine H.cS' (decide (0 < (x.2.2.1.length : Int))) (fun hb => ?_) (fun hb => ?_)
  rotate_left
  ·rw [if_neg (of_decide_eq_false hb)] at h
   refine H.ext' 3 ?_
   refine Kseq_exit ?_
   refine Kloop_exit ?_
   refine Kblock_hit ?_
   refine Kseq_norm ?_
   refine H.reg' ?_
   refine HO.go' 6 ?_
   refine HO.end' ?_
   refine Kblock_norm ?_
   refine Kseq_norm ?_
   refine H.wkc 2 41 5 3 [.int .u8 x.2.2.2.2.1, .int .u32 x.2.2.2.2.2.1, .bool x.2.2.2.2.2.2.1, .slice none 0 0, tl 5 4 enc41 x.2.2.2.2.2.2.2] (.slice none 0 0) (ls 1 true (encI .u8) []) (.list 1 true) (by kernel_rfl) ?_
   exact H.ren' hS [0, 1, 2, 3, 4] (element_L6_ok (x.2.1, x.2.2.2.1, x.2.2.2.2.1, x.2.2.2.2.2.1, x.2.2.2.2.2.2.1, [], x.2.2.2.2.2.2.2) r h W0 w0 S hS)
  rw [if_pos (of_decide_eq_true hb)] at h
  refine H.skp' ?_
  refine Kseq_norm ?_
  refine H.blk' 4 ?_
  refine H.drawQ ?_
  refine HQ.go' 5 ?_
  obtain ⟨y15, hy, h⟩ := bindS h
  rcases y15 with y15 | y15
  ·dsimp only at h
   refine HQ.panFW hS [4] 5 [4, 3] [(1, .cells [.int .u8 0, .int .u32 0, .bool false, .slice none 0 0, tl 5 3 enc41 []] 41 5), (2, .cells [.int .u8 x.2.2.2.2.1, .int .u32 x.2.2.2.2.2.1, .bool x.2.2.2.2.2.2.1, .slice none 0 0, tl 5 4 enc41 x.2.2.2.2.2.2.2] 41 5)] [0] [.keep, .keep] (ih_element ((IntKind.i64.wrap (x.1 + 1)), x.2.2.1, x.2.2.2.1) (.error y15) hy W0) (by kernel_rfl) (by kernel_rfl) (by kernel_rfl) (by kernel_rfl) ?_
   refine Kblock_pan ?_
   refine Kloop_pan ?_
   refine Kblock_pan ?_
   refine Kseq_pan ?_
   refine Kblock_pan ?_
   refine Kseq_pan ?_
   obtain rfl := Option.some.inj h
   exact KEnd.ofPan (by kernel_rfl) (FEnd.pan hS [0] [] [] (by kernel_rfl))
  dsimp only at h
  refine HQ.callFW hS (.agg #[.int .u8 y15.1, .int .u32 y15.2.1, .bool y15.2.2.1, ls 1 false (encI .u8) y15.2.2.2.1, ls 5 false enc41 y15.2.2.2.2.1]) 5 [4, 3] [(0, .cells [ls 1 false (encI .u8) y15.2.2.2.2.2.1, .int .i64 y15.2.2.2.2.2.2] 189 2), (1, .cells [.int .u8 0, .int .u32 0, .bool false, .slice none 0 0, tl 5 3 enc41 []] 41 5), (2, .cells [.int .u8 x.2.2.2.2.1, .int .u32 x.2.2.2.2.2.1, .bool x.2.2.2.2.2.2.1, .slice none 0 0, tl 5 4 enc41 x.2.2.2.2.2.2.2] 41 5)] [0] [.keep, .keep] (ih_element ((IntKind.i64.wrap (x.1 + 1)), x.2.2.1, x.2.2.2.1) (.ok y15) hy W0) (by kernel_rfl) (by kernel_rfl) ?_
  refine HQ.go' 1 ?_
  obtain ⟨y16, hy, h⟩ := bindS h
  refine HQ.effA (app1_aop (enc := enc41) (k := 5) true 1 [.int .u8 y15.1, .int .u32 y15.2.1, .bool y15.2.2.1, ls 1 false (encI .u8) y15.2.2.2.1, ls 5 false enc41 y15.2.2.2.2.1] [3] hy (by kernel_rfl) (by kernel_rfl) (by simp only [List.map_cons, List.map_nil, enc41_eq]; kernel_rfl)) ?_
  refine HQ.go' 2 ?_
  refine HQ.done (by kernel_rfl) (by kernel_rfl) (by kernel_rfl) ?_
  refine Kblock_norm ?_
  refine Kloop_norm ?_
  exact HL.ren' hS [0, 1, 2, 3, 6] (ih_element_L5 (x.1, x.2.1, y15.2.2.2.2.2.1, y15.2.2.2.2.2.2, x.2.2.2.2.1, x.2.2.2.2.2.1, x.2.2.2.2.2.2.1, y16) r h W0 w0 S hS)
 ·intro g_element_L1 ih_element_L1 x r h
  intro W0
  refine FTo.of_body (fn := Tryz.f103) (code := cB Tryz.f103) Tryz.func103 rfl rfl ?_
  intro w0 S hS
  haveI := hS.noEx Tryz.prog
  refine H.sr' 1 ?_
  refine H.sg' ?_
  refine HO.go' 2 ?_
  refine HO.bo' (decide (x.1 ≤ 16)) (fun hb => ?_) (fun hb => ?_)
  ·rw [if_pos (of_decide_eq_true hb)] at h
   refine HO.go' 6 ?_
   obtain ⟨y1, hy, h⟩ := bindS h
   rcases y1 with y1 | y1
   ·dsimp only at h
    refine HO.panW hS [.keep, .keep] (must_ok ((decide (x.2.2 < 1024)), 3) (.error y1) hy W0) (by kernel_rfl) (by kernel_rfl) ?_
    refine Kseq_pan ?_
    obtain rfl := Option.some.inj h
    exact KEnd.ofPan (by kernel_rfl) (FEnd.pan hS [0] [] [] (by kernel_rfl))
   dsimp only at h
   refine HO.callW hS [.keep, .keep] (must_ok ((decide (x.2.2 < 1024)), 3) (.ok y1) hy W0) (by kernel_rfl) (by kernel_rfl) ?_
   refine HO.fin' 0 ?_
   exact H.ren' hS [0, 1] (ih_element_L1 (x.1, x.2.1, x.2.2) r h W0 w0 S hS)
  rw [if_neg (of_decide_eq_false hb)] at h
  refine HO.go' 6 ?_
  obtain ⟨y2, hy, h⟩ := bindS h
  rcases y2 with y2 | y2
  ·dsimp only at h
   refine HO.panW hS [.keep, .keep] (must_ok (false, 3) (.error y2) hy W0) (by kernel_rfl) (by kernel_rfl) ?_
   refine Kseq_pan ?_
   obtain rfl := Option.some.inj h
   exact KEnd.ofPan (by kernel_rfl) (FEnd.pan hS [0] [] [] (by kernel_rfl))
  dsimp only at h
  refine HO.callW hS [.keep, .keep] (must_ok (false, 3) (.ok y2) hy W0) (by kernel_rfl) (by kernel_rfl) ?_
  refine HO.fin' 0 ?_
  exact H.ren' hS [0, 1] (ih_element_L1 (x.1, x.2.1, x.2.2) r h W0 w0 S hS)
 ·intro g_element_L2 ih_element_L2 x r h
  intro W0 w0 S hS
  haveI := hS.noEx Tryz.prog
  refine H.sr' 8 ?_
  refine H.sg' ?_
  refine HO.go' 3 ?_
  obtain ⟨y3, hy, h⟩ := bindS h
  rcases y3 with y3 | y3
  ·dsimp only at h
   refine HO.panFW hS 2 [] [(1, .cells [.int .u8 0, .int .u32 0, .bool false, .slice none 0 0, .slice none 0 0] 41 5)] [0] [.keep] (next_ok (x.2.1, (IntKind.i64.wrap (x.2.2 + 1))) (.error y3) hy W0) (by kernel_rfl) (by kernel_rfl) ?_
   refine Kseq_pan ?_
   obtain rfl := Option.some.inj h
   exact KEnd.ofPan (by kernel_rfl) (FEnd.pan hS [0] [] [] (by kernel_rfl))
  dsimp only at h
  refine HO.callFW hS (.int .u8 y3.1) 2 [] [(0, .cells [ls 1 false (encI .u8) y3.2.1, .int .i64 y3.2.2] 189 2), (1, .cells [.int .u8 0, .int .u32 0, .bool false, .slice none 0 0, .slice none 0 0] 41 5)] [0] [.keep] (next_ok (x.2.1, (IntKind.i64.wrap (x.2.2 + 1))) (.ok y3) hy W0) (by kernel_rfl) (by kernel_rfl) ?_
  refine HO.fin' 1 ?_
  refine H.sr' 11 ?_
  refine H.seq' ?_
  refine H.sr' 3 ?_
  refine H.cS' (decide ((IntKind.u32.wrap (bAnd .u8 y3.1 31)) = 31)) (fun hb => ?_) (fun hb => ?_)
  rotate_left
  ·rw [if_neg (of_decide_eq_false hb)] at h
   refine H.skp' ?_
   refine Kseq_norm ?_
   exact H.ren' hS [0, 1, 2] (ih_element_L2 (x.1, y3.2.1, y3.2.2, (shrI .u8 y3.1 6), (IntKind.u32.wrap (bAnd .u8 y3.1 31)), (decide (0 < (bAnd .u8 y3.1 32)))) r h W0 w0 S hS)
  rw [if_pos (of_decide_eq_true hb)] at h
  refine H.reg' ?_
  refine HO.go' 1 ?_
  obtain ⟨y4, hy, h⟩ := bindS h
  rcases y4 with y4 | y4
  ·dsimp only at h
   refine HO.panFW hS 3 [] [(1, .cells [.int .u8 0, .int .u32 0, .bool false, .slice none 0 0, .slice none 0 0] 41 5), (2, .cells [.int .u8 (shrI .u8 y3.1 6), .int .u32 (IntKind.u32.wrap (bAnd .u8 y3.1 31)), .bool (decide (0 < (bAnd .u8 y3.1 32))), .slice none 0 0, .slice none 0 0] 41 5)] [0] [.keep] (numberT_ok (y3.2.1, y3.2.2) (.error y4) hy W0) (by kernel_rfl) (by kernel_rfl) ?_
   refine Kseq_pan ?_
   obtain rfl := Option.some.inj h
   exact KEnd.ofPan (by kernel_rfl) (FEnd.pan hS [0] [] [] (by kernel_rfl))
  dsimp only at h
  refine HO.callFW hS (.int .u32 y4.1) 3 [] [(0, .cells [ls 1 false (encI .u8) y4.2.1, .int .i64 y4.2.2] 189 2), (1, .cells [.int .u8 0, .int .u32 0, .bool false, .slice none 0 0, .slice none 0 0] 41 5), (2, .cells [.int .u8 (shrI .u8 y3.1 6), .int .u32 (IntKind.u32.wrap (bAnd .u8 y3.1 31)), .bool (decide (0 < (bAnd .u8 y3.1 32))), .slice none 0 0, .slice none 0 0] 41 5)] [0] [.keep] (numberT_ok (y3.2.1, y3.2.2) (.ok y4) hy W0) (by kernel_rfl) (by kernel_rfl) ?_
  refine HO.fin' 2 ?_
  exact H.ren' hS [0, 1, 2] (ih_element_L2 (x.1, y4.2.1, y4.2.2, (shrI .u8 y3.1 6), y4.1, (decide (0 < (bAnd .u8 y3.1 32)))) r h W0 w0 S hS)
 ·intro g_element_L3 ih_element_L3 x r h
  intro W0 w0 S hS
  haveI := hS.noEx Tryz.prog
  refine H.sg' ?_
  refine HO.go' 3 ?_
  refine HO.bo' (decide (0 < x.2.2.2.1)) (fun hb => ?_) (fun hb => ?_)
  ·rw [if_pos (of_decide_eq_true hb)] at h
   refine HO.go' 4 ?_
   obtain ⟨y5, hy, h⟩ := bindS h
   rcases y5 with y5 | y5
   ·dsimp only at h
    refine HO.panW hS [.keep, .keep] (must_ok (true, 4) (.error y5) hy W0) (by kernel_rfl) (by kernel_rfl) ?_
    refine Kseq_pan ?_
    obtain rfl := Option.some.inj h
    exact KEnd.ofPan (by kernel_rfl) (FEnd.pan hS [0] [] [] (by kernel_rfl))
   dsimp only at h
   refine HO.callW hS [.keep, .keep] (must_ok (true, 4) (.ok y5) hy W0) (by kernel_rfl) (by kernel_rfl) ?_
   refine HO.fin' 0 ?_
   exact H.ren' hS [0, 1, 2] (ih_element_L3 (x.1, x.2.1, x.2.2.1, x.2.2.2.1, x.2.2.2.2.1, x.2.2.2.2.2) r h W0 w0 S hS)
  rw [if_neg (of_decide_eq_false hb)] at h
  refine HO.go' 4 ?_
  obtain ⟨y6, hy, h⟩ := bindS h
  rcases y6 with y6 | y6
  ·dsimp only at h
   refine HO.panW hS [.keep, .keep] (must_ok ((decide (0 < x.2.2.2.2.1)), 4) (.error y6) hy W0) (by kernel_rfl) (by kernel_rfl) ?_
   refine Kseq_pan ?_
   obtain rfl := Option.some.inj h
   exact KEnd.ofPan (by kernel_rfl) (FEnd.pan hS [0] [] [] (by kernel_rfl))
  dsimp only at h
  refine HO.callW hS [.keep, .keep] (must_ok ((decide (0 < x.2.2.2.2.1)), 4) (.ok y6) hy W0) (by kernel_rfl) (by kernel_rfl) ?_
  refine HO.fin' 0 ?_
  exact H.ren' hS [0, 1, 2] (ih_element_L3 (x.1, x.2.1, x.2.2.1, x.2.2.2.1, x.2.2.2.2.1, x.2.2.2.2.2) r h W0 w0 S hS)
 ·intro g_element_L5 g_element_L4 ih_element_L5 ih_element_L4 x r h
  intro W0 w0 S hS
  haveI := hS.noEx Tryz.prog
  refine H.sg' ?_
  refine HO.go' 2 ?_
  obtain ⟨y7, hy, h⟩ := bindS h
  rcases y7 with y7 | y7
  ·dsimp only at h
   refine HO.panFW hS 3 [] [(1, .cells [.int .u8 0, .int .u32 0, .bool false, .slice none 0 0, .slice none 0 0] 41 5), (2, .cells [.int .u8 x.2.2.2.1, .int .u32 x.2.2.2.2.1, .bool x.2.2.2.2.2, .slice none 0 0, .slice none 0 0] 41 5)] [0] [.keep, .agg [.keep, .keep, .keep, .list 1 false, .list 5 false]] (lengthT_ok (x.2.2.2.1, x.2.2.2.2.1, x.2.2.2.2.2, [], [], x.2.1, x.2.2.1) (.error y7) hy W0) (by kernel_rfl) (by kernel_rfl) ?_
   refine Kseq_pan ?_
   obtain rfl := Option.some.inj h
   exact KEnd.ofPan (by kernel_rfl) (FEnd.pan hS [0] [] [] (by kernel_rfl))
  dsimp only at h
  refine HO.callFW hS (.tuple #[.int .i64 y7.1, .bool y7.2.1]) 3 [] [(0, .cells [ls 1 false (encI .u8) y7.2.2.1, .int .i64 y7.2.2.2] 189 2), (1, .cells [.int .u8 0, .int .u32 0, .bool false, .slice none 0 0, .slice none 0 0] 41 5), (2, .cells [.int .u8 x.2.2.2.1, .int .u32 x.2.2.2.2.1, .bool x.2.2.2.2.2, .slice none 0 0, .slice none 0 0] 41 5)] [0] [.keep, .agg [.keep, .keep, .keep, .list 1 false, .list 5 false]] (lengthT_ok (x.2.2.2.1, x.2.2.2.2.1, x.2.2.2.2.2, [], [], x.2.1, x.2.2.1) (.ok y7) hy W0) (by kernel_rfl) (by kernel_rfl) ?_
  refine HO.fin' 5 ?_
  refine H.seq' ?_
  refine H.blk' 0 ?_
  refine H.sr' 3 ?_
  refine H.cS' (!y7.2.1) (fun hb => ?_) (fun hb => ?_)
  ·rw [if_pos hb] at h
   refine H.blk' 1 ?_
   refine H.lop' ?_
   refine HL.tkc 1 41 5 4 5 [.int .u8 0, .int .u32 0, .bool false, .slice none 0 0, .slice none 0 0] (.slice none 0 0) #[] (by kernel_rfl) ?_
   refine HL.tkc 2 41 5 4 5 [.int .u8 x.2.2.2.1, .int .u32 x.2.2.2.2.1, .bool x.2.2.2.2.2, .slice none 0 0, .slice none 0 0] (.slice none 0 0) #[] (by kernel_rfl) ?_
   exact HL.ren' hS [0, 1, 2, 3, 4] (ih_element_L4 (x.1, y7.2.2.1, y7.2.2.2, x.2.2.2.1, x.2.2.2.2.1, x.2.2.2.2.2, []) r h W0 w0 S hS)
  rw [if_neg (ne_true hb)] at h
  refine H.sr' 3 ?_
  refine H.cS' (x.2.2.2.2.2) (fun hb => ?_) (fun hb => ?_)
  rotate_left
  ·rw [if_neg (ne_true hb)] at h
   refine H.reg' ?_
   refine HO.go' 4 ?_
   obtain ⟨y12, hy, h⟩ := bindS h
   rcases y12 with y12 | y12
   ·dsimp only at h
    refine HO.panFW hS 3 [] [(1, .cells [.int .u8 0, .int .u32 0, .bool false, .slice none 0 0, .slice none 0 0] 41 5), (2, .cells [.int .u8 x.2.2.2.1, .int .u32 x.2.2.2.2.1, .bool x.2.2.2.2.2, .slice none 0 0, .slice none 0 0] 41 5)] [0] [.keep, .keep] (take_ok (y7.1, y7.2.2.1, y7.2.2.2) (.error y12) hy W0) (by kernel_rfl) (by kernel_rfl) ?_
    refine Kblock_pan ?_
    refine Kseq_pan ?_
    obtain rfl := Option.some.inj h
    exact KEnd.ofPan (by kernel_rfl) (FEnd.pan hS [0] [] [] (by kernel_rfl))
   dsimp only at h
   refine HO.callFW hS (ls 1 false (encI .u8) y12.1) 3 [] [(0, .cells [ls 1 false (encI .u8) y12.2.1, .int .i64 y12.2.2] 189 2), (1, .cells [.int .u8 0, .int .u32 0, .bool false, .slice none 0 0, .slice none 0 0] 41 5), (2, .cells [.int .u8 x.2.2.2.1, .int .u32 x.2.2.2.2.1, .bool x.2.2.2.2.2, .slice none 0 0, .slice none 0 0] 41 5)] [0] [.keep, .keep] (take_ok (y7.1, y7.2.2.1, y7.2.2.2) (.ok y12) hy W0) (by kernel_rfl) (by kernel_rfl) ?_
   obtain ⟨y13, hy, h⟩ := bindS h
   refine HO.callW hS [.list 1 false] (cloneB_ok y12.1 y13 hy W0) (by kernel_rfl) (by kernel_rfl) ?_
   obtain ⟨y14, hy, h⟩ := bindS h
   refine HO.callW hS [.list 1 false] (clip_ok y13 y14 hy W0) (by kernel_rfl) (by kernel_rfl) ?_
   refine HO.go' 2 ?_
   refine HO.end' ?_
   refine Kblock_norm ?_
   refine Kseq_norm ?_
   refine H.tkc 1 41 5 4 5 [.int .u8 0, .int .u32 0, .bool false, .slice none 0 0, .slice none 0 0] (.slice none 0 0) #[] (by kernel_rfl) ?_
   refine H.tkc 2 41 5 4 5 [.int .u8 x.2.2.2.1, .int .u32 x.2.2.2.2.1, .bool x.2.2.2.2.2, ls 1 true (encI .u8) y14, .slice none 0 0] (.slice none 0 0) #[] (by kernel_rfl) ?_
   exact H.ren' hS [0, 1, 2, 3, 4] (element_L6_ok (y12.2.1, y12.2.2, x.2.2.2.1, x.2.2.2.2.1, x.2.2.2.2.2, y14, []) r h W0 w0 S hS)
  rw [if_pos hb] at h
  refine H.sg' ?_
  refine HO.go' 4 ?_
  obtain ⟨y11, hy, h⟩ := bindS h
  rcases y11 with y11 | y11
  ·dsimp only at h
   refine HO.panFW hS 3 [] [(1, .cells [.int .u8 0, .int .u32 0, .bool false, .slice none 0 0, .slice none 0 0] 41 5), (2, .cells [.int .u8 x.2.2.2.1, .int .u32 x.2.2.2.2.1, .bool x.2.2.2.2.2, .slice none 0 0, .slice none 0 0] 41 5)] [0] [.keep, .keep] (take_ok (y7.1, y7.2.2.1, y7.2.2.2) (.error y11) hy W0) (by kernel_rfl) (by kernel_rfl) ?_
   refine Kseq_pan ?_
   refine Kblock_pan ?_
   refine Kseq_pan ?_
   obtain rfl := Option.some.inj h
   exact KEnd.ofPan (by kernel_rfl) (FEnd.pan hS [0] [] [] (by kernel_rfl))
  dsimp only at h
  refine HO.callFW hS (ls 1 false (encI .u8) y11.1) 3 [] [(0, .cells [ls 1 false (encI .u8) y11.2.1, .int .i64 y11.2.2] 189 2), (1, .cells [.int .u8 0, .int .u32 0, .bool false, .slice none 0 0, .slice none 0 0] 41 5), (2, .cells [.int .u8 x.2.2.2.1, .int .u32 x.2.2.2.2.1, .bool x.2.2.2.2.2, .slice none 0 0, .slice none 0 0] 41 5)] [0] [.keep, .keep] (take_ok (y7.1, y7.2.2.1, y7.2.2.2) (.ok y11) hy W0) (by kernel_rfl) (by kernel_rfl) ?_
  refine HO.fin' 1 ?_
  refine H.sr' 6 ?_
  refine H.seq' ?_
  refine H.sr' 6 ?_
  refine H.blk' 3 ?_
  refine H.lop' ?_
  refine HL.tkc 1 41 5 4 5 [.int .u8 0, .int .u32 0, .bool false, .slice none 0 0, .slice none 0 0] (.slice none 0 0) #[] (by kernel_rfl) ?_
  refine HL.tkc 2 41 5 4 5 [.int .u8 x.2.2.2.1, .int .u32 x.2.2.2.2.1, .bool x.2.2.2.2.2, .slice none 0 0, .slice none 0 0] (.slice none 0 0) #[] (by kernel_rfl) ?_
  exact HL.ren' hS [0, 1, 2, 3, 4] (ih_element_L5 (x.1, y11.2.1, y11.1, y11.2.2, x.2.2.2.1, x.2.2.2.2.1, x.2.2.2.2.2, []) r h W0 w0 S hS)
 ·intro g_element g_element_L4 ih_element ih_element_L4 x r h
  intro W0 w0 S hS
  haveI := hS.noEx Tryz.prog
  refine HL.round ?_
  refine H.seq' ?_
  refine H.sg' ?_
  refine HO.go' 1 ?_
  obtain ⟨y8, hy, h⟩ := bindS h
  rcases y8 with y8 | y8
  ·dsimp only at h
   refine HO.panFW hS 5 [4, 3] [(1, .cells [.int .u8 0, .int .u32 0, .bool false, .slice none 0 0, tl 5 3 enc41 []] 41 5), (2, .cells [.int .u8 x.2.2.2.1, .int .u32 x.2.2.2.2.1, .bool x.2.2.2.2.2.1, .slice none 0 0, tl 5 4 enc41 x.2.2.2.2.2.2] 41 5)] [0] [.keep] (ahead_ok (x.2.1, x.2.2.1) (.error y8) hy W0) (by kernel_rfl) (by kernel_rfl) ?_
   refine Kseq_pan ?_
   refine Kseq_pan ?_
   refine Kloop_pan ?_
   refine Kblock_pan ?_
   refine Kblock_pan ?_
   refine Kseq_pan ?_
   obtain rfl := Option.some.inj h
   exact KEnd.ofPan (by kernel_rfl) (FEnd.pan hS [0] [] [] (by kernel_rfl))
  dsimp only at h
  refine HO.callFW hS (.bool y8.1) 5 [4, 3] [(0, .cells [ls 1 false (encI .u8) y8.2.1, .int .i64 y8.2.2] 189 2), (1, .cells [.int .u8 0, .int .u32 0, .bool false, .slice none 0 0, tl 5 3 enc41 []] 41 5), (2, .cells [.int .u8 x.2.2.2.1, .int .u32 x.2.2.2.2.1, .bool x.2.2.2.2.2.1, .slice none 0 0, tl 5 4 enc41 x.2.2.2.2.2.2] 41 5)] [0] [.keep] (ahead_ok (x.2.1, x.2.2.1) (.ok y8) hy W0) (by kernel_rfl) (by kernel_rfl) ?_
  refine HO.fin' 0 ?_
  refine H.cS' (y8.1) (fun hb => ?_) (fun hb => ?_)
  rotate_left
  ·rw [if_neg (ne_true hb)] at h
   refine H.ext' 1 ?_
   refine Kseq_exit ?_
   refine Kloop_exit ?_
   refine Kblock_hit ?_
   refine Kblock_norm ?_
   refine Kseq_norm ?_
   refine H.wkc 2 41 5 3 [.int .u8 x.2.2.2.1, .int .u32 x.2.2.2.2.1, .bool x.2.2.2.2.2.1, .slice none 0 0, tl 5 4 enc41 x.2.2.2.2.2.2] (.slice none 0 0) (ls 1 true (encI .u8) []) (.list 1 true) (by kernel_rfl) ?_
   exact H.ren' hS [0, 1, 2, 3, 4] (element_L6_ok (y8.2.1, y8.2.2, x.2.2.2.1, x.2.2.2.2.1, x.2.2.2.2.2.1, [], x.2.2.2.2.2.2) r h W0 w0 S hS)
  rw [if_pos hb] at h
  refine H.skp' ?_
  refine Kseq_norm ?_
  refine H.blk' 2 ?_
  refine H.drawQ ?_
  refine HQ.go' 5 ?_
  obtain ⟨y9, hy, h⟩ := bindS h
  rcases y9 with y9 | y9
  ·dsimp only at h
   refine HQ.panFW hS [4] 5 [4, 3] [(1, .cells [.int .u8 0, .int .u32 0, .bool false, .slice none 0 0, tl 5 3 enc41 []] 41 5), (2, .cells [.int .u8 x.2.2.2.1, .int .u32 x.2.2.2.2.1, .bool x.2.2.2.2.2.1, .slice none 0 0, tl 5 4 enc41 x.2.2.2.2.2.2] 41 5)] [0] [.keep, .keep] (ih_element ((IntKind.i64.wrap (x.1 + 1)), y8.2.1, y8.2.2) (.error y9) hy W0) (by kernel_rfl) (by kernel_rfl) (by kernel_rfl) (by kernel_rfl) ?_
   refine Kblock_pan ?_
   refine Kloop_pan ?_
   refine Kblock_pan ?_
   refine Kblock_pan ?_
   refine Kseq_pan ?_
   obtain rfl := Option.some.inj h
   exact KEnd.ofPan (by kernel_rfl) (FEnd.pan hS [0] [] [] (by kernel_rfl))
  dsimp only at h
  refine HQ.callFW hS (.agg #[.int .u8 y9.1, .int .u32 y9.2.1, .bool y9.2.2.1, ls 1 false (encI .u8) y9.2.2.2.1, ls 5 false enc41 y9.2.2.2.2.1]) 5 [4, 3] [(0, .cells [ls 1 false (encI .u8) y9.2.2.2.2.2.1, .int .i64 y9.2.2.2.2.2.2] 189 2), (1, .cells [.int .u8 0, .int .u32 0, .bool false, .slice none 0 0, tl 5 3 enc41 []] 41 5), (2, .cells [.int .u8 x.2.2.2.1, .int .u32 x.2.2.2.2.1, .bool x.2.2.2.2.2.1, .slice none 0 0, tl 5 4 enc41 x.2.2.2.2.2.2] 41 5)] [0] [.keep, .keep] (ih_element ((IntKind.i64.wrap (x.1 + 1)), y8.2.1, y8.2.2) (.ok y9) hy W0) (by kernel_rfl) (by kernel_rfl) ?_
  refine HQ.go' 1 ?_
  obtain ⟨y10, hy, h⟩ := bindS h
  refine HQ.effA (app1_aop (enc := enc41) (k := 5) true 1 [.int .u8 y9.1, .int .u32 y9.2.1, .bool y9.2.2.1, ls 1 false (encI .u8) y9.2.2.2.1, ls 5 false enc41 y9.2.2.2.2.1] [3] hy (by kernel_rfl) (by kernel_rfl) (by simp only [List.map_cons, List.map_nil, enc41_eq]; kernel_rfl)) ?_
  refine HQ.go' 2 ?_
  refine HQ.done (by kernel_rfl) (by kernel_rfl) (by kernel_rfl) ?_
  refine Kblock_norm ?_
  refine Kloop_norm ?_
  exact HL.ren' hS [0, 1, 2, 3, 6] (ih_element_L4 (x.1, y9.2.2.2.2.2.1, y9.2.2.2.2.2.2, x.2.2.2.1, x.2.2.2.2.1, x.2.2.2.2.2.1, y10) r h W0 w0 S hS)
theorem element_L5_ok : ∀ x r, element_L5 x = some r → T_element_L5 x r := element_L5_grp.1
theorem element_ok : ∀ x r, element x = some r → T_element x r := element_L5_grp.2.1
theorem element_L1_ok : ∀ x r, element_L1 x = some r → T_element_L1 x r := element_L5_grp.2.2.1
theorem element_L2_ok : ∀ x r, element_L2 x = some r → T_element_L2 x r := element_L5_grp.2.2.2.1
theorem element_L3_ok : ∀ x r, element_L3 x = some r → T_element_L3 x r := element_L5_grp.2.2.2.2.1
theorem element_L4_ok : ∀ x r, element_L4 x = some r → T_element_L4 x r := element_L5_grp.2.2.2.2.2
def first (x : (List Int)) : Option (Int × Int × Bool × (List Int) × (List S41) × Int × Int) :=
 if 65536 < (x.length : Int) then
  some (0, 0, false, [], [], 0, 3)
 else
  (element (1, x, 0)) >>= fun y1 =>
  match y1 with
  | .error y1 =>
   some (0, 0, false, [], [], 0, y1)
  | .ok y1 =>
   some (y1.1, y1.2.1, y1.2.2.1, y1.2.2.2.1, y1.2.2.2.2.1, (IntKind.i64.wrap ((x.length : Int) - (y1.2.2.2.2.2.1.length : Int))), 0)
theorem first_ok : ∀ (x : (List Int)) (r : Int × Int × Bool × (List Int) × (List S41) × Int × Int), first x = some r → ∀ W0 : World, PTo Tryz.prog W0 73 #[ls 1 false (encI .u8) x] (.returned (.tuple #[.agg #[.int .u8 r.1, .int .u32 r.2.1, .bool r.2.2.1, ls 1 false (encI .u8) r.2.2.2.1, ls 5 false enc41 r.2.2.2.2.1], .int .i64 r.2.2.2.2.2.1, .int .i64 r.2.2.2.2.2.2])) := by
 intro x r h
 unfold first at h
 intro W0
 refine PTo.of_body (fn := Tryz.f73) (code := cB Tryz.f73) Tryz.func73 rfl rfl ?_
 intro w0 S hS
 haveI := hS.noEx Tryz.prog
 refine H.sr' 3 ?_
 refine H.seq' ?_
 refine H.sg' ?_
 refine HO.go' 1 ?_
 refine HO.len (by kernel_rfl) (by kernel_rfl) (ls_size (encI .u8) x) ?_
 refine HO.fin' 1 ?_
 refine H.cS' (decide (65536 < (x.length : Int))) (fun hb => ?_) (fun hb => ?_)
 ·rw [if_pos (of_decide_eq_true hb)] at h
  refine H.sr' 4 ?_
  refine H.ret' ?_
  refine Kseq_ret ?_
  obtain rfl := Option.some.inj h
  exact KEnd.retW (v := .tuple #[.agg #[.int .u8 0, .int .u32 0, .bool false, .slice none 0 0, .slice none 0 0], .int .i64 0, .int .i64 3]) (.tuple [.agg [.keep, .keep, .keep, .list 1 false, .list 5 false], .keep, .keep]) (by kernel_rfl) (by kernel_rfl) (by kernel_rfl) (by kernel_rfl)
 rw [if_neg (of_decide_eq_false hb)] at h
 refine H.skp' ?_
 refine Kseq_norm ?_
 refine H.sr' 2 ?_
 refine H.sr' 5 ?_
 refine H.sg' ?_
 refine HO.go' 1 ?_
 obtain ⟨y1, hy, h⟩ := bindS h
 rcases y1 with y1 | y1
 ·dsimp only at h
  refine HO.panFW hS 4 [] [(0, .cells [.int .u8 0, .int .u32 0, .bool false, .slice none 0 0, .slice none 0 0] 41 5), (1, .cells [.int .i64 0] 3 1), (2, .cells [.int .i64 0] 43 1)] [3] [.keep, .keep] (element_ok (1, x, 0) (.error y1) hy W0) (by kernel_rfl) (by kernel_rfl) ?_
  refine Kseq_pan ?_
  obtain rfl := Option.some.inj h
  exact KEnd.genP (e := .returned (.tuple #[.agg #[.int .u8 0, .int .u32 0, .bool false, .slice none 0 0, .slice none 0 0], .int .i64 0, .int .i64 y1])) (by kernel_rfl) (PEnd.wk (v1 := .tuple #[.agg #[.int .u8 0, .int .u32 0, .bool false, ls 1 false (encI .u8) [], ls 5 false enc41 []], .int .i64 0, .int .i64 y1]) (.tuple [.agg [.keep, .keep, .keep, .list 1 false, .list 5 false], .keep, .keep]) (by kernel_rfl) (PEnd.fin (by kernel_rfl)))
 dsimp only at h
 refine HO.callFW hS (.agg #[.int .u8 y1.1, .int .u32 y1.2.1, .bool y1.2.2.1, ls 1 false (encI .u8) y1.2.2.2.1, ls 5 false enc41 y1.2.2.2.2.1]) 4 [] [(0, .cells [.int .u8 0, .int .u32 0, .bool false, .slice none 0 0, .slice none 0 0] 41 5), (1, .cells [.int .i64 0] 3 1), (2, .cells [.int .i64 0] 43 1), (3, .cells [ls 1 false (encI .u8) y1.2.2.2.2.2.1, .int .i64 y1.2.2.2.2.2.2] 189 2)] [3] [.keep, .keep] (element_ok (1, x, 0) (.ok y1) hy W0) (by kernel_rfl) (by kernel_rfl) ?_
 refine HO.fin' 1 ?_
 refine H.seq' ?_
 refine H.drawQ ?_
 refine HQ.go' 2 ?_
 refine HQ.len (by kernel_rfl) (ls_size (encI .u8) x) ?_
 refine HQ.go' 5 ?_
 refine HQ.len (by kernel_rfl) (ls_size (encI .u8) y1.2.2.2.2.2.1) ?_
 refine HQ.go' 4 ?_
 refine HQ.done (by kernel_rfl) (by kernel_rfl) (by kernel_rfl) ?_
 refine Kseq_norm ?_
 refine H.ret' ?_
 obtain rfl := Option.some.inj h
 exact KEnd.genR (by kernel_rfl) (e := .returned (.tuple #[.agg #[.int .u8 y1.1, .int .u32 y1.2.1, .bool y1.2.2.1, ls 1 false (encI .u8) y1.2.2.2.1, ls 5 false enc41 y1.2.2.2.2.1], .int .i64 (IntKind.i64.wrap ((x.length : Int) - (y1.2.2.2.2.2.1.length : Int))), .int .i64 0])) (by kernel_rfl) (PEnd.wk (v1 := .tuple #[.agg #[.int .u8 y1.1, .int .u32 y1.2.1, .bool y1.2.2.1, ls 1 false (encI .u8) y1.2.2.2.1, ls 5 false enc41 y1.2.2.2.2.1], .int .i64 (IntKind.i64.wrap ((x.length : Int) - (y1.2.2.2.2.2.1.length : Int))), .int .i64 0]) (.tuple [.agg [.keep, .keep, .keep, .list 1 false, .list 5 false], .keep, .keep]) (by kernel_rfl) (PEnd.fin (by kernel_rfl)))
def decode (x : (List Int)) : Option (Int × Int × Bool × (List Int) × (List S41) × Int) :=
 (first x) >>= fun y1 =>
 if (!decide (y1.2.2.2.2.2.2 = 0)) = true then
  some (0, 0, false, [], [], y1.2.2.2.2.2.2)
 else
  if y1.2.2.2.2.2.1 < (x.length : Int) then
   some (0, 0, false, [], [], 4)
  else
   some (y1.1, y1.2.1, y1.2.2.1, y1.2.2.2.1, y1.2.2.2.2.1, 0)
theorem decode_ok : ∀ (x : (List Int)) (r : Int × Int × Bool × (List Int) × (List S41) × Int), decode x = some r → ∀ W0 : World, PTo Tryz.prog W0 33 #[ls 1 false (encI .u8) x] (.returned (.tuple #[.agg #[.int .u8 r.1, .int .u32 r.2.1, .bool r.2.2.1, ls 1 false (encI .u8) r.2.2.2.1, ls 5 false enc41 r.2.2.2.2.1], .int .i64 r.2.2.2.2.2])) := by
 intro x r h
 unfold decode at h
 intro W0
 refine PTo.of_body (fn := Tryz.f33) (code := cB Tryz.f33) Tryz.func33 rfl rfl ?_
 intro w0 S hS
 haveI := hS.noEx Tryz.prog
 refine H.sr' 2 ?_
 refine H.sg' ?_
 refine HO.go' 1 ?_
 obtain ⟨y1, hy, h⟩ := bindS h
 refine HO.callW hS [.list 1 false] (first_ok x y1 hy W0) (by kernel_rfl) (by kernel_rfl) ?_
 refine HO.fin' 8 ?_
 refine H.seq' ?_
 refine H.blk' 0 ?_
 refine H.sr' 3 ?_
 refine H.cS' (!decide (y1.2.2.2.2.2.2 = 0)) (fun hb => ?_) (fun hb => ?_)
 ·rw [if_pos hb] at h
  refine H.sr' 4 ?_
  refine H.ret' ?_
  refine Kblock_ret ?_
  refine Kseq_ret ?_
  obtain rfl := Option.some.inj h
  exact KEnd.retW (v := .tuple #[.agg #[.int .u8 0, .int .u32 0, .bool false, .slice none 0 0, .slice none 0 0], .int .i64 y1.2.2.2.2.2.2]) (.tuple [.agg [.keep, .keep, .keep, .list 1 false, .list 5 false], .keep]) (by kernel_rfl) (by kernel_rfl) (by kernel_rfl) (by kernel_rfl)
 rw [if_neg (ne_true hb)] at h
 refine H.sg' ?_
 refine HO.go' 2 ?_
 refine HO.len (by kernel_rfl) (by kernel_rfl) (ls_size (encI .u8) x) ?_
 refine HO.fin' 2 ?_
 refine H.cS' (decide (y1.2.2.2.2.2.1 < (x.length : Int))) (fun hb => ?_) (fun hb => ?_)
 ·rw [if_pos (of_decide_eq_true hb)] at h
  refine H.sr' 3 ?_
  refine H.ret' ?_
  refine Kblock_ret ?_
  refine Kseq_ret ?_
  obtain rfl := Option.some.inj h
  exact KEnd.retW (v := .tuple #[.agg #[.int .u8 0, .int .u32 0, .bool false, .slice none 0 0, .slice none 0 0], .int .i64 4]) (.tuple [.agg [.keep, .keep, .keep, .list 1 false, .list 5 false], .keep]) (by kernel_rfl) (by kernel_rfl) (by kernel_rfl) (by kernel_rfl)
 rw [if_neg (of_decide_eq_false hb)] at h
 refine H.skp' ?_
 refine Kblock_norm ?_
 refine Kseq_norm ?_
 refine H.sr' 3 ?_
 refine H.ret' ?_
 obtain rfl := Option.some.inj h
 exact KEnd.retW (v := .tuple #[.agg #[.int .u8 y1.1, .int .u32 y1.2.1, .bool y1.2.2.1, ls 1 false (encI .u8) y1.2.2.2.1, ls 5 false enc41 y1.2.2.2.2.1], .int .i64 0]) (.tuple [.agg [.keep, .keep, .keep, .list 1 false, .list 5 false], .keep]) (by kernel_rfl) (by kernel_rfl) (by kernel_rfl) (by kernel_rfl)
def toInt_L2 (x : Int × (List Int) × Int × Int) : Option (Int × Int) :=
 if x.2.2.2 < x.2.2.1 then
  (at' x.2.1 x.2.2.2) >>= fun y9 =>
  toInt_L2 ((bOr .i64 (shlI .i64 x.1 8) (IntKind.i64.wrap y9)), x.2.1, x.2.2.1, (IntKind.i64.wrap (x.2.2.2 + 1)))
 else
  some (x.1, 0)
partial_fixpoint
abbrev T_toInt_L2 (x : Int × (List Int) × Int × Int) (r : Int × Int) : Prop := ∀ (W0 w0 : World) (S : Own), Std W0 w0 S 0 → HL Tryz.prog w0 S 62 (cL (cL (cR (cL (cR (cR (cR (cB Tryz.f95)))))))) (mkS [(4, .int .i64 x.1), (49, ls 1 false (encI .u8) x.2.1), (50, .int .i64 x.2.2.1), (51, .int .i64 x.2.2.2)] [] 0 []) (Kblock 1 (Kseq Tryz.prog w0 S 62 (cR (cR (cR (cR (cB Tryz.f95))))) (KEnd Tryz.prog Tryz.f95 (PEnd w0 S (.returned (.tuple #[.int .i64 r.1, .int .i64 r.2]))))))
theorem toInt_L2_ok : ∀ x r, toInt_L2 x = some r → T_toInt_L2 x r := by
 refine toInt_L2.partial_correctness T_toInt_L2 ?_
 intro self ih_toInt_L2 x r h
 intro W0 w0 S hS
 haveI := hS.noEx Tryz.prog
 refine HL.round ?_
 refine H.sr' 1 ?_
 refine H.seq' ?_
 refine H.cS' (decide (x.2.2.2 < x.2.2.1)) (fun hb => ?_) (fun hb => ?_)
 rotate_left
 ·rw [if_neg (of_decide_eq_false hb)] at h
  refine H.ext' 1 ?_
  refine Kseq_exit ?_
  refine Kloop_exit ?_
  refine Kblock_hit ?_
  refine Kseq_norm ?_
  refine H.sr' 3 ?_
  refine H.ret' ?_
  obtain rfl := Option.some.inj h
  exact KEnd.r'
 rw [if_pos (of_decide_eq_true hb)] at h
 refine H.skp' ?_
 refine Kseq_norm ?_
 refine H.seq' ?_
 refine H.blk' 2 ?_
 refine H.sg' ?_
 obtain ⟨y9, hy, h⟩ := bindS h
 refine HO.idx (.int .u8 y9) hy rfl (by kernel_rfl) ?_
 refine HO.fin' 2 ?_
 refine H.reg' ?_
 refine HO.go' 6 ?_
 refine HO.end' ?_
 refine Kblock_norm ?_
 refine Kseq_norm ?_
 refine H.reg' ?_
 refine HO.go' 2 ?_
 refine HO.end' ?_
 refine Kloop_norm ?_
 exact HL.ren' hS [] (ih_toInt_L2 ((bOr .i64 (shlI .i64 x.1 8) (IntKind.i64.wrap y9)), x.2.1, x.2.2.1, (IntKind.i64.wrap (x.2.2.2 + 1))) r h W0 w0 S hS)
def toInt_L1 (x : (List Int) × Bool) : Option (Int × Int) :=
 if x.2 = true then
  some (0, 4)
 else
  if 8 < (x.1.length : Int) then
   some (0, 3)
  else
   (at' x.1 0) >>= fun y7 =>
   (sub' x.1 1 (x.1.length : Int)) >>= fun y8 =>
   toInt_L2 ((IntKind.i64.wrap (IntKind.i8.wrap y7)), y8, (y8.length : Int), 0)
theorem toInt_L1_ok : ∀ (x : (List Int) × Bool) (r : Int × Int), toInt_L1 x = some r → ∀ (W0 w0 : World) (S : Own), Std W0 w0 S 0 → H Tryz.prog w0 S 62 (cR (cR (cR (cL (cL (cR (cB Tryz.f95))))))) (mkS [(0, ls 1 false (encI .u8) x.1), (11, .bool x.2)] [] 0 []) (Kblock 0 (Kseq Tryz.prog w0 S 62 (cR (cR (cB Tryz.f95))) (KEnd Tryz.prog Tryz.f95 (PEnd w0 S (.returned (.tuple #[.int .i64 r.1, .int .i64 r.2])))))) := by
 intro x r h
 unfold toInt_L1 at h
 intro W0 w0 S hS
 haveI := hS.noEx Tryz.prog
 refine H.cS' (x.2) (fun hb => ?_) (fun hb => ?_)
 ·rw [if_pos hb] at h
  refine H.sr' 2 ?_
  refine H.ret' ?_
  refine Kblock_ret ?_
  refine Kseq_ret ?_
  obtain rfl := Option.some.inj h
  exact KEnd.r'
 rw [if_neg (ne_true hb)] at h
 refine H.sg' ?_
 refine HO.go' 1 ?_
 refine HO.len (by kernel_rfl) (by kernel_rfl) (ls_size (encI .u8) x.1) ?_
 refine HO.fin' 2 ?_
 refine H.cS' (decide (8 < (x.1.length : Int))) (fun hb => ?_) (fun hb => ?_)
 ·rw [if_pos (of_decide_eq_true hb)] at h
  refine H.sr' 2 ?_
  refine H.ret' ?_
  refine Kblock_ret ?_
  refine Kseq_ret ?_
  obtain rfl := Option.some.inj h
  exact KEnd.r'
 rw [if_neg (of_decide_eq_false hb)] at h
 refine H.skp' ?_
 refine Kblock_norm ?_
 refine Kseq_norm ?_
 refine H.sg' ?_
 refine HO.go' 1 ?_
 obtain ⟨y7, hy, h⟩ := bindS h
 refine HO.idx (.int .u8 y7) hy rfl (by kernel_rfl) ?_
 refine HO.fin' 4 ?_
 refine H.seq' ?_
 refine H.sg' ?_
 refine HO.go' 1 ?_
 obtain ⟨y8, hy, h⟩ := bindS h
 refine HO.valA (sl1_aop (enc := (encI .u8)) (k := 1) (j := .i64) false hy (by kernel_rfl)) ?_
 refine HO.len (by kernel_rfl) (by kernel_rfl) (ls_size (encI .u8) y8) ?_
 refine HO.fin' 1 ?_
 refine H.blk' 1 ?_
 refine H.lop' ?_
 exact HL.ren' hS [] (toInt_L2_ok ((IntKind.i64.wrap (IntKind.i8.wrap y7)), y8, (y8.length : Int), 0) r h W0 w0 S hS)
def toInt (x : (List Int)) : Option (Int × Int) :=
 if (x.length : Int) = 0 then
  some (0, 4)
 else
  if 1 < (x.length : Int) then
   (at' x 0) >>= fun y1 =>
   if y1 = 0 then
    (at' x 1) >>= fun y2 =>
    if y2 < 128 then
     toInt_L1 (x, true)
    else
     (at' x 0) >>= fun y3 =>
     if y3 = 255 then
      (at' x 1) >>= fun y4 =>
      toInt_L1 (x, (decide (128 ≤ y4)))
     else
      toInt_L1 (x, false)
   else
    (at' x 0) >>= fun y5 =>
    if y5 = 255 then
     (at' x 1) >>= fun y6 =>
     toInt_L1 (x, (decide (128 ≤ y6)))
    else
     toInt_L1 (x, false)
  else
   toInt_L1 (x, false)
theorem toInt_ok : ∀ (x : (List Int)) (r : Int × Int), toInt x = some r → ∀ W0 : World, PTo Tryz.prog W0 95 #[ls 1 false (encI .u8) x] (.returned (.tuple #[.int .i64 r.1, .int .i64 r.2])) := by
 intro x r h
 unfold toInt at h
 intro W0
 refine PTo.of_body (fn := Tryz.f95) (code := cB Tryz.f95) Tryz.func95 rfl rfl ?_
 intro w0 S hS
 haveI := hS.noEx Tryz.prog
 refine H.sr' 2 ?_
 refine H.seq' ?_
 refine H.blk' 0 ?_
 refine H.sg' ?_
 refine HO.go' 1 ?_
 refine HO.len (by kernel_rfl) (by kernel_rfl) (ls_size (encI .u8) x) ?_
 refine HO.fin' 2 ?_
 refine H.cS' (decide ((x.length : Int) = 0)) (fun hb => ?_) (fun hb => ?_)
 ·rw [if_pos (of_decide_eq_true hb)] at h
  refine H.sr' 2 ?_
  refine H.ret' ?_
  refine Kblock_ret ?_
  refine Kseq_ret ?_
  obtain rfl := Option.some.inj h
  exact KEnd.r'
 rw [if_neg (of_decide_eq_false hb)] at h
 refine H.sg' ?_
 refine HO.go' 1 ?_
 refine HO.len (by kernel_rfl) (by kernel_rfl) (ls_size (encI .u8) x) ?_
 refine HO.go' 1 ?_
 refine HO.bo' (decide (1 < (x.length : Int))) (fun hb => ?_) (fun hb => ?_)
 rotate_left
 ·rw [if_neg (of_decide_eq_false hb)] at h
  refine HO.fin' 24 ?_
  exact H.ren' hS [] (toInt_L1_ok (x, false) r h W0 w0 S hS)
 rw [if_pos (of_decide_eq_true hb)] at h
 refine HO.go' 1 ?_
 obtain ⟨y1, hy, h⟩ := bindS h
 refine HO.idx (.int .u8 y1) hy rfl (by kernel_rfl) ?_
 refine HO.go' 2 ?_
 refine HO.bo' (decide (y1 = 0)) (fun hb => ?_) (fun hb => ?_)
 rotate_left
 ·rw [if_neg (of_decide_eq_false hb)] at h
  refine HO.go' 7 ?_
  obtain ⟨y5, hy, h⟩ := bindS h
  refine HO.idx (.int .u8 y5) hy rfl (by kernel_rfl) ?_
  refine HO.go' 2 ?_
  refine HO.bo' (decide (y5 = 255)) (fun hb => ?_) (fun hb => ?_)
  rotate_left
  ·rw [if_neg (of_decide_eq_false hb)] at h
   refine HO.fin' 8 ?_
   exact H.ren' hS [] (toInt_L1_ok (x, false) r h W0 w0 S hS)
  rw [if_pos (of_decide_eq_true hb)] at h
  refine HO.go' 1 ?_
  obtain ⟨y6, hy, h⟩ := bindS h
  refine HO.idx (.int .u8 y6) hy rfl (by kernel_rfl) ?_
  refine HO.fin' 6 ?_
  exact H.ren' hS [] (toInt_L1_ok (x, (decide (128 ≤ y6))) r h W0 w0 S hS)
 rw [if_pos (of_decide_eq_true hb)] at h
 refine HO.go' 1 ?_
 obtain ⟨y2, hy, h⟩ := bindS h
 refine HO.idx (.int .u8 y2) hy rfl (by kernel_rfl) ?_
 refine HO.go' 3 ?_
 refine HO.bo' (decide (y2 < 128)) (fun hb => ?_) (fun hb => ?_)
 ·rw [if_pos (of_decide_eq_true hb)] at h
  refine HO.fin' 13 ?_
  exact H.ren' hS [] (toInt_L1_ok (x, true) r h W0 w0 S hS)
 rw [if_neg (of_decide_eq_false hb)] at h
 refine HO.go' 1 ?_
 obtain ⟨y3, hy, h⟩ := bindS h
 refine HO.idx (.int .u8 y3) hy rfl (by kernel_rfl) ?_
 refine HO.go' 2 ?_
 refine HO.bo' (decide (y3 = 255)) (fun hb => ?_) (fun hb => ?_)
 rotate_left
 ·rw [if_neg (of_decide_eq_false hb)] at h
  refine HO.fin' 8 ?_
  exact H.ren' hS [] (toInt_L1_ok (x, false) r h W0 w0 S hS)
 rw [if_pos (of_decide_eq_true hb)] at h
 refine HO.go' 1 ?_
 obtain ⟨y4, hy, h⟩ := bindS h
 refine HO.idx (.int .u8 y4) hy rfl (by kernel_rfl) ?_
 refine HO.fin' 6 ?_
 exact H.ren' hS [] (toInt_L1_ok (x, (decide (128 ≤ y4))) r h W0 w0 S hS)
def valueC_L1 (x : Int × Bool) : Option (Int × Bool) :=
 if x.2 = true then
  some (0, false)
 else
  some (x.1, true)
theorem valueC_L1_ok : ∀ (x : Int × Bool) (r : Int × Bool), valueC_L1 x = some r → ∀ (W0 w0 : World) (S : Own), Std W0 w0 S 0 → H Tryz.prog w0 S 49 (cR (cL (cR (cR (cB Tryz.f55))))) (mkS [(12, .int .i64 x.1), (47, .bool x.2)] [] 0 []) (Kseq Tryz.prog w0 S 49 (cR (cR (cR (cB Tryz.f55)))) (KEnd Tryz.prog Tryz.f55 (PEnd w0 S (.returned (.tuple #[.int .i64 r.1, .bool r.2]))))) := by
 intro x r h
 unfold valueC_L1 at h
 intro W0 w0 S hS
 haveI := hS.noEx Tryz.prog
 refine H.cS' (x.2) (fun hb => ?_) (fun hb => ?_)
 ·rw [if_pos hb] at h
  refine H.sr' 2 ?_
  refine H.ret' ?_
  refine Kseq_ret ?_
  obtain rfl := Option.some.inj h
  exact KEnd.r'
 rw [if_neg (ne_true hb)] at h
 refine H.skp' ?_
 refine Kseq_norm ?_
 refine H.sr' 3 ?_
 refine H.ret' ?_
 obtain rfl := Option.some.inj h
 exact KEnd.r'
def valueC (x : Int × Int × Bool × (List Int) × (List S41) × Int × Int × Int × Int) : Option (Int × Bool) :=
 (toInt x.2.2.2.1) >>= fun y1 =>
 if (!decide (y1.2 = 0)) = true then
  valueC_L1 (y1.1, true)
 else
  if x.2.2.1 = true then
   valueC_L1 (y1.1, true)
  else
   if (!decide (x.1 = x.2.2.2.2.2.1)) = true then
    valueC_L1 (y1.1, true)
   else
    if (!decide (x.2.1 = x.2.2.2.2.2.2.1)) = true then
     valueC_L1 (y1.1, true)
    else
     if y1.1 < x.2.2.2.2.2.2.2.1 then
      valueC_L1 (y1.1, true)
     else
      valueC_L1 (y1.1, (decide (x.2.2.2.2.2.2.2.2 < y1.1)))
theorem valueC_ok : ∀ (x : Int × Int × Bool × (List Int) × (List S41) × Int × Int × Int × Int) (r : Int × Bool), valueC x = some r → ∀ W0 : World, PTo Tryz.prog W0 55 #[.agg #[.int .u8 x.1, .int .u32 x.2.1, .bool x.2.2.1, ls 1 false (encI .u8) x.2.2.2.1, ls 5 false enc41 x.2.2.2.2.1], .int .u8 x.2.2.2.2.2.1, .int .u32 x.2.2.2.2.2.2.1, .int .i64 x.2.2.2.2.2.2.2.1, .int .i64 x.2.2.2.2.2.2.2.2] (.returned (.tuple #[.int .i64 r.1, .bool r.2])) := by
 intro x r h
 unfold valueC at h
 intro W0
 refine PTo.of_body (fn := Tryz.f55) (code := cB Tryz.f55) Tryz.func55 rfl rfl ?_
 intro w0 S hS
 haveI := hS.noEx Tryz.prog
 refine H.sr' 3 ?_
 refine H.sg' ?_
 refine HO.go' 2 ?_
 obtain ⟨y1, hy, h⟩ := bindS h
 refine HO.callW hS [.list 1 false] (toInt_ok x.2.2.2.1 y1 hy W0) (by kernel_rfl) (by kernel_rfl) ?_
 refine HO.fin' 5 ?_
 refine H.seq' ?_
 refine H.sg' ?_
 refine HO.go' 2 ?_
 refine HO.bo' (!decide (y1.2 = 0)) (fun hb => ?_) (fun hb => ?_)
 ·rw [if_pos hb] at h
  refine HO.fin' 25 ?_
  exact H.ren' hS [] (valueC_L1_ok (y1.1, true) r h W0 w0 S hS)
 rw [if_neg (ne_true hb)] at h
 refine HO.go' 3 ?_
 refine HO.bo' x.2.2.1 (fun hb => ?_) (fun hb => ?_)
 ·rw [if_pos hb] at h
  refine HO.fin' 21 ?_
  exact H.ren' hS [] (valueC_L1_ok (y1.1, true) r h W0 w0 S hS)
 rw [if_neg (ne_true hb)] at h
 refine HO.go' 5 ?_
 refine HO.bo' (!decide (x.1 = x.2.2.2.2.2.1)) (fun hb => ?_) (fun hb => ?_)
 ·rw [if_pos hb] at h
  refine HO.fin' 15 ?_
  exact H.ren' hS [] (valueC_L1_ok (y1.1, true) r h W0 w0 S hS)
 rw [if_neg (ne_true hb)] at h
 refine HO.go' 5 ?_
 refine HO.bo' (!decide (x.2.1 = x.2.2.2.2.2.2.1)) (fun hb => ?_) (fun hb => ?_)
 ·rw [if_pos hb] at h
  refine HO.fin' 9 ?_
  exact H.ren' hS [] (valueC_L1_ok (y1.1, true) r h W0 w0 S hS)
 rw [if_neg (ne_true hb)] at h
 refine HO.go' 4 ?_
 refine HO.bo' (decide (y1.1 < x.2.2.2.2.2.2.2.1)) (fun hb => ?_) (fun hb => ?_)
 ·rw [if_pos (of_decide_eq_true hb)] at h
  refine HO.fin' 4 ?_
  exact H.ren' hS [] (valueC_L1_ok (y1.1, true) r h W0 w0 S hS)
 rw [if_neg (of_decide_eq_false hb)] at h
 refine HO.fin' 4 ?_
 exact H.ren' hS [] (valueC_L1_ok (y1.1, (decide (x.2.2.2.2.2.2.2.2 < y1.1))) r h W0 w0 S hS)
def takeF_L1 (x : Int × Bool × (List S41)) : Option (Int × Bool × (List S41)) :=
 some (x.1, x.2.1, x.2.2)
theorem takeF_L1_ok : ∀ (x : Int × Bool × (List S41)) (r : Int × Bool × (List S41)), takeF_L1 x = some r → ∀ (W0 w0 : World) (S : Own), Std W0 w0 S 1 → H Tryz.prog w0 S 32 (cR (cR (cR (cR (cB Tryz.f94))))) (mkS [(11, .int .i64 x.1), (12, .bool x.2.1)] [(0, .cells [ls 5 false enc41 x.2.2] 39 1)] 1 []) (KEnd Tryz.prog Tryz.f94 (FEnd w0 S (.returned (.tuple #[.int .i64 r.1, .bool r.2.1])) (mkW 1 [] [(0, .cells [ls 5 false enc41 r.2.2] 39 1)]))) := by
 intro x r h
 unfold takeF_L1 at h
 intro W0 w0 S hS
 haveI := hS.noEx Tryz.prog
 refine H.sr' 4 ?_
 refine H.ret' ?_
 obtain rfl := Option.some.inj h
 exact KEnd.of (v := .tuple #[.int .i64 x.1, .bool x.2.1]) (by kernel_rfl) (by kernel_rfl) (FEnd.ren hS [0] _ _ (by kernel_rfl))
def takeF (x : Int × Int × Int × Int × (List S41)) : Option (Int × Bool × (List S41)) :=
 if (x.2.2.2.2.length : Int) = 0 then
  some (0, false, x.2.2.2.2)
 else
  (at' x.2.2.2.2 0) >>= fun y1 =>
  (valueC (y1.c0, y1.c1, y1.c2, y1.c3, y1.c4, x.1, x.2.1, x.2.2.1, x.2.2.2.1)) >>= fun y2 =>
  if y2.2 = true then
   (sub' x.2.2.2.2 1 (x.2.2.2.2.length : Int)) >>= fun y3 =>
   takeF_L1 (y2.1, y2.2, y3)
  else
   takeF_L1 (y2.1, y2.2, x.2.2.2.2)
theorem takeF_ok : ∀ (x : Int × Int × Int × Int × (List S41)) (r : Int × Bool × (List S41)), takeF x = some r → ∀ W0 : World, FTo Tryz.prog W0 94 #[.int .u8 x.1, .int .u32 x.2.1, .int .i64 x.2.2.1, .int .i64 x.2.2.2.1, .pointer (some ⟨0, 0, none⟩)] (mkW 1 [] [(0, .cells [ls 5 false enc41 x.2.2.2.2] 39 1)]) (.returned (.tuple #[.int .i64 r.1, .bool r.2.1])) (mkW 1 [] [(0, .cells [ls 5 false enc41 r.2.2] 39 1)]) := by
 intro x r h
 unfold takeF at h
 intro W0
 refine FTo.of_body (fn := Tryz.f94) (code := cB Tryz.f94) Tryz.func94 rfl rfl ?_
 intro w0 S hS
 haveI := hS.noEx Tryz.prog
 refine H.sr' 2 ?_
 refine H.seq' ?_
 refine H.sg' ?_
 refine HO.go' 1 ?_
 refine HO.len (by kernel_rfl) (by kernel_rfl) (ls_size enc41 x.2.2.2.2) ?_
 refine HO.fin' 1 ?_
 refine H.cS' (decide ((x.2.2.2.2.length : Int) = 0)) (fun hb => ?_) (fun hb => ?_)
 ·rw [if_pos (of_decide_eq_true hb)] at h
  refine H.sr' 2 ?_
  refine H.ret' ?_
  refine Kseq_ret ?_
  obtain rfl := Option.some.inj h
  exact KEnd.of (v := .tuple #[.int .i64 0, .bool false]) (by kernel_rfl) (by kernel_rfl) (FEnd.ren hS [0] _ _ (by kernel_rfl))
 rw [if_neg (of_decide_eq_false hb)] at h
 refine H.skp' ?_
 refine Kseq_norm ?_
 refine H.sg' ?_
 refine HO.go' 1 ?_
 obtain ⟨y1, hy, h⟩ := bindS h
 refine HO.idx (.agg #[.int .u8 y1.c0, .int .u32 y1.c1, .bool y1.c2, ls 1 false (encI .u8) y1.c3, ls 5 false enc41 y1.c4]) hy (enc41_eq y1) (by kernel_rfl) ?_
 refine HO.go' 5 ?_
 obtain ⟨y2, hy, h⟩ := bindS h
 refine HO.callW hS [.agg [.keep, .keep, .keep, .list 1 false, .list 5 false], .keep, .keep, .keep, .keep] (valueC_ok (y1.c0, y1.c1, y1.c2, y1.c3, y1.c4, x.1, x.2.1, x.2.2.1, x.2.2.2.1) y2 hy W0) (by kernel_rfl) (by kernel_rfl) ?_
 refine HO.fin' 5 ?_
 refine H.seq' ?_
 refine H.sr' 1 ?_
 refine H.cS' (y2.2) (fun hb => ?_) (fun hb => ?_)
 rotate_left
 ·rw [if_neg (ne_true hb)] at h
  refine H.skp' ?_
  refine Kseq_norm ?_
  exact H.ren' hS [0] (takeF_L1_ok (y2.1, y2.2, x.2.2.2.2) r h W0 w0 S hS)
 rw [if_pos hb] at h
 refine H.reg' ?_
 refine HO.go' 1 ?_
 obtain ⟨y3, hy, h⟩ := bindS h
 refine HO.valA (sl1_aop (enc := enc41) (k := 5) (j := .i64) false hy (by kernel_rfl)) ?_
 refine HO.fin' 1 ?_
 exact H.ren' hS [0] (takeF_L1_ok (y2.1, y2.2, y3) r h W0 w0 S hS)
def bytesEqual (x : (List Int) × (List Int)) : Option (Bool) :=
 some (strEq (bytesU x.1) (bytesU x.2))
theorem bytesEqual_ok : ∀ (x : (List Int) × (List Int)) (r : Bool), bytesEqual x = some r → ∀ W0 : World, PTo Tryz.prog W0 106 #[ls 1 false (encI .u8) x.1, ls 1 false (encI .u8) x.2] (.returned (.bool r)) := by
 intro x r h
 unfold bytesEqual at h
 intro W0
 refine PTo.of_body (fn := Tryz.f106) (code := cB Tryz.f106) Tryz.func106 rfl rfl ?_
 intro w0 S hS
 haveI := hS.noEx Tryz.prog
 refine H.sr' 1 ?_
 refine H.sg' ?_
 refine HO.go' 1 ?_
 refine HO.valA (str_aop x.1 (by kernel_rfl)) ?_
 refine HO.go' 1 ?_
 refine HO.valA (str_aop x.2 (by kernel_rfl)) ?_
 refine HO.fin' 2 ?_
 refine H.ret' ?_
 obtain rfl := Option.some.inj h
 exact KEnd.r'
def sameI_L1 (x : Bool) : Option (Bool) :=
 some x
theorem sameI_L1_ok : ∀ (x : Bool) (r : Bool), sameI_L1 x = some r → ∀ (W0 w0 : World) (S : Own), Std W0 w0 S 0 → H Tryz.prog w0 S 38 (cR (cR (cB Tryz.f77))) (mkS [(4, .bool x)] [] 0 []) (KEnd Tryz.prog Tryz.f77 (PEnd w0 S (.returned (.bool r)))) := by
 intro x r h
 unfold sameI_L1 at h
 intro W0 w0 S hS
 haveI := hS.noEx Tryz.prog
 refine H.ret' ?_
 obtain rfl := Option.some.inj h
 exact KEnd.r'
mutual
def sameI (x : Int × Int × Bool × (List Int) × (List S41) × Int × Int × Bool × (List Int) × (List S41)) : Option (Bool) :=
 if x.1 = x.2.2.2.2.2.1 then
  if x.2.1 = x.2.2.2.2.2.2.1 then
   if (x.2.2.1 == x.2.2.2.2.2.2.2.1) = true then
    (bytesEqual (x.2.2.2.1, x.2.2.2.2.2.2.2.2.1)) >>= fun y1 =>
    if y1 = true then
     (equalFunc (x.2.2.2.2.1, x.2.2.2.2.2.2.2.2.2)) >>= fun y2 =>
     sameI_L1 y2
    else
     sameI_L1 false
   else
    sameI_L1 false
  else
   sameI_L1 false
 else
  sameI_L1 false
partial_fixpoint
def equalFunc (x : (List S41) × (List S41)) : Option (Bool) :=
 if (!decide ((x.1.length : Int) = (x.2.length : Int))) = true then
  some false
 else
  equalFunc_L1 (x.2, x.1, (x.1.length : Int), 0)
partial_fixpoint
def equalFunc_L1 (x : (List S41) × (List S41) × Int × Int) : Option (Bool) :=
 if x.2.2.2 < x.2.2.1 then
  (at' x.2.1 x.2.2.2) >>= fun y1 =>
  (at' x.1 x.2.2.2) >>= fun y2 =>
  (sameI (y1.c0, y1.c1, y1.c2, y1.c3, y1.c4, y2.c0, y2.c1, y2.c2, y2.c3, y2.c4)) >>= fun y3 =>
  if (!y3) = true then
   some false
  else
   equalFunc_L1 (x.1, x.2.1, x.2.2.1, (IntKind.i64.wrap (x.2.2.2 + 1)))
 else
  some true
partial_fixpoint
end
abbrev T_sameI (x : Int × Int × Bool × (List Int) × (List S41) × Int × Int × Bool × (List Int) × (List S41)) (r : Bool) : Prop := ∀ W0 : World, PTo Tryz.prog W0 77 #[.agg #[.int .u8 x.1, .int .u32 x.2.1, .bool x.2.2.1, ls 1 false (encI .u8) x.2.2.2.1, ls 5 false enc41 x.2.2.2.2.1], .agg #[.int .u8 x.2.2.2.2.2.1, .int .u32 x.2.2.2.2.2.2.1, .bool x.2.2.2.2.2.2.2.1, ls 1 false (encI .u8) x.2.2.2.2.2.2.2.2.1, ls 5 false enc41 x.2.2.2.2.2.2.2.2.2]] (.returned (.bool r))
abbrev T_equalFunc (x : (List S41) × (List S41)) (r : Bool) : Prop := ∀ W0 : World, PTo Tryz.prog W0 107 #[ls 5 false enc41 x.1, ls 5 false enc41 x.2, .func (.func 77) #[] #[]] (.returned (.bool r))
abbrev T_equalFunc_L1 (x : (List S41) × (List S41) × Int × Int) (r : Bool) : Prop := ∀ (W0 w0 : World) (S : Own), Std W0 w0 S 0 → HL Tryz.prog w0 S 32 (cL (cL (cR (cL (cR (cR (cB Tryz.f107))))))) (mkS [(1, ls 5 false enc41 x.1), (2, .func (.func 77) #[] #[]), (15, ls 5 false enc41 x.2.1), (16, .int .i64 x.2.2.1), (17, .int .i64 x.2.2.2)] [] 0 []) (Kblock 0 (Kseq Tryz.prog w0 S 32 (cR (cR (cR (cB Tryz.f107)))) (KEnd Tryz.prog Tryz.f107 (PEnd w0 S (.returned (.bool r))))))
theorem sameI_grp : (∀ x r, sameI x = some r → T_sameI x r) ∧
 (∀ x r, equalFunc x = some r → T_equalFunc x r) ∧
 (∀ x r, equalFunc_L1 x = some r → T_equalFunc_L1 x r) := by
 refine sameI.mutual_partial_correctness T_sameI T_equalFunc T_equalFunc_L1 ?_ ?_ ?_
 ·intro g_equalFunc ih_equalFunc x r h
  intro W0
  refine PTo.of_body (fn := Tryz.f77) (code := cB Tryz.f77) Tryz.func77 rfl rfl ?_
  intro w0 S hS
  haveI := hS.noEx Tryz.prog
  refine H.sr' 3 ?_
  refine H.sg' ?_
  refine HO.go' 5 ?_
  refine HO.bo' (decide (x.1 = x.2.2.2.2.2.1)) (fun hb => ?_) (fun hb => ?_)
  rotate_left
  ·rw [if_neg (of_decide_eq_false hb)] at h
   refine HO.fin' 28 ?_
   exact H.ren' hS [] (sameI_L1_ok false r h W0 w0 S hS)
  rw [if_pos (of_decide_eq_true hb)] at h
  refine HO.go' 6 ?_
  refine HO.bo' (decide (x.2.1 = x.2.2.2.2.2.2.1)) (fun hb => ?_) (fun hb => ?_)
  rotate_left
  ·rw [if_neg (of_decide_eq_false hb)] at h
   refine HO.fin' 21 ?_
   exact H.ren' hS [] (sameI_L1_ok false r h W0 w0 S hS)
  rw [if_pos (of_decide_eq_true hb)] at h
  refine HO.go' 6 ?_
  refine HO.bo' (x.2.2.1 == x.2.2.2.2.2.2.2.1) (fun hb => ?_) (fun hb => ?_)
  rotate_left
  ·rw [if_neg (ne_true hb)] at h
   refine HO.fin' 14 ?_
   exact H.ren' hS [] (sameI_L1_ok false r h W0 w0 S hS)
  rw [if_pos hb] at h
  refine HO.go' 4 ?_
  obtain ⟨y1, hy, h⟩ := bindS h
  refine HO.callW hS [.list 1 false, .list 1 false] (bytesEqual_ok (x.2.2.2.1, x.2.2.2.2.2.2.2.2.1) y1 hy W0) (by kernel_rfl) (by kernel_rfl) ?_
  refine HO.go' 1 ?_
  refine HO.bo' y1 (fun hb => ?_) (fun hb => ?_)
  rotate_left
  ·rw [if_neg (ne_true hb)] at h
   refine HO.fin' 7 ?_
   exact H.ren' hS [] (sameI_L1_ok false r h W0 w0 S hS)
  rw [if_pos hb] at h
  refine HO.go' 4 ?_
  obtain ⟨y2, hy, h⟩ := bindS h
  refine HO.callW hS [.list 5 false, .list 5 false, .keep] (ih_equalFunc (x.2.2.2.2.1, x.2.2.2.2.2.2.2.2.2) y2 hy W0) (by kernel_rfl) (by kernel_rfl) ?_
  refine HO.fin' 2 ?_
  exact H.ren' hS [] (sameI_L1_ok y2 r h W0 w0 S hS)
 ·intro g_equalFunc_L1 ih_equalFunc_L1 x r h
  intro W0
  refine PTo.of_body (fn := Tryz.f107) (code := cB Tryz.f107) Tryz.func107 rfl rfl ?_
  intro w0 S hS
  haveI := hS.noEx Tryz.prog
  refine H.sr' 1 ?_
  refine H.seq' ?_
  refine H.sg' ?_
  refine HO.go' 1 ?_
  refine HO.len (by kernel_rfl) (by kernel_rfl) (ls_size enc41 x.1) ?_
  refine HO.go' 1 ?_
  refine HO.len (by kernel_rfl) (by kernel_rfl) (ls_size enc41 x.2) ?_
  refine HO.fin' 1 ?_
  refine H.cS' (!decide ((x.1.length : Int) = (x.2.length : Int))) (fun hb => ?_) (fun hb => ?_)
  ·rw [if_pos hb] at h
   refine H.sr' 1 ?_
   refine H.ret' ?_
   refine Kseq_ret ?_
   obtain rfl := Option.some.inj h
   exact KEnd.r'
  rw [if_neg (ne_true hb)] at h
  refine H.skp' ?_
  refine Kseq_norm ?_
  refine H.seq' ?_
  refine H.sg' ?_
  refine HO.go' 1 ?_
  refine HO.len (by kernel_rfl) (by kernel_rfl) (ls_size enc41 x.1) ?_
  refine HO.fin' 1 ?_
  refine H.blk' 0 ?_
  refine H.lop' ?_
  exact HL.ren' hS [] (ih_equalFunc_L1 (x.2, x.1, (x.1.length : Int), 0) r h W0 w0 S hS)
 ·intro g_sameI g_equalFunc_L1 ih_sameI ih_equalFunc_L1 x r h
  intro W0 w0 S hS
  haveI := hS.noEx Tryz.prog
  refine HL.round ?_
  refine H.sr' 1 ?_
  refine H.seq' ?_
  refine H.cS' (decide (x.2.2.2 < x.2.2.1)) (fun hb => ?_) (fun hb => ?_)
  rotate_left
  ·rw [if_neg (of_decide_eq_false hb)] at h
   refine H.ext' 0 ?_
   refine Kseq_exit ?_
   refine Kloop_exit ?_
   refine Kblock_hit ?_
   refine Kseq_norm ?_
   refine H.sr' 1 ?_
   refine H.ret' ?_
   obtain rfl := Option.some.inj h
   exact KEnd.r'
  rw [if_pos (of_decide_eq_true hb)] at h
  refine H.skp' ?_
  refine Kseq_norm ?_
  refine H.seq' ?_
  refine H.blk' 1 ?_
  refine H.sg' ?_
  refine HO.go' 1 ?_
  obtain ⟨y1, hy, h⟩ := bindS h
  refine HO.idx (.agg #[.int .u8 y1.c0, .int .u32 y1.c1, .bool y1.c2, ls 1 false (encI .u8) y1.c3, ls 5 false enc41 y1.c4]) hy (enc41_eq y1) (by kernel_rfl) ?_
  refine HO.fin' 4 ?_
  refine H.sg' ?_
  refine HO.go' 2 ?_
  obtain ⟨y2, hy, h⟩ := bindS h
  refine HO.idx (.agg #[.int .u8 y2.c0, .int .u32 y2.c1, .bool y2.c2, ls 1 false (encI .u8) y2.c3, ls 5 false enc41 y2.c4]) hy (enc41_eq y2) (by kernel_rfl) ?_
  refine HO.fin' 3 ?_
  refine H.sg' ?_
  refine HO.go' 3 ?_
  obtain ⟨y3, hy, h⟩ := bindS h
  refine HO.callW hS [.agg [.keep, .keep, .keep, .list 1 false, .list 5 false], .agg [.keep, .keep, .keep, .list 1 false, .list 5 false]] (ih_sameI (y1.c0, y1.c1, y1.c2, y1.c3, y1.c4, y2.c0, y2.c1, y2.c2, y2.c3, y2.c4) y3 hy W0) (by kernel_rfl) (by kernel_rfl) ?_
  refine HO.fin' 1 ?_
  refine H.cS' (!y3) (fun hb => ?_) (fun hb => ?_)
  rotate_left
  ·rw [if_neg (ne_true hb)] at h
   refine H.skp' ?_
   refine Kblock_norm ?_
   refine Kseq_norm ?_
   refine H.reg' ?_
   refine HO.go' 2 ?_
   refine HO.end' ?_
   refine Kloop_norm ?_
   exact HL.ren' hS [] (ih_equalFunc_L1 (x.1, x.2.1, x.2.2.1, (IntKind.i64.wrap (x.2.2.2 + 1))) r h W0 w0 S hS)
  rw [if_pos hb] at h
  refine H.sr' 1 ?_
  refine H.ret' ?_
  refine Kblock_ret ?_
  refine Kseq_ret ?_
  refine Kloop_ret ?_
  refine Kblock_ret ?_
  refine Kseq_ret ?_
  obtain rfl := Option.some.inj h
  exact KEnd.r'
theorem sameI_ok : ∀ x r, sameI x = some r → T_sameI x r := sameI_grp.1
theorem equalFunc_ok : ∀ x r, equalFunc x = some r → T_equalFunc x r := sameI_grp.2.1
theorem equalFunc_L1_ok : ∀ x r, equalFunc_L1 x = some r → T_equalFunc_L1 x r := sameI_grp.2.2
def sameT_L1 (x : Bool) : Option (Bool) :=
 some x
theorem sameT_L1_ok : ∀ (x : Bool) (r : Bool), sameT_L1 x = some r → ∀ (W0 w0 : World) (S : Own), Std W0 w0 S 0 → H Tryz.prog w0 S 18 (cR (cR (cB Tryz.f36))) (mkS [(4, .bool x)] [] 0 []) (KEnd Tryz.prog Tryz.f36 (PEnd w0 S (.returned (.bool r)))) := by
 intro x r h
 unfold sameT_L1 at h
 intro W0 w0 S hS
 haveI := hS.noEx Tryz.prog
 refine H.ret' ?_
 obtain rfl := Option.some.inj h
 exact KEnd.r'
def sameT (x : Int × Int × Bool × (List Int) × (List S41) × Int × Int × Bool × (List Int) × (List S41)) : Option (Bool) :=
 (check (x.1, x.2.1, x.2.2.1, x.2.2.2.1, x.2.2.2.2.1)) >>= fun y1 =>
 if y1 = 0 then
  (check (x.2.2.2.2.2.1, x.2.2.2.2.2.2.1, x.2.2.2.2.2.2.2.1, x.2.2.2.2.2.2.2.2.1, x.2.2.2.2.2.2.2.2.2)) >>= fun y2 =>
  if y2 = 0 then
   (sameI (x.1, x.2.1, x.2.2.1, x.2.2.2.1, x.2.2.2.2.1, x.2.2.2.2.2.1, x.2.2.2.2.2.2.1, x.2.2.2.2.2.2.2.1, x.2.2.2.2.2.2.2.2.1, x.2.2.2.2.2.2.2.2.2)) >>= fun y3 =>
   sameT_L1 y3
  else
   sameT_L1 false
 else
  sameT_L1 false
theorem sameT_ok : ∀ (x : Int × Int × Bool × (List Int) × (List S41) × Int × Int × Bool × (List Int) × (List S41)) (r : Bool), sameT x = some r → ∀ W0 : World, PTo Tryz.prog W0 36 #[.agg #[.int .u8 x.1, .int .u32 x.2.1, .bool x.2.2.1, ls 1 false (encI .u8) x.2.2.2.1, ls 5 false enc41 x.2.2.2.2.1], .agg #[.int .u8 x.2.2.2.2.2.1, .int .u32 x.2.2.2.2.2.2.1, .bool x.2.2.2.2.2.2.2.1, ls 1 false (encI .u8) x.2.2.2.2.2.2.2.2.1, ls 5 false enc41 x.2.2.2.2.2.2.2.2.2]] (.returned (.bool r)) := by
 intro x r h
 unfold sameT at h
 intro W0
 refine PTo.of_body (fn := Tryz.f36) (code := cB Tryz.f36) Tryz.func36 rfl rfl ?_
 intro w0 S hS
 haveI := hS.noEx Tryz.prog
 refine H.sr' 3 ?_
 refine H.sg' ?_
 refine HO.go' 1 ?_
 obtain ⟨y1, hy, h⟩ := bindS h
 refine HO.callW hS [.agg [.keep, .keep, .keep, .list 1 false, .list 5 false]] (check_ok (x.1, x.2.1, x.2.2.1, x.2.2.2.1, x.2.2.2.2.1) y1 hy W0) (by kernel_rfl) (by kernel_rfl) ?_
 refine HO.go' 1 ?_
 refine HO.bo' (decide (y1 = 0)) (fun hb => ?_) (fun hb => ?_)
 rotate_left
 ·rw [if_neg (of_decide_eq_false hb)] at h
  refine HO.fin' 10 ?_
  exact H.ren' hS [] (sameT_L1_ok false r h W0 w0 S hS)
 rw [if_pos (of_decide_eq_true hb)] at h
 refine HO.go' 1 ?_
 obtain ⟨y2, hy, h⟩ := bindS h
 refine HO.callW hS [.agg [.keep, .keep, .keep, .list 1 false, .list 5 false]] (check_ok (x.2.2.2.2.2.1, x.2.2.2.2.2.2.1, x.2.2.2.2.2.2.2.1, x.2.2.2.2.2.2.2.2.1, x.2.2.2.2.2.2.2.2.2) y2 hy W0) (by kernel_rfl) (by kernel_rfl) ?_
 refine HO.go' 2 ?_
 refine HO.bo' (decide (y2 = 0)) (fun hb => ?_) (fun hb => ?_)
 rotate_left
 ·rw [if_neg (of_decide_eq_false hb)] at h
  refine HO.fin' 5 ?_
  exact H.ren' hS [] (sameT_L1_ok false r h W0 w0 S hS)
 rw [if_pos (of_decide_eq_true hb)] at h
 refine HO.go' 2 ?_
 obtain ⟨y3, hy, h⟩ := bindS h
 refine HO.callW hS [.agg [.keep, .keep, .keep, .list 1 false, .list 5 false], .agg [.keep, .keep, .keep, .list 1 false, .list 5 false]] (sameI_ok (x.1, x.2.1, x.2.2.1, x.2.2.2.1, x.2.2.2.2.1, x.2.2.2.2.2.1, x.2.2.2.2.2.2.1, x.2.2.2.2.2.2.2.1, x.2.2.2.2.2.2.2.2.1, x.2.2.2.2.2.2.2.2.2) y3 hy W0) (by kernel_rfl) (by kernel_rfl) ?_
 refine HO.fin' 2 ?_
 exact H.ren' hS [] (sameT_L1_ok y3 r h W0 w0 S hS)
def fieldsC_L3 (x : Bool × Int × Int × Int) : Option (Int × Int × Int × Int × Int × (List Int) × Bool) :=
 some (x.2.1, x.2.2.1, 0, 0, x.2.2.2, [], x.1)
theorem fieldsC_L3_ok : ∀ (x : Bool × Int × Int × Int) (r : Int × Int × Int × Int × Int × (List Int) × Bool), fieldsC_L3 x = some r → ∀ (W0 w0 : World) (S : Own), Std W0 w0 S 0 → H Tryz.prog w0 S 111 (cR (cR (cR (cL (cR (cL (cR (cR (cR (cR (cR (cB Tryz.f54)))))))))))) (mkS [(2, .pointer (some ⟨0, 0, none⟩)), (3, .bool x.1)] [(0, .cells [.int .u8 x.2.1, .int .i64 x.2.2.1, .int .i64 0, .int .i64 0, .int .u8 x.2.2.2, .slice none 0 0] 38 6)] 1 []) (Kseq Tryz.prog w0 S 111 (cR (cR (cR (cR (cR (cR (cB Tryz.f54))))))) (KEnd Tryz.prog Tryz.f54 (PEnd w0 S (.returned (.tuple #[.agg #[.int .u8 r.1, .int .i64 r.2.1, .int .i64 r.2.2.1, .int .i64 r.2.2.2.1, .int .u8 r.2.2.2.2.1, ls 1 false (encI .u8) r.2.2.2.2.2.1], .bool r.2.2.2.2.2.2]))))) := by
 intro x r h
 unfold fieldsC_L3 at h
 intro W0 w0 S hS
 haveI := hS.noEx Tryz.prog
 refine H.ret' ?_
 refine Kseq_ret ?_
 obtain rfl := Option.some.inj h
 exact KEnd.retW (v := .tuple #[.agg #[.int .u8 x.2.1, .int .i64 x.2.2.1, .int .i64 0, .int .i64 0, .int .u8 x.2.2.2, .slice none 0 0], .bool x.1]) (.tuple [.agg [.keep, .keep, .keep, .keep, .keep, .list 1 false], .keep]) (by kernel_rfl) (by kernel_rfl) (by kernel_rfl) (by kernel_rfl)
def fieldsC_L6 (x : Bool × Int × Int × Int × Int × (List Int)) : Option (Int × Int × Int × Int × Int × (List Int) × Bool) :=
 some (x.2.1, x.2.2.1, x.2.2.2.1, x.2.2.2.2.1, 0, x.2.2.2.2.2, x.1)
theorem fieldsC_L6_ok : ∀ (x : Bool × Int × Int × Int × Int × (List Int)) (r : Int × Int × Int × Int × Int × (List Int) × Bool), fieldsC_L6 x = some r → ∀ (W0 w0 : World) (S : Own), Std W0 w0 S 0 → H Tryz.prog w0 S 111 (cR (cR (cR (cR (cR (cR (cR (cR (cR (cR (cR (cR (cR (cB Tryz.f54)))))))))))))) (mkS [(2, .pointer (some ⟨0, 0, none⟩)), (3, .bool x.1)] [(0, .cells [.int .u8 x.2.1, .int .i64 x.2.2.1, .int .i64 x.2.2.2.1, .int .i64 x.2.2.2.2.1, .int .u8 0, ls 1 true (encI .u8) x.2.2.2.2.2] 38 6)] 1 []) (KEnd Tryz.prog Tryz.f54 (PEnd w0 S (.returned (.tuple #[.agg #[.int .u8 r.1, .int .i64 r.2.1, .int .i64 r.2.2.1, .int .i64 r.2.2.2.1, .int .u8 r.2.2.2.2.1, ls 1 false (encI .u8) r.2.2.2.2.2.1], .bool r.2.2.2.2.2.2])))) := by
 intro x r h
 unfold fieldsC_L6 at h
 intro W0 w0 S hS
 haveI := hS.noEx Tryz.prog
 refine H.ret' ?_
 obtain rfl := Option.some.inj h
 exact KEnd.retW (v := .tuple #[.agg #[.int .u8 x.2.1, .int .i64 x.2.2.1, .int .i64 x.2.2.2.1, .int .i64 x.2.2.2.2.1, .int .u8 0, ls 1 true (encI .u8) x.2.2.2.2.2], .bool x.1]) (.tuple [.agg [.keep, .keep, .keep, .keep, .keep, .list 1 false], .keep]) (by kernel_rfl) (by kernel_rfl) (by kernel_rfl) (by kernel_rfl)
def fieldsC_L5 (x : Int × Bool × Int × Int × Int × (List S41)) : Option (Int × Int × Int × Int × Int × (List Int) × Bool) :=
 if x.2.1 = true then
  some (x.2.2.1, x.2.2.2.1, x.2.2.2.2.1, 0, 0, [], false)
 else
  (at' x.2.2.2.2.2 0) >>= fun y8 =>
  (cloneS y8.c3) >>= fun y9 =>
  (clip y9) >>= fun y10 =>
  if y8.c0 = 0 then
   if y8.c1 = 4 then
    fieldsC_L6 ((!y8.c2), x.2.2.1, x.2.2.2.1, x.2.2.2.2.1, x.1, y10)
   else
    fieldsC_L6 (false, x.2.2.1, x.2.2.2.1, x.2.2.2.2.1, x.1, y10)
  else
   fieldsC_L6 (false, x.2.2.1, x.2.2.2.1, x.2.2.2.2.1, x.1, y10)
theorem fieldsC_L5_ok : ∀ (x : Int × Bool × Int × Int × Int × (List S41)) (r : Int × Int × Int × Int × Int × (List Int) × Bool), fieldsC_L5 x = some r → ∀ (W0 w0 : World) (S : Own), Std W0 w0 S 0 → H Tryz.prog w0 S 111 (cR (cL (cR (cR (cR (cR (cR (cR (cR (cR (cB Tryz.f54))))))))))) (mkS [(2, .pointer (some ⟨0, 0, none⟩)), (4, .pointer (some ⟨1, 0, none⟩)), (5, .pointer (some ⟨2, 0, none⟩)), (13, .int .i64 x.1), (85, .bool x.2.1)] [(0, .cells [.int .u8 0, .int .i64 0, .int .i64 0, .int .i64 0, .int .u8 0, .slice none 0 0] 38 6), (1, .cells [.int .u8 x.2.2.1, .int .i64 x.2.2.2.1, .int .i64 x.2.2.2.2.1, .int .i64 0, .int .u8 0, .slice none 0 0] 38 6), (2, .cells [ls 5 false enc41 x.2.2.2.2.2] 39 1)] 3 []) (Kseq Tryz.prog w0 S 111 (cR (cR (cR (cR (cR (cR (cR (cR (cR (cB Tryz.f54)))))))))) (KEnd Tryz.prog Tryz.f54 (PEnd w0 S (.returned (.tuple #[.agg #[.int .u8 r.1, .int .i64 r.2.1, .int .i64 r.2.2.1, .int .i64 r.2.2.2.1, .int .u8 r.2.2.2.2.1, ls 1 false (encI .u8) r.2.2.2.2.2.1], .bool r.2.2.2.2.2.2]))))) := by
 intro x r h
 unfold fieldsC_L5 at h
 intro W0 w0 S hS
 haveI := hS.noEx Tryz.prog
 refine H.cS' (x.2.1) (fun hb => ?_) (fun hb => ?_)
 ·rw [if_pos hb] at h
  refine H.sr' 3 ?_
  refine H.ret' ?_
  refine Kseq_ret ?_
  obtain rfl := Option.some.inj h
  exact KEnd.retW (v := .tuple #[.agg #[.int .u8 x.2.2.1, .int .i64 x.2.2.2.1, .int .i64 x.2.2.2.2.1, .int .i64 0, .int .u8 0, .slice none 0 0], .bool false]) (.tuple [.agg [.keep, .keep, .keep, .keep, .keep, .list 1 false], .keep]) (by kernel_rfl) (by kernel_rfl) (by kernel_rfl) (by kernel_rfl)
 rw [if_neg (ne_true hb)] at h
 refine H.skp' ?_
 refine Kseq_norm ?_
 refine H.sr' 3 ?_
 refine H.sg' ?_
 refine HO.go' 1 ?_
 obtain ⟨y8, hy, h⟩ := bindS h
 refine HO.idx (.agg #[.int .u8 y8.c0, .int .u32 y8.c1, .bool y8.c2, ls 1 false (encI .u8) y8.c3, ls 5 false enc41 y8.c4]) hy (enc41_eq y8) (by kernel_rfl) ?_
 refine HO.fin' 3 ?_
 refine H.sg' ?_
 refine HO.go' 2 ?_
 obtain ⟨y9, hy, h⟩ := bindS h
 refine HO.callW hS [.list 1 false] (cloneS_ok y8.c3 y9 hy W0) (by kernel_rfl) (by kernel_rfl) ?_
 obtain ⟨y10, hy, h⟩ := bindS h
 refine HO.callW hS [.list 1 false] (clip_ok y9 y10 hy W0) (by kernel_rfl) (by kernel_rfl) ?_
 refine HO.fin' 2 ?_
 refine H.seq' ?_
 refine H.drawQ ?_
 refine HQ.go' 4 ?_
 refine HQ.boolP (decide (y8.c0 = 0)) (by kernel_rfl) (by kernel_rfl) (fun hb => ?_) (fun hb => ?_)
 rotate_left
 ·rw [if_neg (of_decide_eq_false hb)] at h
  refine HQ.go' 11 ?_
  refine HQ.done (by kernel_rfl) (by kernel_rfl) (by kernel_rfl) ?_
  refine Kseq_norm ?_
  exact H.ren' hS [0] (fieldsC_L6_ok (false, x.2.2.1, x.2.2.2.1, x.2.2.2.2.1, x.1, y10) r h W0 w0 S hS)
 rw [if_pos (of_decide_eq_true hb)] at h
 refine HQ.go' 4 ?_
 refine HQ.boolP (decide (y8.c1 = 4)) (by kernel_rfl) (by kernel_rfl) (fun hb => ?_) (fun hb => ?_)
 ·rw [if_pos (of_decide_eq_true hb)] at h
  refine HQ.go' 6 ?_
  refine HQ.done (by kernel_rfl) (by kernel_rfl) (by kernel_rfl) ?_
  refine Kseq_norm ?_
  exact H.ren' hS [0] (fieldsC_L6_ok ((!y8.c2), x.2.2.1, x.2.2.2.1, x.2.2.2.2.1, x.1, y10) r h W0 w0 S hS)
 rw [if_neg (of_decide_eq_false hb)] at h
 refine HQ.go' 6 ?_
 refine HQ.done (by kernel_rfl) (by kernel_rfl) (by kernel_rfl) ?_
 refine Kseq_norm ?_
 exact H.ren' hS [0] (fieldsC_L6_ok (false, x.2.2.1, x.2.2.2.1, x.2.2.2.2.1, x.1, y10) r h W0 w0 S hS)
def fieldsC_L4 (x : Int × Int × Int × (List S41)) : Option (Int × Int × Int × Int × Int × (List Int) × Bool) :=
 (takeF (0, 10, 0, 255, x.2.2.2)) >>= fun y7 =>
 if (!y7.2.1) = true then
  fieldsC_L5 (y7.1, true, x.1, x.2.1, x.2.2.1, y7.2.2)
 else
  fieldsC_L5 (y7.1, (!decide ((y7.2.2.length : Int) = 1)), x.1, x.2.1, x.2.2.1, y7.2.2)
theorem fieldsC_L4_ok : ∀ (x : Int × Int × Int × (List S41)) (r : Int × Int × Int × Int × Int × (List Int) × Bool), fieldsC_L4 x = some r → ∀ (W0 w0 : World) (S : Own), Std W0 w0 S 0 → H Tryz.prog w0 S 111 (cR (cR (cR (cR (cR (cR (cR (cB Tryz.f54)))))))) (mkS [(2, .pointer (some ⟨0, 0, none⟩)), (4, .pointer (some ⟨1, 0, none⟩)), (5, .pointer (some ⟨2, 0, none⟩)), (6, .func (.func 94) #[] #[.pointer (some ⟨2, 0, none⟩)])] [(0, .cells [.int .u8 0, .int .i64 0, .int .i64 0, .int .i64 0, .int .u8 0, .slice none 0 0] 38 6), (1, .cells [.int .u8 x.1, .int .i64 x.2.1, .int .i64 x.2.2.1, .int .i64 0, .int .u8 0, .slice none 0 0] 38 6), (2, .cells [ls 5 false enc41 x.2.2.2] 39 1)] 3 []) (KEnd Tryz.prog Tryz.f54 (PEnd w0 S (.returned (.tuple #[.agg #[.int .u8 r.1, .int .i64 r.2.1, .int .i64 r.2.2.1, .int .i64 r.2.2.2.1, .int .u8 r.2.2.2.2.1, ls 1 false (encI .u8) r.2.2.2.2.2.1], .bool r.2.2.2.2.2.2])))) := by
 intro x r h
 unfold fieldsC_L4 at h
 intro W0 w0 S hS
 haveI := hS.noEx Tryz.prog
 refine H.sg' ?_
 refine HO.go' 1 ?_
 obtain ⟨y7, hy, h⟩ := bindS h
 refine HO.callFW hS (.tuple #[.int .i64 y7.1, .bool y7.2.1]) 3 [] [(0, .cells [.int .u8 0, .int .i64 0, .int .i64 0, .int .i64 0, .int .u8 0, .slice none 0 0] 38 6), (1, .cells [.int .u8 x.1, .int .i64 x.2.1, .int .i64 x.2.2.1, .int .i64 0, .int .u8 0, .slice none 0 0] 38 6), (2, .cells [ls 5 false enc41 y7.2.2] 39 1)] [2] [.keep, .keep, .keep, .keep, .keep] (takeF_ok (0, 10, 0, 255, x.2.2.2) y7 hy W0) (by kernel_rfl) (by kernel_rfl) ?_
 refine HO.fin' 5 ?_
 refine H.seq' ?_
 refine H.sg' ?_
 refine HO.go' 2 ?_
 refine HO.bo' (!y7.2.1) (fun hb => ?_) (fun hb => ?_)
 ·rw [if_pos hb] at h
  refine HO.fin' 4 ?_
  exact H.ren' hS [0, 1, 2] (fieldsC_L5_ok (y7.1, true, x.1, x.2.1, x.2.2.1, y7.2.2) r h W0 w0 S hS)
 rw [if_neg (ne_true hb)] at h
 refine HO.go' 1 ?_
 refine HO.len (by kernel_rfl) (by kernel_rfl) (ls_size enc41 y7.2.2) ?_
 refine HO.fin' 2 ?_
 exact H.ren' hS [0, 1, 2] (fieldsC_L5_ok (y7.1, (!decide ((y7.2.2.length : Int) = 1)), x.1, x.2.1, x.2.2.1, y7.2.2) r h W0 w0 S hS)
def fieldsC_L2 (x : Int × Int × (List S41)) : Option (Int × Int × Int × Int × Int × (List Int) × Bool) :=
 if x.1 = 5 then
  (takeF (2, 1, 1, 7, x.2.2)) >>= fun y5 =>
  if y5.2.1 = true then
   fieldsC_L3 ((decide ((y5.2.2.length : Int) = 0)), x.1, x.2.1, (IntKind.u8.wrap y5.1))
  else
   fieldsC_L3 (false, x.1, x.2.1, (IntKind.u8.wrap y5.1))
 else
  if x.1 = 1 then
   (takeF (2, 0, 0, 127, x.2.2)) >>= fun y6 =>
   if y6.2.1 = true then
    fieldsC_L4 (x.1, x.2.1, y6.1, y6.2.2)
   else
    fieldsC_L4 (x.1, x.2.1, (-1), y6.2.2)
  else
   fieldsC_L4 (x.1, x.2.1, 0, x.2.2)
theorem fieldsC_L2_ok : ∀ (x : Int × Int × (List S41)) (r : Int × Int × Int × Int × Int × (List Int) × Bool), fieldsC_L2 x = some r → ∀ (W0 w0 : World) (S : Own), Std W0 w0 S 0 → H Tryz.prog w0 S 111 (cR (cR (cR (cR (cR (cB Tryz.f54)))))) (mkS [(2, .pointer (some ⟨0, 0, none⟩)), (4, .pointer (some ⟨1, 0, none⟩)), (5, .pointer (some ⟨2, 0, none⟩)), (6, .func (.func 94) #[] #[.pointer (some ⟨2, 0, none⟩)])] [(0, .cells [.int .u8 0, .int .i64 0, .int .i64 0, .int .i64 0, .int .u8 0, .slice none 0 0] 38 6), (1, .cells [.int .u8 x.1, .int .i64 x.2.1, .int .i64 0, .int .i64 0, .int .u8 0, .slice none 0 0] 38 6), (2, .cells [ls 5 false enc41 x.2.2] 39 1)] 3 []) (KEnd Tryz.prog Tryz.f54 (PEnd w0 S (.returned (.tuple #[.agg #[.int .u8 r.1, .int .i64 r.2.1, .int .i64 r.2.2.1, .int .i64 r.2.2.2.1, .int .u8 r.2.2.2.2.1, ls 1 false (encI .u8) r.2.2.2.2.2.1], .bool r.2.2.2.2.2.2])))) := by
 intro x r h
 unfold fieldsC_L2 at h
 intro W0 w0 S hS
 haveI := hS.noEx Tryz.prog
 refine H.seq' ?_
 refine H.sr' 3 ?_
 refine H.cS' (decide (x.1 = 5)) (fun hb => ?_) (fun hb => ?_)
 ·rw [if_pos (of_decide_eq_true hb)] at h
  refine H.sg' ?_
  refine HO.go' 1 ?_
  obtain ⟨y5, hy, h⟩ := bindS h
  refine HO.callFW hS (.tuple #[.int .i64 y5.1, .bool y5.2.1]) 3 [] [(0, .cells [.int .u8 0, .int .i64 0, .int .i64 0, .int .i64 0, .int .u8 0, .slice none 0 0] 38 6), (1, .cells [.int .u8 x.1, .int .i64 x.2.1, .int .i64 0, .int .i64 0, .int .u8 0, .slice none 0 0] 38 6), (2, .cells [ls 5 false enc41 y5.2.2] 39 1)] [2] [.keep, .keep, .keep, .keep, .keep] (takeF_ok (2, 1, 1, 7, x.2.2) y5 hy W0) (by kernel_rfl) (by kernel_rfl) ?_
  refine HO.fin' 5 ?_
  refine H.sr' 4 ?_
  refine H.seq' ?_
  refine H.drawQ ?_
  refine HQ.go' 2 ?_
  refine HQ.boolP y5.2.1 (by kernel_rfl) (by kernel_rfl) (fun hb => ?_) (fun hb => ?_)
  rotate_left
  ·rw [if_neg (ne_true hb)] at h
   refine HQ.go' 6 ?_
   refine HQ.done (by kernel_rfl) (by kernel_rfl) (by kernel_rfl) ?_
   refine Kseq_norm ?_
   exact H.ren' hS [0] (fieldsC_L3_ok (false, x.1, x.2.1, (IntKind.u8.wrap y5.1)) r h W0 w0 S hS)
  rw [if_pos hb] at h
  refine HQ.go' 1 ?_
  refine HQ.len (by kernel_rfl) (ls_size enc41 y5.2.2) ?_
  refine HQ.go' 4 ?_
  refine HQ.done (by kernel_rfl) (by kernel_rfl) (by kernel_rfl) ?_
  refine Kseq_norm ?_
  exact H.ren' hS [0] (fieldsC_L3_ok ((decide ((y5.2.2.length : Int) = 0)), x.1, x.2.1, (IntKind.u8.wrap y5.1)) r h W0 w0 S hS)
 rw [if_neg (of_decide_eq_false hb)] at h
 refine H.skp' ?_
 refine Kseq_norm ?_
 refine H.seq' ?_
 refine H.sr' 3 ?_
 refine H.cS' (decide (x.1 = 1)) (fun hb => ?_) (fun hb => ?_)
 rotate_left
 ·rw [if_neg (of_decide_eq_false hb)] at h
  refine H.skp' ?_
  refine Kseq_norm ?_
  exact H.ren' hS [0, 1, 2] (fieldsC_L4_ok (x.1, x.2.1, 0, x.2.2) r h W0 w0 S hS)
 rw [if_pos (of_decide_eq_true hb)] at h
 refine H.sr' 2 ?_
 refine H.sg' ?_
 refine HO.go' 1 ?_
 obtain ⟨y6, hy, h⟩ := bindS h
 refine HO.callFW hS (.tuple #[.int .i64 y6.1, .bool y6.2.1]) 3 [] [(0, .cells [.int .u8 0, .int .i64 0, .int .i64 0, .int .i64 0, .int .u8 0, .slice none 0 0] 38 6), (1, .cells [.int .u8 x.1, .int .i64 x.2.1, .int .i64 (-1), .int .i64 0, .int .u8 0, .slice none 0 0] 38 6), (2, .cells [ls 5 false enc41 y6.2.2] 39 1)] [2] [.keep, .keep, .keep, .keep, .keep] (takeF_ok (2, 0, 0, 127, x.2.2) y6 hy W0) (by kernel_rfl) (by kernel_rfl) ?_
 refine HO.fin' 5 ?_
 refine H.sr' 1 ?_
 refine H.cS' (y6.2.1) (fun hb => ?_) (fun hb => ?_)
 rotate_left
 ·rw [if_neg (ne_true hb)] at h
  refine H.skp' ?_
  refine Kseq_norm ?_
  exact H.ren' hS [0, 1, 2] (fieldsC_L4_ok (x.1, x.2.1, (-1), y6.2.2) r h W0 w0 S hS)
 rw [if_pos hb] at h
 refine H.reg' ?_
 refine HO.fin' 3 ?_
 exact H.ren' hS [0, 1, 2] (fieldsC_L4_ok (x.1, x.2.1, y6.1, y6.2.2) r h W0 w0 S hS)
def fieldsC_L1 (x : Bool × Int × (List S41)) : Option (Int × Int × Int × Int × Int × (List Int) × Bool) :=
 if x.1 = true then
  (sub' x.2.2 1 (x.2.2.length : Int)) >>= fun y4 =>
  fieldsC_L2 (x.2.1, (-1), y4)
 else
  some (x.2.1, (-1), 0, 0, 0, [], false)
theorem fieldsC_L1_ok : ∀ (x : Bool × Int × (List S41)) (r : Int × Int × Int × Int × Int × (List Int) × Bool), fieldsC_L1 x = some r → ∀ (W0 w0 : World) (S : Own), Std W0 w0 S 0 → H Tryz.prog w0 S 111 (cR (cR (cR (cR (cL (cR (cR (cR (cR (cB Tryz.f54)))))))))) (mkS [(2, .pointer (some ⟨0, 0, none⟩)), (4, .pointer (some ⟨1, 0, none⟩)), (5, .pointer (some ⟨2, 0, none⟩)), (6, .func (.func 94) #[] #[.pointer (some ⟨2, 0, none⟩)]), (40, .bool x.1)] [(0, .cells [.int .u8 0, .int .i64 0, .int .i64 0, .int .i64 0, .int .u8 0, .slice none 0 0] 38 6), (1, .cells [.int .u8 x.2.1, .int .i64 (-1), .int .i64 0, .int .i64 0, .int .u8 0, .slice none 0 0] 38 6), (2, .cells [ls 5 false enc41 x.2.2] 39 1)] 3 []) (Kseq Tryz.prog w0 S 111 (cR (cR (cR (cR (cR (cB Tryz.f54)))))) (KEnd Tryz.prog Tryz.f54 (PEnd w0 S (.returned (.tuple #[.agg #[.int .u8 r.1, .int .i64 r.2.1, .int .i64 r.2.2.1, .int .i64 r.2.2.2.1, .int .u8 r.2.2.2.2.1, ls 1 false (encI .u8) r.2.2.2.2.2.1], .bool r.2.2.2.2.2.2]))))) := by
 intro x r h
 unfold fieldsC_L1 at h
 intro W0 w0 S hS
 haveI := hS.noEx Tryz.prog
 refine H.cS' (x.1) (fun hb => ?_) (fun hb => ?_)
 ·rw [if_pos hb] at h
  refine H.reg' ?_
  refine HO.go' 1 ?_
  obtain ⟨y4, hy, h⟩ := bindS h
  refine HO.valA (sl1_aop (enc := enc41) (k := 5) (j := .i64) false hy (by kernel_rfl)) ?_
  refine HO.fin' 1 ?_
  exact H.ren' hS [0, 1, 2] (fieldsC_L2_ok (x.2.1, (-1), y4) r h W0 w0 S hS)
 rw [if_neg (ne_true hb)] at h
 refine H.sr' 3 ?_
 refine H.ret' ?_
 refine Kseq_ret ?_
 obtain rfl := Option.some.inj h
 exact KEnd.retW (v := .tuple #[.agg #[.int .u8 x.2.1, .int .i64 (-1), .int .i64 0, .int .i64 0, .int .u8 0, .slice none 0 0], .bool false]) (.tuple [.agg [.keep, .keep, .keep, .keep, .keep, .list 1 false], .keep]) (by kernel_rfl) (by kernel_rfl) (by kernel_rfl) (by kernel_rfl)
def fieldsC (x : Int × Int × Bool × (List Int) × (List S41)) : Option (Int × Int × Int × Int × Int × (List Int) × Bool) :=
 (takeF (0, 2, 0, 127, x.2.2.2.2)) >>= fun y1 =>
 if y1.2.1 = true then
  fieldsC_L2 ((IntKind.u8.wrap x.2.1), y1.1, y1.2.2)
 else
  if 0 < (y1.2.2.length : Int) then
   (at' y1.2.2 0) >>= fun y2 =>
   (sameT (y2.c0, y2.c1, y2.c2, y2.c3, y2.c4, 0, 5, false, [], [])) >>= fun y3 =>
   fieldsC_L1 (y3, (IntKind.u8.wrap x.2.1), y1.2.2)
  else
   fieldsC_L1 (false, (IntKind.u8.wrap x.2.1), y1.2.2)
theorem fieldsC_ok : ∀ (x : Int × Int × Bool × (List Int) × (List S41)) (r : Int × Int × Int × Int × Int × (List Int) × Bool), fieldsC x = some r → ∀ W0 : World, PTo Tryz.prog W0 54 #[.agg #[.int .u8 x.1, .int .u32 x.2.1, .bool x.2.2.1, ls 1 false (encI .u8) x.2.2.2.1, ls 5 false enc41 x.2.2.2.2]] (.returned (.tuple #[.agg #[.int .u8 r.1, .int .i64 r.2.1, .int .i64 r.2.2.1, .int .i64 r.2.2.2.1, .int .u8 r.2.2.2.2.1, ls 1 false (encI .u8) r.2.2.2.2.2.1], .bool r.2.2.2.2.2.2])) := by
 intro x r h
 unfold fieldsC at h
 intro W0
 refine PTo.of_body (fn := Tryz.f54) (code := cB Tryz.f54) Tryz.func54 rfl rfl ?_
 intro w0 S hS
 haveI := hS.noEx Tryz.prog
 refine H.sr' 3 ?_
 refine H.sr' 6 ?_
 refine H.sr' 4 ?_
 refine H.sr' 2 ?_
 refine H.seq' ?_
 refine H.sg' ?_
 refine HO.go' 1 ?_
 obtain ⟨y1, hy, h⟩ := bindS h
 refine HO.callFW hS (.tuple #[.int .i64 y1.1, .bool y1.2.1]) 4 [] [(0, .cells [.int .u8 x.1, .int .u32 x.2.1, .bool x.2.2.1, ls 1 false (encI .u8) x.2.2.2.1, ls 5 false enc41 x.2.2.2.2] 41 5), (1, .cells [.int .u8 0, .int .i64 0, .int .i64 0, .int .i64 0, .int .u8 0, .slice none 0 0] 38 6), (2, .cells [.int .u8 (IntKind.u8.wrap x.2.1), .int .i64 (-1), .int .i64 0, .int .i64 0, .int .u8 0, .slice none 0 0] 38 6), (3, .cells [ls 5 false enc41 y1.2.2] 39 1)] [3] [.keep, .keep, .keep, .keep, .keep] (takeF_ok (0, 2, 0, 127, x.2.2.2.2) y1 hy W0) (by kernel_rfl) (by kernel_rfl) ?_
 refine HO.fin' 5 ?_
 refine H.sr' 1 ?_
 refine H.cS' (y1.2.1) (fun hb => ?_) (fun hb => ?_)
 ·rw [if_pos hb] at h
  refine H.reg' ?_
  refine HO.fin' 3 ?_
  exact H.ren' hS [1, 2, 3] (fieldsC_L2_ok ((IntKind.u8.wrap x.2.1), y1.1, y1.2.2) r h W0 w0 S hS)
 rw [if_neg (ne_true hb)] at h
 refine H.sg' ?_
 refine HO.go' 1 ?_
 refine HO.len (by kernel_rfl) (by kernel_rfl) (ls_size enc41 y1.2.2) ?_
 refine HO.go' 1 ?_
 refine HO.bo' (decide (0 < (y1.2.2.length : Int))) (fun hb => ?_) (fun hb => ?_)
 rotate_left
 ·rw [if_neg (of_decide_eq_false hb)] at h
  refine HO.fin' 6 ?_
  exact H.ren' hS [1, 2, 3] (fieldsC_L1_ok (false, (IntKind.u8.wrap x.2.1), y1.2.2) r h W0 w0 S hS)
 rw [if_pos (of_decide_eq_true hb)] at h
 refine HO.go' 1 ?_
 obtain ⟨y2, hy, h⟩ := bindS h
 refine HO.idx (.agg #[.int .u8 y2.c0, .int .u32 y2.c1, .bool y2.c2, ls 1 false (encI .u8) y2.c3, ls 5 false enc41 y2.c4]) hy (enc41_eq y2) (by kernel_rfl) ?_
 refine HO.go' 2 ?_
 obtain ⟨y3, hy, h⟩ := bindS h
 refine HO.callW hS [.agg [.keep, .keep, .keep, .list 1 false, .list 5 false], .agg [.keep, .keep, .keep, .list 1 false, .list 5 false]] (sameT_ok (y2.c0, y2.c1, y2.c2, y2.c3, y2.c4, 0, 5, false, [], []) y3 hy W0) (by kernel_rfl) (by kernel_rfl) ?_
 refine HO.fin' 1 ?_
 exact H.ren' hS [1, 2, 3] (fieldsC_L1_ok (y3, (IntKind.u8.wrap x.2.1), y1.2.2) r h W0 w0 S hS)
def cpOf_L7 (x : Int × Int) : Option (Int × Int × Int × Int × Int × (List Int) × Int × Int × Int × Int × Int × (List Int) × Int) :=
 some (0, 0, 0, 0, 0, [], 5, x.1, 0, 0, x.2, [], 4)
theorem cpOf_L7_ok : ∀ (x : Int × Int) (r : Int × Int × Int × Int × Int × (List Int) × Int × Int × Int × Int × Int × (List Int) × Int), cpOf_L7 x = some r → ∀ (W0 w0 : World) (S : Own), Std W0 w0 S 0 → H Tryz.prog w0 S 75 (cR (cR (cR (cR (cR (cR (cR (cB Tryz.f20)))))))) (mkS [(2, .pointer (some ⟨0, 0, none⟩)), (3, .pointer (some ⟨1, 0, none⟩))] [(0, .cells [.int .u8 0, .int .i64 0, .int .i64 0, .int .i64 0, .int .u8 0, .slice none 0 0] 38 6), (1, .cells [.int .u8 5, .int .i64 x.1, .int .i64 0, .int .i64 0, .int .u8 x.2, .slice none 0 0] 38 6)] 2 []) (KEnd Tryz.prog Tryz.f20 (PEnd w0 S (.returned (.tuple #[.agg #[.int .u8 r.1, .int .i64 r.2.1, .int .i64 r.2.2.1, .int .i64 r.2.2.2.1, .int .u8 r.2.2.2.2.1, ls 1 false (encI .u8) r.2.2.2.2.2.1], .agg #[.int .u8 r.2.2.2.2.2.2.1, .int .i64 r.2.2.2.2.2.2.2.1, .int .i64 r.2.2.2.2.2.2.2.2.1, .int .i64 r.2.2.2.2.2.2.2.2.2.1, .int .u8 r.2.2.2.2.2.2.2.2.2.2.1, ls 1 false (encI .u8) r.2.2.2.2.2.2.2.2.2.2.2.1], .int .i64 r.2.2.2.2.2.2.2.2.2.2.2.2])))) := by
 intro x r h
 unfold cpOf_L7 at h
 intro W0 w0 S hS
 haveI := hS.noEx Tryz.prog
 refine H.seq' ?_
 refine H.drawQ ?_
 refine HQ.go' 5 ?_
 refine HQ.done (by kernel_rfl) (by kernel_rfl) (by kernel_rfl) ?_
 refine Kseq_norm ?_
 refine H.ret' ?_
 obtain rfl := Option.some.inj h
 exact KEnd.retW (v := .tuple #[.agg #[.int .u8 0, .int .i64 0, .int .i64 0, .int .i64 0, .int .u8 0, .slice none 0 0], .agg #[.int .u8 5, .int .i64 x.1, .int .i64 0, .int .i64 0, .int .u8 x.2, .slice none 0 0], .int .i64 4]) (.tuple [.agg [.keep, .keep, .keep, .keep, .keep, .list 1 false], .agg [.keep, .keep, .keep, .keep, .keep, .list 1 false], .keep]) (by kernel_rfl) (by kernel_rfl) (by kernel_rfl) (by kernel_rfl)
end Vf
