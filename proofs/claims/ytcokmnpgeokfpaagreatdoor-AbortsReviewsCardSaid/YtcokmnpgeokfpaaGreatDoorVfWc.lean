import Derived.Test.YtcokmnpgeokfpaaGreatDoorVfWb
set_option linter.unusedVariables false
set_option linter.unusedSimpArgs false
set_option maxHeartbeats 4000000
namespace Vf
open Go Go.Vx Go.Proofs
def cpOf_L6 (x : Int × Int × Bool × (List Int) × (List S41) × Int) : Option (Int × Int × Int × Int × Int × (List Int) × Int × Int × Int × Int × Int × (List Int) × Int) :=
 if 0 < (x.2.2.2.2.1.length : Int) then
  (at' x.2.2.2.2.1 0) >>= fun y4 =>
  (valueC (y4.c0, y4.c1, y4.c2, y4.c3, y4.c4, 0, 2, 0, 127)) >>= fun y5 =>
  if y5.2 = true then
   cpOf_L7 (y5.1, x.2.2.2.2.2)
  else
   cpOf_L7 ((-1), x.2.2.2.2.2)
 else
  cpOf_L7 ((-1), x.2.2.2.2.2)
theorem cpOf_L6_ok : ∀ (x : Int × Int × Bool × (List Int) × (List S41) × Int) (r : Int × Int × Int × Int × Int × (List Int) × Int × Int × Int × Int × Int × (List Int) × Int), cpOf_L6 x = some r → ∀ (W0 w0 : World) (S : Own), Std W0 w0 S 0 → H Tryz.prog w0 S 75 (cR (cR (cR (cR (cR (cR (cB Tryz.f20))))))) (mkS [(1, .pointer (some ⟨0, 0, none⟩)), (2, .pointer (some ⟨1, 0, none⟩)), (3, .pointer (some ⟨2, 0, none⟩))] [(0, .cells [.int .u8 x.1, .int .u32 x.2.1, .bool x.2.2.1, ls 1 false (encI .u8) x.2.2.2.1, ls 5 false enc41 x.2.2.2.2.1] 41 5), (1, .cells [.int .u8 0, .int .i64 0, .int .i64 0, .int .i64 0, .int .u8 0, .slice none 0 0] 38 6), (2, .cells [.int .u8 5, .int .i64 (-1), .int .i64 0, .int .i64 0, .int .u8 x.2.2.2.2.2, .slice none 0 0] 38 6)] 3 []) (KEnd Tryz.prog Tryz.f20 (PEnd w0 S (.returned (.tuple #[.agg #[.int .u8 r.1, .int .i64 r.2.1, .int .i64 r.2.2.1, .int .i64 r.2.2.2.1, .int .u8 r.2.2.2.2.1, ls 1 false (encI .u8) r.2.2.2.2.2.1], .agg #[.int .u8 r.2.2.2.2.2.2.1, .int .i64 r.2.2.2.2.2.2.2.1, .int .i64 r.2.2.2.2.2.2.2.2.1, .int .i64 r.2.2.2.2.2.2.2.2.2.1, .int .u8 r.2.2.2.2.2.2.2.2.2.2.1, ls 1 false (encI .u8) r.2.2.2.2.2.2.2.2.2.2.2.1], .int .i64 r.2.2.2.2.2.2.2.2.2.2.2.2])))) := by
 intro x r h
 unfold cpOf_L6 at h
 intro W0 w0 S hS
 haveI := hS.noEx Tryz.prog
 refine H.seq' ?_
 refine H.sg' ?_
 refine HO.go' 2 ?_
 refine HO.len (by kernel_rfl) (by kernel_rfl) (ls_size enc41 x.2.2.2.2.1) ?_
 refine HO.fin' 1 ?_
 refine H.cS' (decide (0 < (x.2.2.2.2.1.length : Int))) (fun hb => ?_) (fun hb => ?_)
 rotate_left
 ·rw [if_neg (of_decide_eq_false hb)] at h
  refine H.skp' ?_
  refine Kseq_norm ?_
  exact H.ren' hS [1, 2] (cpOf_L7_ok ((-1), x.2.2.2.2.2) r h W0 w0 S hS)
 rw [if_pos (of_decide_eq_true hb)] at h
 refine H.sg' ?_
 refine HO.go' 2 ?_
 obtain ⟨y4, hy, h⟩ := bindS h
 refine HO.idx (.agg #[.int .u8 y4.c0, .int .u32 y4.c1, .bool y4.c2, ls 1 false (encI .u8) y4.c3, ls 5 false enc41 y4.c4]) hy (enc41_eq y4) (by kernel_rfl) ?_
 refine HO.go' 1 ?_
 obtain ⟨y5, hy, h⟩ := bindS h
 refine HO.callW hS [.agg [.keep, .keep, .keep, .list 1 false, .list 5 false], .keep, .keep, .keep, .keep] (valueC_ok (y4.c0, y4.c1, y4.c2, y4.c3, y4.c4, 0, 2, 0, 127) y5 hy W0) (by kernel_rfl) (by kernel_rfl) ?_
 refine HO.fin' 5 ?_
 refine H.sr' 1 ?_
 refine H.cS' (y5.2) (fun hb => ?_) (fun hb => ?_)
 rotate_left
 ·rw [if_neg (ne_true hb)] at h
  refine H.skp' ?_
  refine Kseq_norm ?_
  exact H.ren' hS [1, 2] (cpOf_L7_ok ((-1), x.2.2.2.2.2) r h W0 w0 S hS)
 rw [if_pos hb] at h
 refine H.reg' ?_
 refine HO.fin' 3 ?_
 exact H.ren' hS [1, 2] (cpOf_L7_ok (y5.1, x.2.2.2.2.2) r h W0 w0 S hS)
def cpOf_L5 (x : Bool × Bool × Int × Int × Bool × (List Int) × (List S41)) : Option (Int × Int × Int × Int × Int × (List Int) × Int × Int × Int × Int × Int × (List Int) × Int) :=
 if x.2.1 = true then
  some (0, 0, 0, 0, 0, [], 0, 0, 0, 0, 0, [], 4)
 else
  if (!x.1) = true then
   cpOf_L6 (x.2.2.1, x.2.2.2.1, x.2.2.2.2.1, x.2.2.2.2.2.1, x.2.2.2.2.2.2, 1)
  else
   cpOf_L6 (x.2.2.1, x.2.2.2.1, x.2.2.2.2.1, x.2.2.2.2.2.1, x.2.2.2.2.2.2, 2)
theorem cpOf_L5_ok : ∀ (x : Bool × Bool × Int × Int × Bool × (List Int) × (List S41)) (r : Int × Int × Int × Int × Int × (List Int) × Int × Int × Int × Int × Int × (List Int) × Int), cpOf_L5 x = some r → ∀ (W0 w0 : World) (S : Own), Std W0 w0 S 0 → H Tryz.prog w0 S 75 (cR (cL (cR (cR (cR (cB Tryz.f20)))))) (mkS [(1, .pointer (some ⟨0, 0, none⟩)), (2, .pointer (some ⟨1, 0, none⟩)), (3, .pointer (some ⟨2, 0, none⟩)), (5, .bool x.1), (51, .bool x.2.1)] [(0, .cells [.int .u8 x.2.2.1, .int .u32 x.2.2.2.1, .bool x.2.2.2.2.1, ls 1 false (encI .u8) x.2.2.2.2.2.1, ls 5 false enc41 x.2.2.2.2.2.2] 41 5), (1, .cells [.int .u8 0, .int .i64 0, .int .i64 0, .int .i64 0, .int .u8 0, .slice none 0 0] 38 6), (2, .cells [.int .u8 0, .int .i64 0, .int .i64 0, .int .i64 0, .int .u8 0, .slice none 0 0] 38 6)] 3 []) (Kseq Tryz.prog w0 S 75 (cR (cR (cR (cR (cB Tryz.f20))))) (KEnd Tryz.prog Tryz.f20 (PEnd w0 S (.returned (.tuple #[.agg #[.int .u8 r.1, .int .i64 r.2.1, .int .i64 r.2.2.1, .int .i64 r.2.2.2.1, .int .u8 r.2.2.2.2.1, ls 1 false (encI .u8) r.2.2.2.2.2.1], .agg #[.int .u8 r.2.2.2.2.2.2.1, .int .i64 r.2.2.2.2.2.2.2.1, .int .i64 r.2.2.2.2.2.2.2.2.1, .int .i64 r.2.2.2.2.2.2.2.2.2.1, .int .u8 r.2.2.2.2.2.2.2.2.2.2.1, ls 1 false (encI .u8) r.2.2.2.2.2.2.2.2.2.2.2.1], .int .i64 r.2.2.2.2.2.2.2.2.2.2.2.2]))))) := by
 intro x r h
 unfold cpOf_L5 at h
 intro W0 w0 S hS
 haveI := hS.noEx Tryz.prog
 refine H.cS' (x.2.1) (fun hb => ?_) (fun hb => ?_)
 ·rw [if_pos hb] at h
  refine H.sr' 5 ?_
  refine H.ret' ?_
  refine Kseq_ret ?_
  obtain rfl := Option.some.inj h
  exact KEnd.retW (v := .tuple #[.agg #[.int .u8 0, .int .i64 0, .int .i64 0, .int .i64 0, .int .u8 0, .slice none 0 0], .agg #[.int .u8 0, .int .i64 0, .int .i64 0, .int .i64 0, .int .u8 0, .slice none 0 0], .int .i64 4]) (.tuple [.agg [.keep, .keep, .keep, .keep, .keep, .list 1 false], .agg [.keep, .keep, .keep, .keep, .keep, .list 1 false], .keep]) (by kernel_rfl) (by kernel_rfl) (by kernel_rfl) (by kernel_rfl)
 rw [if_neg (ne_true hb)] at h
 refine H.skp' ?_
 refine Kseq_norm ?_
 refine H.sr' 2 ?_
 refine H.seq' ?_
 refine H.sr' 2 ?_
 refine H.cS' (!x.1) (fun hb => ?_) (fun hb => ?_)
 rotate_left
 ·rw [if_neg (ne_true hb)] at h
  refine H.skp' ?_
  refine Kseq_norm ?_
  exact H.ren' hS [0, 1, 2] (cpOf_L6_ok (x.2.2.1, x.2.2.2.1, x.2.2.2.2.1, x.2.2.2.2.2.1, x.2.2.2.2.2.2, 2) r h W0 w0 S hS)
 rw [if_pos hb] at h
 refine H.reg' ?_
 refine HO.fin' 2 ?_
 exact H.ren' hS [0, 1, 2] (cpOf_L6_ok (x.2.2.1, x.2.2.2.1, x.2.2.2.2.1, x.2.2.2.2.2.1, x.2.2.2.2.2.2, 1) r h W0 w0 S hS)
def cpOf_L4 (x : Bool × Int × Int × Bool × (List Int) × (List S41)) : Option (Int × Int × Int × Int × Int × (List Int) × Int × Int × Int × Int × Int × (List Int) × Int) :=
 if x.1 = true then
  cpOf_L5 (x.1, (decide (x.2.2.1 = 5)), x.2.1, x.2.2.1, x.2.2.2.1, x.2.2.2.2.1, x.2.2.2.2.2)
 else
  cpOf_L5 (x.1, false, x.2.1, x.2.2.1, x.2.2.2.1, x.2.2.2.2.1, x.2.2.2.2.2)
theorem cpOf_L4_ok : ∀ (x : Bool × Int × Int × Bool × (List Int) × (List S41)) (r : Int × Int × Int × Int × Int × (List Int) × Int × Int × Int × Int × Int × (List Int) × Int), cpOf_L4 x = some r → ∀ (W0 w0 : World) (S : Own), Std W0 w0 S 0 → H Tryz.prog w0 S 75 (cR (cR (cR (cB Tryz.f20)))) (mkS [(1, .pointer (some ⟨0, 0, none⟩)), (2, .pointer (some ⟨1, 0, none⟩)), (3, .pointer (some ⟨2, 0, none⟩)), (5, .bool x.1)] [(0, .cells [.int .u8 x.2.1, .int .u32 x.2.2.1, .bool x.2.2.2.1, ls 1 false (encI .u8) x.2.2.2.2.1, ls 5 false enc41 x.2.2.2.2.2] 41 5), (1, .cells [.int .u8 0, .int .i64 0, .int .i64 0, .int .i64 0, .int .u8 0, .slice none 0 0] 38 6), (2, .cells [.int .u8 0, .int .i64 0, .int .i64 0, .int .i64 0, .int .u8 0, .slice none 0 0] 38 6)] 3 []) (KEnd Tryz.prog Tryz.f20 (PEnd w0 S (.returned (.tuple #[.agg #[.int .u8 r.1, .int .i64 r.2.1, .int .i64 r.2.2.1, .int .i64 r.2.2.2.1, .int .u8 r.2.2.2.2.1, ls 1 false (encI .u8) r.2.2.2.2.2.1], .agg #[.int .u8 r.2.2.2.2.2.2.1, .int .i64 r.2.2.2.2.2.2.2.1, .int .i64 r.2.2.2.2.2.2.2.2.1, .int .i64 r.2.2.2.2.2.2.2.2.2.1, .int .u8 r.2.2.2.2.2.2.2.2.2.2.1, ls 1 false (encI .u8) r.2.2.2.2.2.2.2.2.2.2.2.1], .int .i64 r.2.2.2.2.2.2.2.2.2.2.2.2])))) := by
 intro x r h
 unfold cpOf_L4 at h
 intro W0 w0 S hS
 haveI := hS.noEx Tryz.prog
 refine H.seq' ?_
 refine H.sg' ?_
 refine HO.go' 1 ?_
 refine HO.bo' x.1 (fun hb => ?_) (fun hb => ?_)
 ·rw [if_pos hb] at h
  refine HO.fin' 4 ?_
  exact H.ren' hS [0, 1, 2] (cpOf_L5_ok (x.1, (decide (x.2.2.1 = 5)), x.2.1, x.2.2.1, x.2.2.2.1, x.2.2.2.2.1, x.2.2.2.2.2) r h W0 w0 S hS)
 rw [if_neg (ne_true hb)] at h
 refine HO.fin' 4 ?_
 exact H.ren' hS [0, 1, 2] (cpOf_L5_ok (x.1, false, x.2.1, x.2.2.1, x.2.2.2.1, x.2.2.2.2.1, x.2.2.2.2.2) r h W0 w0 S hS)
def cpOf_L3 (x : Bool × Bool × Int × Int × Bool × (List Int) × (List S41) × Int × Int × Int × Int × Int × (List Int)) : Option (Int × Int × Int × Int × Int × (List Int) × Int × Int × Int × Int × Int × (List Int) × Int) :=
 if x.2.1 = true then
  some (x.2.2.2.2.2.2.2.1, x.2.2.2.2.2.2.2.2.1, x.2.2.2.2.2.2.2.2.2.1, x.2.2.2.2.2.2.2.2.2.2.1, x.2.2.2.2.2.2.2.2.2.2.2.1, x.2.2.2.2.2.2.2.2.2.2.2.2, 0, 0, 0, 0, 0, [], 0)
 else
  cpOf_L4 (x.1, x.2.2.1, x.2.2.2.1, x.2.2.2.2.1, x.2.2.2.2.2.1, x.2.2.2.2.2.2.1)
theorem cpOf_L3_ok : ∀ (x : Bool × Bool × Int × Int × Bool × (List Int) × (List S41) × Int × Int × Int × Int × Int × (List Int)) (r : Int × Int × Int × Int × Int × (List Int) × Int × Int × Int × Int × Int × (List Int) × Int), cpOf_L3 x = some r → ∀ (W0 w0 : World) (S : Own), Std W0 w0 S 0 → H Tryz.prog w0 S 75 (cR (cR (cL (cR (cL (cR (cR (cB Tryz.f20)))))))) (mkS [(1, .pointer (some ⟨0, 0, none⟩)), (2, .pointer (some ⟨1, 0, none⟩)), (3, .pointer (some ⟨2, 0, none⟩)), (5, .bool x.1), (6, .pointer (some ⟨3, 0, none⟩)), (43, .bool x.2.1)] [(0, .cells [.int .u8 x.2.2.1, .int .u32 x.2.2.2.1, .bool x.2.2.2.2.1, ls 1 false (encI .u8) x.2.2.2.2.2.1, ls 5 false enc41 x.2.2.2.2.2.2.1] 41 5), (1, .cells [.int .u8 0, .int .i64 0, .int .i64 0, .int .i64 0, .int .u8 0, .slice none 0 0] 38 6), (2, .cells [.int .u8 0, .int .i64 0, .int .i64 0, .int .i64 0, .int .u8 0, .slice none 0 0] 38 6), (3, .cells [.int .u8 x.2.2.2.2.2.2.2.1, .int .i64 x.2.2.2.2.2.2.2.2.1, .int .i64 x.2.2.2.2.2.2.2.2.2.1, .int .i64 x.2.2.2.2.2.2.2.2.2.2.1, .int .u8 x.2.2.2.2.2.2.2.2.2.2.2.1, ls 1 false (encI .u8) x.2.2.2.2.2.2.2.2.2.2.2.2] 38 6)] 4 []) (Kseq Tryz.prog w0 S 75 (cR (cR (cR (cB Tryz.f20)))) (KEnd Tryz.prog Tryz.f20 (PEnd w0 S (.returned (.tuple #[.agg #[.int .u8 r.1, .int .i64 r.2.1, .int .i64 r.2.2.1, .int .i64 r.2.2.2.1, .int .u8 r.2.2.2.2.1, ls 1 false (encI .u8) r.2.2.2.2.2.1], .agg #[.int .u8 r.2.2.2.2.2.2.1, .int .i64 r.2.2.2.2.2.2.2.1, .int .i64 r.2.2.2.2.2.2.2.2.1, .int .i64 r.2.2.2.2.2.2.2.2.2.1, .int .u8 r.2.2.2.2.2.2.2.2.2.2.1, ls 1 false (encI .u8) r.2.2.2.2.2.2.2.2.2.2.2.1], .int .i64 r.2.2.2.2.2.2.2.2.2.2.2.2]))))) := by
 intro x r h
 unfold cpOf_L3 at h
 intro W0 w0 S hS
 haveI := hS.noEx Tryz.prog
 refine H.cS' (x.2.1) (fun hb => ?_) (fun hb => ?_)
 rotate_left
 ·rw [if_neg (ne_true hb)] at h
  refine H.skp' ?_
  refine Kseq_norm ?_
  exact H.ren' hS [0, 1, 2] (cpOf_L4_ok (x.1, x.2.2.1, x.2.2.2.1, x.2.2.2.2.1, x.2.2.2.2.2.1, x.2.2.2.2.2.2.1) r h W0 w0 S hS)
 rw [if_pos hb] at h
 refine H.sr' 5 ?_
 refine H.ret' ?_
 refine Kseq_ret ?_
 obtain rfl := Option.some.inj h
 exact KEnd.retW (v := .tuple #[.agg #[.int .u8 x.2.2.2.2.2.2.2.1, .int .i64 x.2.2.2.2.2.2.2.2.1, .int .i64 x.2.2.2.2.2.2.2.2.2.1, .int .i64 x.2.2.2.2.2.2.2.2.2.2.1, .int .u8 x.2.2.2.2.2.2.2.2.2.2.2.1, ls 1 false (encI .u8) x.2.2.2.2.2.2.2.2.2.2.2.2], .agg #[.int .u8 0, .int .i64 0, .int .i64 0, .int .i64 0, .int .u8 0, .slice none 0 0], .int .i64 0]) (.tuple [.agg [.keep, .keep, .keep, .keep, .keep, .list 1 false], .agg [.keep, .keep, .keep, .keep, .keep, .list 1 false], .keep]) (by kernel_rfl) (by kernel_rfl) (by kernel_rfl) (by kernel_rfl)
def cpOf_L2 (x : Bool × Bool × Int × Int × Bool × (List Int) × (List S41)) : Option (Int × Int × Int × Int × Int × (List Int) × Int × Int × Int × Int × Int × (List Int) × Int) :=
 if x.2.1 = true then
  (fieldsC (x.2.2.1, x.2.2.2.1, x.2.2.2.2.1, x.2.2.2.2.2.1, x.2.2.2.2.2.2)) >>= fun y2 =>
  if y2.2.2.2.2.2.2 = true then
   (cpCheck (y2.1, y2.2.1, y2.2.2.1, y2.2.2.2.1, y2.2.2.2.2.1, y2.2.2.2.2.2.1)) >>= fun y3 =>
   cpOf_L3 (x.1, (decide (y3 = 0)), x.2.2.1, x.2.2.2.1, x.2.2.2.2.1, x.2.2.2.2.2.1, x.2.2.2.2.2.2, y2.1, y2.2.1, y2.2.2.1, y2.2.2.2.1, y2.2.2.2.2.1, y2.2.2.2.2.2.1)
  else
   cpOf_L3 (x.1, false, x.2.2.1, x.2.2.2.1, x.2.2.2.2.1, x.2.2.2.2.2.1, x.2.2.2.2.2.2, y2.1, y2.2.1, y2.2.2.1, y2.2.2.2.1, y2.2.2.2.2.1, y2.2.2.2.2.2.1)
 else
  cpOf_L4 (x.1, x.2.2.1, x.2.2.2.1, x.2.2.2.2.1, x.2.2.2.2.2.1, x.2.2.2.2.2.2)
theorem cpOf_L2_ok : ∀ (x : Bool × Bool × Int × Int × Bool × (List Int) × (List S41)) (r : Int × Int × Int × Int × Int × (List Int) × Int × Int × Int × Int × Int × (List Int) × Int), cpOf_L2 x = some r → ∀ (W0 w0 : World) (S : Own), Std W0 w0 S 0 → H Tryz.prog w0 S 75 (cR (cL (cR (cR (cB Tryz.f20))))) (mkS [(1, .pointer (some ⟨0, 0, none⟩)), (2, .pointer (some ⟨1, 0, none⟩)), (3, .pointer (some ⟨2, 0, none⟩)), (5, .bool x.1), (32, .bool x.2.1)] [(0, .cells [.int .u8 x.2.2.1, .int .u32 x.2.2.2.1, .bool x.2.2.2.2.1, ls 1 false (encI .u8) x.2.2.2.2.2.1, ls 5 false enc41 x.2.2.2.2.2.2] 41 5), (1, .cells [.int .u8 0, .int .i64 0, .int .i64 0, .int .i64 0, .int .u8 0, .slice none 0 0] 38 6), (2, .cells [.int .u8 0, .int .i64 0, .int .i64 0, .int .i64 0, .int .u8 0, .slice none 0 0] 38 6)] 3 []) (Kseq Tryz.prog w0 S 75 (cR (cR (cR (cB Tryz.f20)))) (KEnd Tryz.prog Tryz.f20 (PEnd w0 S (.returned (.tuple #[.agg #[.int .u8 r.1, .int .i64 r.2.1, .int .i64 r.2.2.1, .int .i64 r.2.2.2.1, .int .u8 r.2.2.2.2.1, ls 1 false (encI .u8) r.2.2.2.2.2.1], .agg #[.int .u8 r.2.2.2.2.2.2.1, .int .i64 r.2.2.2.2.2.2.2.1, .int .i64 r.2.2.2.2.2.2.2.2.1, .int .i64 r.2.2.2.2.2.2.2.2.2.1, .int .u8 r.2.2.2.2.2.2.2.2.2.2.1, ls 1 false (encI .u8) r.2.2.2.2.2.2.2.2.2.2.2.1], .int .i64 r.2.2.2.2.2.2.2.2.2.2.2.2]))))) := by
 intro x r h
 unfold cpOf_L2 at h
 intro W0 w0 S hS
 haveI := hS.noEx Tryz.prog
 refine H.cS' (x.2.1) (fun hb => ?_) (fun hb => ?_)
 rotate_left
 ·rw [if_neg (ne_true hb)] at h
  refine H.skp' ?_
  refine Kseq_norm ?_
  exact H.ren' hS [0, 1, 2] (cpOf_L4_ok (x.1, x.2.2.1, x.2.2.2.1, x.2.2.2.2.1, x.2.2.2.2.2.1, x.2.2.2.2.2.2) r h W0 w0 S hS)
 rw [if_pos hb] at h
 refine H.sg' ?_
 refine HO.go' 1 ?_
 obtain ⟨y2, hy, h⟩ := bindS h
 refine HO.callW hS [.agg [.keep, .keep, .keep, .list 1 false, .list 5 false]] (fieldsC_ok (x.2.2.1, x.2.2.2.1, x.2.2.2.2.1, x.2.2.2.2.2.1, x.2.2.2.2.2.2) y2 hy W0) (by kernel_rfl) (by kernel_rfl) ?_
 refine HO.fin' 6 ?_
 refine H.sg' ?_
 refine HO.go' 1 ?_
 refine HO.bo' y2.2.2.2.2.2.2 (fun hb => ?_) (fun hb => ?_)
 rotate_left
 ·rw [if_neg (ne_true hb)] at h
  refine HO.fin' 4 ?_
  exact H.ren' hS [0, 1, 2, 3] (cpOf_L3_ok (x.1, false, x.2.2.1, x.2.2.2.1, x.2.2.2.2.1, x.2.2.2.2.2.1, x.2.2.2.2.2.2, y2.1, y2.2.1, y2.2.2.1, y2.2.2.2.1, y2.2.2.2.2.1, y2.2.2.2.2.2.1) r h W0 w0 S hS)
 rw [if_pos hb] at h
 refine HO.go' 1 ?_
 obtain ⟨y3, hy, h⟩ := bindS h
 refine HO.callW hS [.agg [.keep, .keep, .keep, .keep, .keep, .list 1 false]] (cpCheck_ok (y2.1, y2.2.1, y2.2.2.1, y2.2.2.2.1, y2.2.2.2.2.1, y2.2.2.2.2.2.1) y3 hy W0) (by kernel_rfl) (by kernel_rfl) ?_
 refine HO.fin' 2 ?_
 exact H.ren' hS [0, 1, 2, 3] (cpOf_L3_ok (x.1, (decide (y3 = 0)), x.2.2.1, x.2.2.2.1, x.2.2.2.2.1, x.2.2.2.2.2.1, x.2.2.2.2.2.2, y2.1, y2.2.1, y2.2.2.1, y2.2.2.2.1, y2.2.2.2.2.1, y2.2.2.2.2.2.1) r h W0 w0 S hS)
def cpOf_L1 (x : Bool × Int × Int × Bool × (List Int) × (List S41)) : Option (Int × Int × Int × Int × Int × (List Int) × Int × Int × Int × Int × Int × (List Int) × Int) :=
 if x.1 = true then
  (check (x.2.1, x.2.2.1, x.2.2.2.1, x.2.2.2.2.1, x.2.2.2.2.2)) >>= fun y1 =>
  cpOf_L2 (x.1, (decide (y1 = 0)), x.2.1, x.2.2.1, x.2.2.2.1, x.2.2.2.2.1, x.2.2.2.2.2)
 else
  cpOf_L2 (x.1, false, x.2.1, x.2.2.1, x.2.2.2.1, x.2.2.2.2.1, x.2.2.2.2.2)
theorem cpOf_L1_ok : ∀ (x : Bool × Int × Int × Bool × (List Int) × (List S41)) (r : Int × Int × Int × Int × Int × (List Int) × Int × Int × Int × Int × Int × (List Int) × Int), cpOf_L1 x = some r → ∀ (W0 w0 : World) (S : Own), Std W0 w0 S 0 → H Tryz.prog w0 S 75 (cR (cR (cB Tryz.f20))) (mkS [(1, .pointer (some ⟨0, 0, none⟩)), (2, .pointer (some ⟨1, 0, none⟩)), (3, .pointer (some ⟨2, 0, none⟩)), (5, .bool x.1)] [(0, .cells [.int .u8 x.2.1, .int .u32 x.2.2.1, .bool x.2.2.2.1, ls 1 false (encI .u8) x.2.2.2.2.1, ls 5 false enc41 x.2.2.2.2.2] 41 5), (1, .cells [.int .u8 0, .int .i64 0, .int .i64 0, .int .i64 0, .int .u8 0, .slice none 0 0] 38 6), (2, .cells [.int .u8 0, .int .i64 0, .int .i64 0, .int .i64 0, .int .u8 0, .slice none 0 0] 38 6)] 3 []) (KEnd Tryz.prog Tryz.f20 (PEnd w0 S (.returned (.tuple #[.agg #[.int .u8 r.1, .int .i64 r.2.1, .int .i64 r.2.2.1, .int .i64 r.2.2.2.1, .int .u8 r.2.2.2.2.1, ls 1 false (encI .u8) r.2.2.2.2.2.1], .agg #[.int .u8 r.2.2.2.2.2.2.1, .int .i64 r.2.2.2.2.2.2.2.1, .int .i64 r.2.2.2.2.2.2.2.2.1, .int .i64 r.2.2.2.2.2.2.2.2.2.1, .int .u8 r.2.2.2.2.2.2.2.2.2.2.1, ls 1 false (encI .u8) r.2.2.2.2.2.2.2.2.2.2.2.1], .int .i64 r.2.2.2.2.2.2.2.2.2.2.2.2])))) := by
 intro x r h
 unfold cpOf_L1 at h
 intro W0 w0 S hS
 haveI := hS.noEx Tryz.prog
 refine H.seq' ?_
 refine H.sg' ?_
 refine HO.go' 1 ?_
 refine HO.bo' x.1 (fun hb => ?_) (fun hb => ?_)
 rotate_left
 ·rw [if_neg (ne_true hb)] at h
  refine HO.fin' 4 ?_
  exact H.ren' hS [0, 1, 2] (cpOf_L2_ok (x.1, false, x.2.1, x.2.2.1, x.2.2.2.1, x.2.2.2.2.1, x.2.2.2.2.2) r h W0 w0 S hS)
 rw [if_pos hb] at h
 refine HO.go' 1 ?_
 obtain ⟨y1, hy, h⟩ := bindS h
 refine HO.callW hS [.agg [.keep, .keep, .keep, .list 1 false, .list 5 false]] (check_ok (x.2.1, x.2.2.1, x.2.2.2.1, x.2.2.2.2.1, x.2.2.2.2.2) y1 hy W0) (by kernel_rfl) (by kernel_rfl) ?_
 refine HO.fin' 2 ?_
 exact H.ren' hS [0, 1, 2] (cpOf_L2_ok (x.1, (decide (y1 = 0)), x.2.1, x.2.2.1, x.2.2.2.1, x.2.2.2.2.1, x.2.2.2.2.2) r h W0 w0 S hS)
def cpOf (x : Int × Int × Bool × (List Int) × (List S41)) : Option (Int × Int × Int × Int × Int × (List Int) × Int × Int × Int × Int × Int × (List Int) × Int) :=
 if x.2.2.1 = true then
  if x.1 = 2 then
   if 1 ≤ x.2.1 then
    cpOf_L1 ((decide (x.2.1 ≤ 5)), x.1, x.2.1, x.2.2.1, x.2.2.2.1, x.2.2.2.2)
   else
    cpOf_L1 (false, x.1, x.2.1, x.2.2.1, x.2.2.2.1, x.2.2.2.2)
  else
   cpOf_L1 (false, x.1, x.2.1, x.2.2.1, x.2.2.2.1, x.2.2.2.2)
 else
  cpOf_L1 (false, x.1, x.2.1, x.2.2.1, x.2.2.2.1, x.2.2.2.2)
theorem cpOf_ok : ∀ (x : Int × Int × Bool × (List Int) × (List S41)) (r : Int × Int × Int × Int × Int × (List Int) × Int × Int × Int × Int × Int × (List Int) × Int), cpOf x = some r → ∀ W0 : World, PTo Tryz.prog W0 20 #[.agg #[.int .u8 x.1, .int .u32 x.2.1, .bool x.2.2.1, ls 1 false (encI .u8) x.2.2.2.1, ls 5 false enc41 x.2.2.2.2]] (.returned (.tuple #[.agg #[.int .u8 r.1, .int .i64 r.2.1, .int .i64 r.2.2.1, .int .i64 r.2.2.2.1, .int .u8 r.2.2.2.2.1, ls 1 false (encI .u8) r.2.2.2.2.2.1], .agg #[.int .u8 r.2.2.2.2.2.2.1, .int .i64 r.2.2.2.2.2.2.2.1, .int .i64 r.2.2.2.2.2.2.2.2.1, .int .i64 r.2.2.2.2.2.2.2.2.2.1, .int .u8 r.2.2.2.2.2.2.2.2.2.2.1, ls 1 false (encI .u8) r.2.2.2.2.2.2.2.2.2.2.2.1], .int .i64 r.2.2.2.2.2.2.2.2.2.2.2.2])) := by
 intro x r h
 unfold cpOf at h
 intro W0
 refine PTo.of_body (fn := Tryz.f20) (code := cB Tryz.f20) Tryz.func20 rfl rfl ?_
 intro w0 S hS
 haveI := hS.noEx Tryz.prog
 refine H.sr' 4 ?_
 refine H.sg' ?_
 refine HO.go' 2 ?_
 refine HO.bo' x.2.2.1 (fun hb => ?_) (fun hb => ?_)
 rotate_left
 ·rw [if_neg (ne_true hb)] at h
  refine HO.fin' 15 ?_
  exact H.ren' hS [0, 1, 2] (cpOf_L1_ok (false, x.1, x.2.1, x.2.2.1, x.2.2.2.1, x.2.2.2.2) r h W0 w0 S hS)
 rw [if_pos hb] at h
 refine HO.go' 4 ?_
 refine HO.bo' (decide (x.1 = 2)) (fun hb => ?_) (fun hb => ?_)
 rotate_left
 ·rw [if_neg (of_decide_eq_false hb)] at h
  refine HO.fin' 10 ?_
  exact H.ren' hS [0, 1, 2] (cpOf_L1_ok (false, x.1, x.2.1, x.2.2.1, x.2.2.2.1, x.2.2.2.2) r h W0 w0 S hS)
 rw [if_pos (of_decide_eq_true hb)] at h
 refine HO.go' 4 ?_
 refine HO.bo' (decide (1 ≤ x.2.1)) (fun hb => ?_) (fun hb => ?_)
 ·rw [if_pos (of_decide_eq_true hb)] at h
  refine HO.fin' 5 ?_
  exact H.ren' hS [0, 1, 2] (cpOf_L1_ok ((decide (x.2.1 ≤ 5)), x.1, x.2.1, x.2.2.1, x.2.2.2.1, x.2.2.2.2) r h W0 w0 S hS)
 rw [if_neg (of_decide_eq_false hb)] at h
 refine HO.fin' 5 ?_
 exact H.ren' hS [0, 1, 2] (cpOf_L1_ok (false, x.1, x.2.1, x.2.2.1, x.2.2.2.1, x.2.2.2.2) r h W0 w0 S hS)
def clipC (x : (List S38)) : Option ((List S38)) :=
 (sub' x 0 (x.length : Int)) >>= fun y1 =>
 some y1
theorem clipC_ok : ∀ (x : (List S38)) (r : (List S38)), clipC x = some r → ∀ W0 : World, PTo Tryz.prog W0 52 #[ls 6 false enc38 x] (.returned (ls 6 true enc38 r)) := by
 intro x r h
 unfold clipC at h
 intro W0
 refine PTo.of_body (fn := Tryz.f52) (code := cB Tryz.f52) Tryz.func52 rfl rfl ?_
 intro w0 S hS
 haveI := hS.noEx Tryz.prog
 refine H.sr' 1 ?_
 refine H.sg' ?_
 refine HO.go' 2 ?_
 refine HO.len (by kernel_rfl) (by kernel_rfl) (ls_size enc38 x) ?_
 refine HO.go' 1 ?_
 refine HO.len (by kernel_rfl) (by kernel_rfl) (ls_size enc38 x) ?_
 obtain ⟨y1, hy, h⟩ := bindS h
 refine HO.valA (sl4_aop (enc := enc38) (k := 6) (j := .i64) (j' := .i64) false hy (by kernel_rfl)) ?_
 refine HO.fin' 1 ?_
 refine H.ret' ?_
 obtain rfl := Option.some.inj h
 exact KEnd.retW (v := ls 6 true enc38 y1) (.list 6 true) (by kernel_rfl) (by kernel_rfl) (by kernel_rfl) (by kernel_rfl)
mutual
def review_L3 (x : (List S38) × (List S38) × (List S41) × Int × Int) : Option ((List S38) × (List S38) × Int) :=
 review_L2 (x.1, x.2.1, x.2.2.1, x.2.2.2.1, (IntKind.i64.wrap (x.2.2.2.2 + 1)))
partial_fixpoint
def review_L2 (x : (List S38) × (List S38) × (List S41) × Int × Int) : Option ((List S38) × (List S38) × Int) :=
 if x.2.2.2.2 < x.2.2.2.1 then
  (at' x.2.2.1 x.2.2.2.2) >>= fun y2 =>
  (cpOf (y2.c0, y2.c1, y2.c2, y2.c3, y2.c4)) >>= fun y3 =>
  if y3.2.2.2.2.2.2.2.2.2.2.2.2 = 0 then
   (app' 64 x.1 [(S38.mk y3.1 y3.2.1 y3.2.2.1 y3.2.2.2.1 y3.2.2.2.2.1 y3.2.2.2.2.2.1)]) >>= fun y4 =>
   review_L3 (y4, x.2.1, x.2.2.1, x.2.2.2.1, x.2.2.2.2)
  else
   if y3.2.2.2.2.2.2.1 = 5 then
    (app' 64 x.2.1 [(S38.mk y3.2.2.2.2.2.2.1 y3.2.2.2.2.2.2.2.1 y3.2.2.2.2.2.2.2.2.1 y3.2.2.2.2.2.2.2.2.2.1 y3.2.2.2.2.2.2.2.2.2.2.1 y3.2.2.2.2.2.2.2.2.2.2.2.1)]) >>= fun y5 =>
    review_L3 (x.1, y5, x.2.2.1, x.2.2.2.1, x.2.2.2.2)
   else
    review_L3 (x.1, x.2.1, x.2.2.1, x.2.2.2.1, x.2.2.2.2)
 else
  (clipC x.1) >>= fun y6 =>
  (clipC x.2.1) >>= fun y7 =>
  some (y6, y7, 0)
partial_fixpoint
end
abbrev T_review_L3 (x : (List S38) × (List S38) × (List S41) × Int × Int) (r : (List S38) × (List S38) × Int) : Prop := ∀ (W0 w0 : World) (S : Own), Std W0 w0 S 0 → H Tryz.prog w0 S 75 (cR (cR (cR (cL (cL (cR (cL (cR (cR (cR (cR (cB Tryz.f19)))))))))))) (mkS [(7, tl 6 0 enc38 x.1), (8, tl 6 1 enc38 x.2.1), (43, ls 5 false enc41 x.2.2.1), (44, .int .i64 x.2.2.2.1), (45, .int .i64 x.2.2.2.2)] [] 2 [1, 0]) (Kloop Tryz.prog w0 S 75 (cL (cL (cR (cL (cR (cR (cR (cR (cB Tryz.f19))))))))) (Kblock 1 (Kseq Tryz.prog w0 S 75 (cR (cR (cR (cR (cR (cB Tryz.f19)))))) (KEnd Tryz.prog Tryz.f19 (PEnd w0 S (.returned (.tuple #[ls 6 true enc38 r.1, ls 6 true enc38 r.2.1, .int .i64 r.2.2])))))))
abbrev T_review_L2 (x : (List S38) × (List S38) × (List S41) × Int × Int) (r : (List S38) × (List S38) × Int) : Prop := ∀ (W0 w0 : World) (S : Own), Std W0 w0 S 0 → HL Tryz.prog w0 S 75 (cL (cL (cR (cL (cR (cR (cR (cR (cB Tryz.f19))))))))) (mkS [(7, tl 6 0 enc38 x.1), (8, tl 6 1 enc38 x.2.1), (43, ls 5 false enc41 x.2.2.1), (44, .int .i64 x.2.2.2.1), (45, .int .i64 x.2.2.2.2)] [] 2 [1, 0]) (Kblock 1 (Kseq Tryz.prog w0 S 75 (cR (cR (cR (cR (cR (cB Tryz.f19)))))) (KEnd Tryz.prog Tryz.f19 (PEnd w0 S (.returned (.tuple #[ls 6 true enc38 r.1, ls 6 true enc38 r.2.1, .int .i64 r.2.2]))))))
theorem review_L3_grp : (∀ x r, review_L3 x = some r → T_review_L3 x r) ∧
 (∀ x r, review_L2 x = some r → T_review_L2 x r) := by
 refine review_L3.mutual_partial_correctness T_review_L3 T_review_L2 ?_ ?_
 ·intro g_review_L2 ih_review_L2 x r h
  intro W0 w0 S hS
  haveI := hS.noEx Tryz.prog
  refine H.reg' ?_
  refine HO.go' 2 ?_
  refine HO.end' ?_
  refine Kloop_norm ?_
  exact HL.ren' hS [0, 1] (ih_review_L2 (x.1, x.2.1, x.2.2.1, x.2.2.2.1, (IntKind.i64.wrap (x.2.2.2.2 + 1))) r h W0 w0 S hS)
 ·intro g_review_L3 ih_review_L3 x r h
  intro W0 w0 S hS
  haveI := hS.noEx Tryz.prog
  refine HL.round ?_
  refine H.sr' 1 ?_
  refine H.seq' ?_
  refine H.cS' (decide (x.2.2.2.2 < x.2.2.2.1)) (fun hb => ?_) (fun hb => ?_)
  rotate_left
  ·rw [if_neg (of_decide_eq_false hb)] at h
   refine H.ext' 1 ?_
   refine Kseq_exit ?_
   refine Kloop_exit ?_
   refine Kblock_hit ?_
   refine Kseq_norm ?_
   refine H.sg' ?_
   refine HO.go' 1 ?_
   obtain ⟨y6, hy, h⟩ := bindS h
   refine HO.callW hS [.list 6 false] (clipC_ok x.1 y6 hy W0) (by kernel_rfl) (by kernel_rfl) ?_
   refine HO.go' 1 ?_
   obtain ⟨y7, hy, h⟩ := bindS h
   refine HO.callW hS [.list 6 false] (clipC_ok x.2.1 y7 hy W0) (by kernel_rfl) (by kernel_rfl) ?_
   refine HO.fin' 3 ?_
   refine H.ret' ?_
   obtain rfl := Option.some.inj h
   exact KEnd.retW (v := .tuple #[ls 6 true enc38 y6, ls 6 true enc38 y7, .int .i64 0]) (.tuple [.list 6 true, .list 6 true, .keep]) (by kernel_rfl) (by kernel_rfl) (by kernel_rfl) (by kernel_rfl)
  rw [if_pos (of_decide_eq_true hb)] at h
  refine H.skp' ?_
  refine Kseq_norm ?_
  refine H.seq' ?_
  refine H.blk' 2 ?_
  refine H.sg' ?_
  obtain ⟨y2, hy, h⟩ := bindS h
  refine HO.idx (.agg #[.int .u8 y2.c0, .int .u32 y2.c1, .bool y2.c2, ls 1 false (encI .u8) y2.c3, ls 5 false enc41 y2.c4]) hy (enc41_eq y2) (by kernel_rfl) ?_
  refine HO.fin' 3 ?_
  refine H.sg' ?_
  refine HO.go' 1 ?_
  obtain ⟨y3, hy, h⟩ := bindS h
  refine HO.callW hS [.agg [.keep, .keep, .keep, .list 1 false, .list 5 false]] (cpOf_ok (y2.c0, y2.c1, y2.c2, y2.c3, y2.c4) y3 hy W0) (by kernel_rfl) (by kernel_rfl) ?_
  refine HO.fin' 9 ?_
  refine H.blk' 3 ?_
  refine H.sr' 3 ?_
  refine H.cS' (decide (y3.2.2.2.2.2.2.2.2.2.2.2.2 = 0)) (fun hb => ?_) (fun hb => ?_)
  ·rw [if_pos (of_decide_eq_true hb)] at h
   refine H.reg' ?_
   refine HO.go' 3 ?_
   obtain ⟨y4, hy, h⟩ := bindS h
   refine HO.effA (app1_aop (enc := enc38) (k := 6) true 1 [.int .u8 y3.1, .int .i64 y3.2.1, .int .i64 y3.2.2.1, .int .i64 y3.2.2.2.1, .int .u8 y3.2.2.2.2.1, ls 1 false (encI .u8) y3.2.2.2.2.2.1] [1] hy (by kernel_rfl) (by kernel_rfl) (by simp only [List.map_cons, List.map_nil, enc38_eq]; kernel_rfl)) ?_
   refine HO.go' 1 ?_
   refine HO.end' ?_
   refine Kblock_norm ?_
   refine Kblock_norm ?_
   refine Kseq_norm ?_
   exact H.ren' hS [6, 1] (ih_review_L3 (y4, x.2.1, x.2.2.1, x.2.2.2.1, x.2.2.2.2) r h W0 w0 S hS)
  rw [if_neg (of_decide_eq_false hb)] at h
  refine H.sr' 4 ?_
  refine H.cS' (decide (y3.2.2.2.2.2.2.1 = 5)) (fun hb => ?_) (fun hb => ?_)
  rotate_left
  ·rw [if_neg (of_decide_eq_false hb)] at h
   refine H.skp' ?_
   refine Kblock_norm ?_
   refine Kblock_norm ?_
   refine Kseq_norm ?_
   exact H.ren' hS [0, 1] (ih_review_L3 (x.1, x.2.1, x.2.2.1, x.2.2.2.1, x.2.2.2.2) r h W0 w0 S hS)
  rw [if_pos (of_decide_eq_true hb)] at h
  refine H.reg' ?_
  refine HO.go' 3 ?_
  obtain ⟨y5, hy, h⟩ := bindS h
  refine HO.effA (app1_aop (enc := enc38) (k := 6) true 1 [.int .u8 y3.2.2.2.2.2.2.1, .int .i64 y3.2.2.2.2.2.2.2.1, .int .i64 y3.2.2.2.2.2.2.2.2.1, .int .i64 y3.2.2.2.2.2.2.2.2.2.1, .int .u8 y3.2.2.2.2.2.2.2.2.2.2.1, ls 1 false (encI .u8) y3.2.2.2.2.2.2.2.2.2.2.2.1] [0] hy (by kernel_rfl) (by kernel_rfl) (by simp only [List.map_cons, List.map_nil, enc38_eq]; kernel_rfl)) ?_
  refine HO.go' 1 ?_
  refine HO.end' ?_
  refine Kblock_norm ?_
  refine Kblock_norm ?_
  refine Kseq_norm ?_
  exact H.ren' hS [0, 6] (ih_review_L3 (x.1, y5, x.2.2.1, x.2.2.2.1, x.2.2.2.2) r h W0 w0 S hS)
theorem review_L3_ok : ∀ x r, review_L3 x = some r → T_review_L3 x r := review_L3_grp.1
theorem review_L2_ok : ∀ x r, review_L2 x = some r → T_review_L2 x r := review_L3_grp.2
def review_L1 (x : Bool × Int × Int × Bool × (List Int) × (List S41)) : Option ((List S38) × (List S38) × Int) :=
 if x.1 = true then
  some ([], [], 4)
 else
  if 16 < (x.2.2.2.2.2.length : Int) then
   some ([], [], 3)
  else
   review_L2 ([], [], x.2.2.2.2.2, (x.2.2.2.2.2.length : Int), 0)
theorem review_L1_ok : ∀ (x : Bool × Int × Int × Bool × (List Int) × (List S41)) (r : (List S38) × (List S38) × Int), review_L1 x = some r → ∀ (W0 w0 : World) (S : Own), Std W0 w0 S 0 → H Tryz.prog w0 S 75 (cR (cR (cR (cL (cL (cR (cR (cB Tryz.f19)))))))) (mkS [(5, .pointer (some ⟨0, 0, none⟩)), (23, .bool x.1)] [(0, .cells [.int .u8 x.2.1, .int .u32 x.2.2.1, .bool x.2.2.2.1, ls 1 false (encI .u8) x.2.2.2.2.1, ls 5 false enc41 x.2.2.2.2.2] 41 5)] 1 []) (Kblock 0 (Kseq Tryz.prog w0 S 75 (cR (cR (cR (cB Tryz.f19)))) (KEnd Tryz.prog Tryz.f19 (PEnd w0 S (.returned (.tuple #[ls 6 true enc38 r.1, ls 6 true enc38 r.2.1, .int .i64 r.2.2])))))) := by
 intro x r h
 unfold review_L1 at h
 intro W0 w0 S hS
 haveI := hS.noEx Tryz.prog
 refine H.cS' (x.1) (fun hb => ?_) (fun hb => ?_)
 ·rw [if_pos hb] at h
  refine H.sr' 3 ?_
  refine H.ret' ?_
  refine Kblock_ret ?_
  refine Kseq_ret ?_
  obtain rfl := Option.some.inj h
  exact KEnd.retW (v := .tuple #[.slice none 0 0, .slice none 0 0, .int .i64 4]) (.tuple [.list 6 true, .list 6 true, .keep]) (by kernel_rfl) (by kernel_rfl) (by kernel_rfl) (by kernel_rfl)
 rw [if_neg (ne_true hb)] at h
 refine H.sg' ?_
 refine HO.go' 2 ?_
 refine HO.len (by kernel_rfl) (by kernel_rfl) (ls_size enc41 x.2.2.2.2.2) ?_
 refine HO.fin' 2 ?_
 refine H.cS' (decide (16 < (x.2.2.2.2.2.length : Int))) (fun hb => ?_) (fun hb => ?_)
 ·rw [if_pos (of_decide_eq_true hb)] at h
  refine H.sr' 3 ?_
  refine H.ret' ?_
  refine Kblock_ret ?_
  refine Kseq_ret ?_
  obtain rfl := Option.some.inj h
  exact KEnd.retW (v := .tuple #[.slice none 0 0, .slice none 0 0, .int .i64 3]) (.tuple [.list 6 true, .list 6 true, .keep]) (by kernel_rfl) (by kernel_rfl) (by kernel_rfl) (by kernel_rfl)
 rw [if_neg (of_decide_eq_false hb)] at h
 refine H.skp' ?_
 refine Kblock_norm ?_
 refine Kseq_norm ?_
 refine H.sr' 2 ?_
 refine H.seq' ?_
 refine H.sg' ?_
 refine HO.go' 2 ?_
 refine HO.len (by kernel_rfl) (by kernel_rfl) (ls_size enc41 x.2.2.2.2.2) ?_
 refine HO.fin' 1 ?_
 refine H.blk' 1 ?_
 refine H.lop' ?_
 refine HL.tok 7 6 (es := #[]) (by kernel_rfl) ?_
 refine HL.tok 8 6 (es := #[]) (by kernel_rfl) ?_
 exact HL.ren' hS [1, 2] (review_L2_ok ([], [], x.2.2.2.2.2, (x.2.2.2.2.2.length : Int), 0) r h W0 w0 S hS)
def review (x : (List Int)) : Option ((List S38) × (List S38) × Int) :=
 (decode x) >>= fun y1 =>
 if (!decide (y1.2.2.2.2.2 = 0)) = true then
  some ([], [], y1.2.2.2.2.2)
 else
  if (!y1.2.2.1) = true then
   review_L1 (true, y1.1, y1.2.1, y1.2.2.1, y1.2.2.2.1, y1.2.2.2.2.1)
  else
   if (!decide (y1.1 = 1)) = true then
    review_L1 (true, y1.1, y1.2.1, y1.2.2.1, y1.2.2.2.1, y1.2.2.2.2.1)
   else
    review_L1 ((!decide (y1.2.1 = 1)), y1.1, y1.2.1, y1.2.2.1, y1.2.2.2.1, y1.2.2.2.2.1)
theorem review_ok : ∀ (x : (List Int)) (r : (List S38) × (List S38) × Int), review x = some r → ∀ W0 : World, PTo Tryz.prog W0 19 #[ls 1 false (encI .u8) x] (.returned (.tuple #[ls 6 true enc38 r.1, ls 6 true enc38 r.2.1, .int .i64 r.2.2])) := by
 intro x r h
 unfold review at h
 intro W0
 refine PTo.of_body (fn := Tryz.f19) (code := cB Tryz.f19) Tryz.func19 rfl rfl ?_
 intro w0 S hS
 haveI := hS.noEx Tryz.prog
 refine H.sr' 3 ?_
 refine H.sg' ?_
 refine HO.go' 1 ?_
 obtain ⟨y1, hy, h⟩ := bindS h
 refine HO.callW hS [.list 1 false] (decode_ok x y1 hy W0) (by kernel_rfl) (by kernel_rfl) ?_
 refine HO.fin' 6 ?_
 refine H.seq' ?_
 refine H.blk' 0 ?_
 refine H.sr' 3 ?_
 refine H.cS' (!decide (y1.2.2.2.2.2 = 0)) (fun hb => ?_) (fun hb => ?_)
 ·rw [if_pos hb] at h
  refine H.sr' 4 ?_
  refine H.ret' ?_
  refine Kblock_ret ?_
  refine Kseq_ret ?_
  obtain rfl := Option.some.inj h
  exact KEnd.retW (v := .tuple #[.slice none 0 0, .slice none 0 0, .int .i64 y1.2.2.2.2.2]) (.tuple [.list 6 true, .list 6 true, .keep]) (by kernel_rfl) (by kernel_rfl) (by kernel_rfl) (by kernel_rfl)
 rw [if_neg (ne_true hb)] at h
 refine H.sg' ?_
 refine HO.go' 3 ?_
 refine HO.bo' (!y1.2.2.1) (fun hb => ?_) (fun hb => ?_)
 ·rw [if_pos hb] at h
  refine HO.fin' 10 ?_
  exact H.ren' hS [0] (review_L1_ok (true, y1.1, y1.2.1, y1.2.2.1, y1.2.2.2.1, y1.2.2.2.2.1) r h W0 w0 S hS)
 rw [if_neg (ne_true hb)] at h
 refine HO.go' 4 ?_
 refine HO.bo' (!decide (y1.1 = 1)) (fun hb => ?_) (fun hb => ?_)
 ·rw [if_pos hb] at h
  refine HO.fin' 5 ?_
  exact H.ren' hS [0] (review_L1_ok (true, y1.1, y1.2.1, y1.2.2.1, y1.2.2.2.1, y1.2.2.2.2.1) r h W0 w0 S hS)
 rw [if_neg (ne_true hb)] at h
 refine HO.fin' 5 ?_
 exact H.ren' hS [0] (review_L1_ok ((!decide (y1.2.1 = 1)), y1.1, y1.2.1, y1.2.2.1, y1.2.2.2.1, y1.2.2.2.2.1) r h W0 w0 S hS)
def equalC_L1 (x : Bool) : Option (Bool) :=
 some x
theorem equalC_L1_ok : ∀ (x : Bool) (r : Bool), equalC_L1 x = some r → ∀ (W0 w0 : World) (S : Own), Std W0 w0 S 0 → H Tryz.prog w0 S 47 (cR (cR (cB Tryz.f21))) (mkS [(4, .bool x)] [] 0 []) (KEnd Tryz.prog Tryz.f21 (PEnd w0 S (.returned (.bool r)))) := by
 intro x r h
 unfold equalC_L1 at h
 intro W0 w0 S hS
 haveI := hS.noEx Tryz.prog
 refine H.ret' ?_
 obtain rfl := Option.some.inj h
 exact KEnd.r'
def equalC (x : Int × Int × Int × Int × Int × (List Int) × Int × Int × Int × Int × Int × (List Int)) : Option (Bool) :=
 if x.1 = x.2.2.2.2.2.2.1 then
  if x.2.1 = x.2.2.2.2.2.2.2.1 then
   if x.2.2.1 = x.2.2.2.2.2.2.2.2.1 then
    if x.2.2.2.1 = x.2.2.2.2.2.2.2.2.2.1 then
     if x.2.2.2.2.1 = x.2.2.2.2.2.2.2.2.2.2.1 then
      equalC_L1 (strEq (bytesU x.2.2.2.2.2.1) (bytesU x.2.2.2.2.2.2.2.2.2.2.2))
     else
      equalC_L1 false
    else
     equalC_L1 false
   else
    equalC_L1 false
  else
   equalC_L1 false
 else
  equalC_L1 false
theorem equalC_ok : ∀ (x : Int × Int × Int × Int × Int × (List Int) × Int × Int × Int × Int × Int × (List Int)) (r : Bool), equalC x = some r → ∀ W0 : World, PTo Tryz.prog W0 21 #[.agg #[.int .u8 x.1, .int .i64 x.2.1, .int .i64 x.2.2.1, .int .i64 x.2.2.2.1, .int .u8 x.2.2.2.2.1, ls 1 false (encI .u8) x.2.2.2.2.2.1], .agg #[.int .u8 x.2.2.2.2.2.2.1, .int .i64 x.2.2.2.2.2.2.2.1, .int .i64 x.2.2.2.2.2.2.2.2.1, .int .i64 x.2.2.2.2.2.2.2.2.2.1, .int .u8 x.2.2.2.2.2.2.2.2.2.2.1, ls 1 false (encI .u8) x.2.2.2.2.2.2.2.2.2.2.2]] (.returned (.bool r)) := by
 intro x r h
 unfold equalC at h
 intro W0
 refine PTo.of_body (fn := Tryz.f21) (code := cB Tryz.f21) Tryz.func21 rfl rfl ?_
 intro w0 S hS
 haveI := hS.noEx Tryz.prog
 refine H.sr' 3 ?_
 refine H.sg' ?_
 refine HO.go' 5 ?_
 refine HO.bo' (decide (x.1 = x.2.2.2.2.2.2.1)) (fun hb => ?_) (fun hb => ?_)
 rotate_left
 ·rw [if_neg (of_decide_eq_false hb)] at h
  refine HO.fin' 37 ?_
  exact H.ren' hS [] (equalC_L1_ok false r h W0 w0 S hS)
 rw [if_pos (of_decide_eq_true hb)] at h
 refine HO.go' 6 ?_
 refine HO.bo' (decide (x.2.1 = x.2.2.2.2.2.2.2.1)) (fun hb => ?_) (fun hb => ?_)
 rotate_left
 ·rw [if_neg (of_decide_eq_false hb)] at h
  refine HO.fin' 30 ?_
  exact H.ren' hS [] (equalC_L1_ok false r h W0 w0 S hS)
 rw [if_pos (of_decide_eq_true hb)] at h
 refine HO.go' 6 ?_
 refine HO.bo' (decide (x.2.2.1 = x.2.2.2.2.2.2.2.2.1)) (fun hb => ?_) (fun hb => ?_)
 rotate_left
 ·rw [if_neg (of_decide_eq_false hb)] at h
  refine HO.fin' 23 ?_
  exact H.ren' hS [] (equalC_L1_ok false r h W0 w0 S hS)
 rw [if_pos (of_decide_eq_true hb)] at h
 refine HO.go' 6 ?_
 refine HO.bo' (decide (x.2.2.2.1 = x.2.2.2.2.2.2.2.2.2.1)) (fun hb => ?_) (fun hb => ?_)
 rotate_left
 ·rw [if_neg (of_decide_eq_false hb)] at h
  refine HO.fin' 16 ?_
  exact H.ren' hS [] (equalC_L1_ok false r h W0 w0 S hS)
 rw [if_pos (of_decide_eq_true hb)] at h
 refine HO.go' 6 ?_
 refine HO.bo' (decide (x.2.2.2.2.1 = x.2.2.2.2.2.2.2.2.2.2.1)) (fun hb => ?_) (fun hb => ?_)
 rotate_left
 ·rw [if_neg (of_decide_eq_false hb)] at h
  refine HO.fin' 9 ?_
  exact H.ren' hS [] (equalC_L1_ok false r h W0 w0 S hS)
 rw [if_pos (of_decide_eq_true hb)] at h
 refine HO.go' 2 ?_
 refine HO.valA (str_aop x.2.2.2.2.2.1 (by kernel_rfl)) ?_
 refine HO.go' 2 ?_
 refine HO.valA (str_aop x.2.2.2.2.2.2.2.2.2.2.2 (by kernel_rfl)) ?_
 refine HO.fin' 3 ?_
 exact H.ren' hS [] (equalC_L1_ok (strEq (bytesU x.2.2.2.2.2.1) (bytesU x.2.2.2.2.2.2.2.2.2.2.2)) r h W0 w0 S hS)
def law_L11 (x : Bool) : Option (Bool) :=
 some x
theorem law_L11_ok : ∀ (x : Bool) (r : Bool), law_L11 x = some r → ∀ (W0 w0 : World) (S : Own), Std W0 w0 S 0 → PTo Tryz.prog W0 15 #[] (.returned (.bool true)) → H Tryz.prog w0 S 267 (cR (cL (cR (cL (cR (cR (cR (cR (cR (cR (cR (cR (cR (cR (cR (cR (cB Tryz.f4))))))))))))))))) (mkS [(6, .bool x)] [] 0 []) (Kseq Tryz.prog w0 S 267 (cR (cR (cR (cR (cR (cR (cR (cR (cR (cR (cR (cR (cR (cB Tryz.f4)))))))))))))) (KEnd Tryz.prog Tryz.f4 (PEnd w0 S (.returned (.bool r))))) := by
 intro x r h
 unfold law_L11 at h
 intro W0 w0 S hS
 intro HLV
 haveI := hS.noEx Tryz.prog
 refine H.ret' ?_
 refine Kseq_ret ?_
 obtain rfl := Option.some.inj h
 exact KEnd.r'
def law_L17 (x : Bool) : Option (Bool) :=
 some x
theorem law_L17_ok : ∀ (x : Bool) (r : Bool), law_L17 x = some r → ∀ (W0 w0 : World) (S : Own), Std W0 w0 S 0 → PTo Tryz.prog W0 15 #[] (.returned (.bool true)) → H Tryz.prog w0 S 267 (cR (cR (cR (cR (cR (cR (cR (cR (cR (cR (cR (cR (cR (cR (cR (cR (cR (cB Tryz.f4)))))))))))))))))) (mkS [(6, .bool x)] [] 0 []) (KEnd Tryz.prog Tryz.f4 (PEnd w0 S (.returned (.bool r)))) := by
 intro x r h
 unfold law_L17 at h
 intro W0 w0 S hS
 intro HLV
 haveI := hS.noEx Tryz.prog
 refine H.ret' ?_
 obtain rfl := Option.some.inj h
 exact KEnd.r'
mutual
def law_L15 (x : (List S38) × (List S38) × Int × Int × Int × Bool × Int × (List S41)) : Option (Bool) :=
 if x.2.2.2.2.2.1 = true then
  some false
 else
  law_L16 (x.1, x.2.1, x.2.2.1, (IntKind.i64.wrap (x.2.2.2.1 + 1)), x.2.2.2.2.1, x.2.2.2.2.2.2.1, x.2.2.2.2.2.2.2)
partial_fixpoint
def law_L16 (x : (List S38) × (List S38) × Int × Int × Int × Int × (List S41)) : Option (Bool) :=
 law_L13 (x.1, x.2.1, x.2.2.1, x.2.2.2.1, (IntKind.i64.wrap (x.2.2.2.2.1 + 1)), x.2.2.2.2.2.1, x.2.2.2.2.2.2)
partial_fixpoint
def law_L13 (x : (List S38) × (List S38) × Int × Int × Int × Int × (List S41)) : Option (Bool) :=
 if x.2.2.2.2.1 < (x.2.2.2.2.2.2.length : Int) then
  (at' x.2.2.2.2.2.2 x.2.2.2.2.1) >>= fun y20 =>
  (cpOf (y20.c0, y20.c1, y20.c2, y20.c3, y20.c4)) >>= fun y21 =>
  if y21.2.2.2.2.2.2.2.2.2.2.2.2 = 0 then
   if (x.1.length : Int) ≤ x.2.2.1 then
    law_L14 (x.1, x.2.1, x.2.2.1, x.2.2.2.1, x.2.2.2.2.1, true, x.2.2.2.2.2.1, x.2.2.2.2.2.2)
   else
    (at' x.1 x.2.2.1) >>= fun y22 =>
    (equalC (y22.c0, y22.c1, y22.c2, y22.c3, y22.c4, y22.c5, y21.1, y21.2.1, y21.2.2.1, y21.2.2.2.1, y21.2.2.2.2.1, y21.2.2.2.2.2.1)) >>= fun y23 =>
    law_L14 (x.1, x.2.1, x.2.2.1, x.2.2.2.1, x.2.2.2.2.1, (!y23), x.2.2.2.2.2.1, x.2.2.2.2.2.2)
  else
   if 0 < y21.2.2.2.2.2.2.1 then
    if (x.2.1.length : Int) ≤ x.2.2.2.1 then
     law_L15 (x.1, x.2.1, x.2.2.1, x.2.2.2.1, x.2.2.2.2.1, true, x.2.2.2.2.2.1, x.2.2.2.2.2.2)
    else
     (at' x.2.1 x.2.2.2.1) >>= fun y24 =>
     (equalC (y24.c0, y24.c1, y24.c2, y24.c3, y24.c4, y24.c5, y21.2.2.2.2.2.2.1, y21.2.2.2.2.2.2.2.1, y21.2.2.2.2.2.2.2.2.1, y21.2.2.2.2.2.2.2.2.2.1, y21.2.2.2.2.2.2.2.2.2.2.1, y21.2.2.2.2.2.2.2.2.2.2.2.1)) >>= fun y25 =>
     if (!y25) = true then
      law_L15 (x.1, x.2.1, x.2.2.1, x.2.2.2.1, x.2.2.2.2.1, true, x.2.2.2.2.2.1, x.2.2.2.2.2.2)
     else
      (at' x.2.1 x.2.2.2.1) >>= fun y26 =>
      (cpCheck (y26.c0, y26.c1, y26.c2, y26.c3, y26.c4, y26.c5)) >>= fun y27 =>
      law_L15 (x.1, x.2.1, x.2.2.1, x.2.2.2.1, x.2.2.2.2.1, (!decide (y27 = 0)), x.2.2.2.2.2.1, x.2.2.2.2.2.2)
   else
    law_L16 (x.1, x.2.1, x.2.2.1, x.2.2.2.1, x.2.2.2.2.1, x.2.2.2.2.2.1, x.2.2.2.2.2.2)
 else
  if x.2.2.1 = (x.1.length : Int) then
   if x.2.2.2.1 = (x.2.1.length : Int) then
    law_L17 true
   else
    law_L17 false
  else
   law_L17 false
partial_fixpoint
def law_L14 (x : (List S38) × (List S38) × Int × Int × Int × Bool × Int × (List S41)) : Option (Bool) :=
 if x.2.2.2.2.2.1 = true then
  some false
 else
  law_L16 (x.1, x.2.1, (IntKind.i64.wrap (x.2.2.1 + 1)), x.2.2.2.1, x.2.2.2.2.1, x.2.2.2.2.2.2.1, x.2.2.2.2.2.2.2)
partial_fixpoint
end
abbrev T_law_L15 (x : (List S38) × (List S38) × Int × Int × Int × Bool × Int × (List S41)) (r : Bool) : Prop := ∀ (W0 w0 : World) (S : Own), Std W0 w0 S 0 → PTo Tryz.prog W0 15 #[] (.returned (.bool true)) → H Tryz.prog w0 S 267 (cR (cL (cL (cR (cR (cR (cL (cR (cL (cL (cR (cL (cL (cR (cL (cR (cR (cR (cR (cR (cR (cR (cR (cR (cR (cR (cR (cR (cR (cR (cB Tryz.f4))))))))))))))))))))))))))))))) (mkS [(9, .pointer (some ⟨0, 0, none⟩)), (18, ls 6 true enc38 x.1), (19, ls 6 true enc38 x.2.1), (21, .int .i64 x.2.2.1), (22, .int .i64 x.2.2.2.1), (23, .int .i64 x.2.2.2.2.1), (251, .bool x.2.2.2.2.2.1)] [(0, .cells [.int .u8 1, .int .u32 x.2.2.2.2.2.2.1, .bool true, .slice none 0 0, ls 5 false enc41 x.2.2.2.2.2.2.2] 41 5)] 1 []) (Kseq Tryz.prog w0 S 267 (cR (cL (cR (cR (cR (cL (cR (cL (cL (cR (cL (cL (cR (cL (cR (cR (cR (cR (cR (cR (cR (cR (cR (cR (cR (cR (cR (cR (cR (cB Tryz.f4)))))))))))))))))))))))))))))) (Kblock 9 (Kblock 8 (Kseq Tryz.prog w0 S 267 (cR (cR (cL (cL (cR (cL (cR (cR (cR (cR (cR (cR (cR (cR (cR (cR (cR (cR (cR (cR (cR (cB Tryz.f4)))))))))))))))))))))) (Kloop Tryz.prog w0 S 267 (cL (cL (cR (cL (cR (cR (cR (cR (cR (cR (cR (cR (cR (cR (cR (cR (cR (cR (cR (cB Tryz.f4)))))))))))))))))))) (Kblock 7 (Kseq Tryz.prog w0 S 267 (cR (cR (cR (cR (cR (cR (cR (cR (cR (cR (cR (cR (cR (cR (cR (cR (cB Tryz.f4))))))))))))))))) (KEnd Tryz.prog Tryz.f4 (PEnd w0 S (.returned (.bool r)))))))))))
abbrev T_law_L16 (x : (List S38) × (List S38) × Int × Int × Int × Int × (List S41)) (r : Bool) : Prop := ∀ (W0 w0 : World) (S : Own), Std W0 w0 S 0 → PTo Tryz.prog W0 15 #[] (.returned (.bool true)) → H Tryz.prog w0 S 267 (cR (cR (cL (cL (cR (cL (cR (cR (cR (cR (cR (cR (cR (cR (cR (cR (cR (cR (cR (cR (cR (cB Tryz.f4)))))))))))))))))))))) (mkS [(9, .pointer (some ⟨0, 0, none⟩)), (18, ls 6 true enc38 x.1), (19, ls 6 true enc38 x.2.1), (21, .int .i64 x.2.2.1), (22, .int .i64 x.2.2.2.1), (23, .int .i64 x.2.2.2.2.1)] [(0, .cells [.int .u8 1, .int .u32 x.2.2.2.2.2.1, .bool true, .slice none 0 0, ls 5 false enc41 x.2.2.2.2.2.2] 41 5)] 1 []) (Kloop Tryz.prog w0 S 267 (cL (cL (cR (cL (cR (cR (cR (cR (cR (cR (cR (cR (cR (cR (cR (cR (cR (cR (cR (cB Tryz.f4)))))))))))))))))))) (Kblock 7 (Kseq Tryz.prog w0 S 267 (cR (cR (cR (cR (cR (cR (cR (cR (cR (cR (cR (cR (cR (cR (cR (cR (cB Tryz.f4))))))))))))))))) (KEnd Tryz.prog Tryz.f4 (PEnd w0 S (.returned (.bool r)))))))
abbrev T_law_L13 (x : (List S38) × (List S38) × Int × Int × Int × Int × (List S41)) (r : Bool) : Prop := ∀ (W0 w0 : World) (S : Own), Std W0 w0 S 0 → PTo Tryz.prog W0 15 #[] (.returned (.bool true)) → HL Tryz.prog w0 S 267 (cL (cL (cR (cL (cR (cR (cR (cR (cR (cR (cR (cR (cR (cR (cR (cR (cR (cR (cR (cB Tryz.f4)))))))))))))))))))) (mkS [(9, .pointer (some ⟨0, 0, none⟩)), (18, ls 6 true enc38 x.1), (19, ls 6 true enc38 x.2.1), (21, .int .i64 x.2.2.1), (22, .int .i64 x.2.2.2.1), (23, .int .i64 x.2.2.2.2.1)] [(0, .cells [.int .u8 1, .int .u32 x.2.2.2.2.2.1, .bool true, .slice none 0 0, ls 5 false enc41 x.2.2.2.2.2.2] 41 5)] 1 []) (Kblock 7 (Kseq Tryz.prog w0 S 267 (cR (cR (cR (cR (cR (cR (cR (cR (cR (cR (cR (cR (cR (cR (cR (cR (cB Tryz.f4))))))))))))))))) (KEnd Tryz.prog Tryz.f4 (PEnd w0 S (.returned (.bool r))))))
abbrev T_law_L14 (x : (List S38) × (List S38) × Int × Int × Int × Bool × Int × (List S41)) (r : Bool) : Prop := ∀ (W0 w0 : World) (S : Own), Std W0 w0 S 0 → PTo Tryz.prog W0 15 #[] (.returned (.bool true)) → H Tryz.prog w0 S 267 (cR (cL (cL (cR (cL (cR (cL (cL (cR (cL (cL (cR (cL (cR (cR (cR (cR (cR (cR (cR (cR (cR (cR (cR (cR (cR (cR (cR (cB Tryz.f4))))))))))))))))))))))))))))) (mkS [(9, .pointer (some ⟨0, 0, none⟩)), (18, ls 6 true enc38 x.1), (19, ls 6 true enc38 x.2.1), (21, .int .i64 x.2.2.1), (22, .int .i64 x.2.2.2.1), (23, .int .i64 x.2.2.2.2.1), (224, .bool x.2.2.2.2.2.1)] [(0, .cells [.int .u8 1, .int .u32 x.2.2.2.2.2.2.1, .bool true, .slice none 0 0, ls 5 false enc41 x.2.2.2.2.2.2.2] 41 5)] 1 []) (Kseq Tryz.prog w0 S 267 (cR (cL (cR (cL (cR (cL (cL (cR (cL (cL (cR (cL (cR (cR (cR (cR (cR (cR (cR (cR (cR (cR (cR (cR (cR (cR (cR (cB Tryz.f4)))))))))))))))))))))))))))) (Kblock 9 (Kblock 8 (Kseq Tryz.prog w0 S 267 (cR (cR (cL (cL (cR (cL (cR (cR (cR (cR (cR (cR (cR (cR (cR (cR (cR (cR (cR (cR (cR (cB Tryz.f4)))))))))))))))))))))) (Kloop Tryz.prog w0 S 267 (cL (cL (cR (cL (cR (cR (cR (cR (cR (cR (cR (cR (cR (cR (cR (cR (cR (cR (cR (cB Tryz.f4)))))))))))))))))))) (Kblock 7 (Kseq Tryz.prog w0 S 267 (cR (cR (cR (cR (cR (cR (cR (cR (cR (cR (cR (cR (cR (cR (cR (cR (cB Tryz.f4))))))))))))))))) (KEnd Tryz.prog Tryz.f4 (PEnd w0 S (.returned (.bool r)))))))))))
theorem law_L15_grp : (∀ x r, law_L15 x = some r → T_law_L15 x r) ∧
 (∀ x r, law_L16 x = some r → T_law_L16 x r) ∧
 (∀ x r, law_L13 x = some r → T_law_L13 x r) ∧
 (∀ x r, law_L14 x = some r → T_law_L14 x r) := by
 refine law_L15.mutual_partial_correctness T_law_L15 T_law_L16 T_law_L13 T_law_L14 ?_ ?_ ?_ ?_
 ·intro g_law_L16 ih_law_L16 x r h
  intro W0 w0 S hS
  intro HLV
  haveI := hS.noEx Tryz.prog
  refine H.cS' (x.2.2.2.2.2.1) (fun hb => ?_) (fun hb => ?_)
  rotate_left
  ·rw [if_neg (ne_true hb)] at h
   refine H.skp' ?_
   refine Kseq_norm ?_
   refine H.reg' ?_
   refine HO.go' 3 ?_
   refine HO.end' ?_
   refine Kblock_norm ?_
   refine Kblock_norm ?_
   refine Kseq_norm ?_
   exact H.ren' hS [0] (ih_law_L16 (x.1, x.2.1, x.2.2.1, (IntKind.i64.wrap (x.2.2.2.1 + 1)), x.2.2.2.2.1, x.2.2.2.2.2.2.1, x.2.2.2.2.2.2.2) r h W0 w0 S hS HLV)
  rw [if_pos hb] at h
  refine H.sr' 1 ?_
  refine H.ret' ?_
  refine Kseq_ret ?_
  refine Kblock_ret ?_
  refine Kblock_ret ?_
  refine Kseq_ret ?_
  refine Kloop_ret ?_
  refine Kblock_ret ?_
  refine Kseq_ret ?_
  obtain rfl := Option.some.inj h
  exact KEnd.r'
 ·intro g_law_L13 ih_law_L13 x r h
  intro W0 w0 S hS
  intro HLV
  haveI := hS.noEx Tryz.prog
  refine H.reg' ?_
  refine HO.go' 3 ?_
  refine HO.end' ?_
  refine Kloop_norm ?_
  exact HL.ren' hS [0] (ih_law_L13 (x.1, x.2.1, x.2.2.1, x.2.2.2.1, (IntKind.i64.wrap (x.2.2.2.2.1 + 1)), x.2.2.2.2.2.1, x.2.2.2.2.2.2) r h W0 w0 S hS HLV)
 ·intro g_law_L15 g_law_L16 g_law_L14 ih_law_L15 ih_law_L16 ih_law_L14 x r h
  intro W0 w0 S hS
  intro HLV
  haveI := hS.noEx Tryz.prog
  refine HL.round ?_
  refine H.seq' ?_
  refine H.sg' ?_
  refine HO.go' 3 ?_
  refine HO.len (by kernel_rfl) (by kernel_rfl) (ls_size enc41 x.2.2.2.2.2.2) ?_
  refine HO.fin' 1 ?_
  refine H.cS' (decide (x.2.2.2.2.1 < (x.2.2.2.2.2.2.length : Int))) (fun hb => ?_) (fun hb => ?_)
  rotate_left
  ·rw [if_neg (of_decide_eq_false hb)] at h
   refine H.ext' 7 ?_
   refine Kseq_exit ?_
   refine Kloop_exit ?_
   refine Kblock_hit ?_
   refine Kseq_norm ?_
   refine H.sg' ?_
   refine HO.go' 2 ?_
   refine HO.len (by kernel_rfl) (by kernel_rfl) (ls_size enc38 x.1) ?_
   refine HO.go' 1 ?_
   refine HO.bo' (decide (x.2.2.1 = (x.1.length : Int))) (fun hb => ?_) (fun hb => ?_)
   rotate_left
   ·rw [if_neg (of_decide_eq_false hb)] at h
    refine HO.fin' 9 ?_
    exact H.ren' hS [] (law_L17_ok false r h W0 w0 S hS HLV)
   rw [if_pos (of_decide_eq_true hb)] at h
   refine HO.go' 2 ?_
   refine HO.len (by kernel_rfl) (by kernel_rfl) (ls_size enc38 x.2.1) ?_
   refine HO.go' 2 ?_
   refine HO.bo' (decide (x.2.2.2.1 = (x.2.1.length : Int))) (fun hb => ?_) (fun hb => ?_)
   rotate_left
   ·rw [if_neg (of_decide_eq_false hb)] at h
    refine HO.fin' 3 ?_
    exact H.ren' hS [] (law_L17_ok false r h W0 w0 S hS HLV)
   rw [if_pos (of_decide_eq_true hb)] at h
   refine HO.callW hS [] HLV (by kernel_rfl) (by kernel_rfl) ?_
   refine HO.fin' 2 ?_
   exact H.ren' hS [] (law_L17_ok true r h W0 w0 S hS HLV)
  rw [if_pos (of_decide_eq_true hb)] at h
  refine H.skp' ?_
  refine Kseq_norm ?_
  refine H.seq' ?_
  refine H.blk' 8 ?_
  refine H.sg' ?_
  refine HO.go' 3 ?_
  obtain ⟨y20, hy, h⟩ := bindS h
  refine HO.idx (.agg #[.int .u8 y20.c0, .int .u32 y20.c1, .bool y20.c2, ls 1 false (encI .u8) y20.c3, ls 5 false enc41 y20.c4]) hy (enc41_eq y20) (by kernel_rfl) ?_
  refine HO.go' 1 ?_
  obtain ⟨y21, hy, h⟩ := bindS h
  refine HO.callW hS [.agg [.keep, .keep, .keep, .list 1 false, .list 5 false]] (cpOf_ok (y20.c0, y20.c1, y20.c2, y20.c3, y20.c4) y21 hy W0) (by kernel_rfl) (by kernel_rfl) ?_
  refine HO.fin' 9 ?_
  refine H.blk' 9 ?_
  refine H.sr' 3 ?_
  refine H.cS' (decide (y21.2.2.2.2.2.2.2.2.2.2.2.2 = 0)) (fun hb => ?_) (fun hb => ?_)
  ·rw [if_pos (of_decide_eq_true hb)] at h
   refine H.seq' ?_
   refine H.seq' ?_
   refine H.drawQ ?_
   refine HQ.go' 2 ?_
   refine HQ.len (by kernel_rfl) (ls_size enc38 x.1) ?_
   refine HQ.go' 1 ?_
   refine HQ.boolP (decide ((x.1.length : Int) ≤ x.2.2.1)) (by kernel_rfl) (by kernel_rfl) (fun hb => ?_) (fun hb => ?_)
   ·rw [if_pos (of_decide_eq_true hb)] at h
    refine HQ.go' 8 ?_
    refine HQ.calm (by kernel_rfl) (by kernel_rfl) (by kernel_rfl) (by kernel_rfl) ?_
    refine Kseq_norm ?_
    exact H.ren' hS [0] (ih_law_L14 (x.1, x.2.1, x.2.2.1, x.2.2.2.1, x.2.2.2.2.1, true, x.2.2.2.2.2.1, x.2.2.2.2.2.2) r h W0 w0 S hS HLV)
   rw [if_neg (of_decide_eq_false hb)] at h
   refine HQ.go' 2 ?_
   obtain ⟨y22, hy, h⟩ := bindS h
   refine HQ.idx (.agg #[.int .u8 y22.c0, .int .i64 y22.c1, .int .i64 y22.c2, .int .i64 y22.c3, .int .u8 y22.c4, ls 1 false (encI .u8) y22.c5]) hy (enc38_eq y22) (by kernel_rfl) ?_
   refine HQ.go' 2 ?_
   obtain ⟨y23, hy, h⟩ := bindS h
   refine HQ.callW hS [.agg [.keep, .keep, .keep, .keep, .keep, .list 1 false], .agg [.keep, .keep, .keep, .keep, .keep, .list 1 false]] (equalC_ok (y22.c0, y22.c1, y22.c2, y22.c3, y22.c4, y22.c5, y21.1, y21.2.1, y21.2.2.1, y21.2.2.2.1, y21.2.2.2.2.1, y21.2.2.2.2.2.1) y23 hy W0) (by kernel_rfl) (by kernel_rfl) ?_
   refine HQ.go' 2 ?_
   refine HQ.calm (by kernel_rfl) (by kernel_rfl) (by kernel_rfl) (by kernel_rfl) ?_
   refine Kseq_norm ?_
   exact H.ren' hS [0] (ih_law_L14 (x.1, x.2.1, x.2.2.1, x.2.2.2.1, x.2.2.2.2.1, (!y23), x.2.2.2.2.2.1, x.2.2.2.2.2.2) r h W0 w0 S hS HLV)
  rw [if_neg (of_decide_eq_false hb)] at h
  refine H.sr' 4 ?_
  refine H.cS' (decide (0 < y21.2.2.2.2.2.2.1)) (fun hb => ?_) (fun hb => ?_)
  rotate_left
  ·rw [if_neg (of_decide_eq_false hb)] at h
   refine H.skp' ?_
   refine Kblock_norm ?_
   refine Kblock_norm ?_
   refine Kseq_norm ?_
   exact H.ren' hS [0] (ih_law_L16 (x.1, x.2.1, x.2.2.1, x.2.2.2.1, x.2.2.2.2.1, x.2.2.2.2.2.1, x.2.2.2.2.2.2) r h W0 w0 S hS HLV)
  rw [if_pos (of_decide_eq_true hb)] at h
  refine H.seq' ?_
  refine H.seq' ?_
  refine H.drawQ ?_
  refine HQ.go' 2 ?_
  refine HQ.len (by kernel_rfl) (ls_size enc38 x.2.1) ?_
  refine HQ.go' 1 ?_
  refine HQ.boolP (decide ((x.2.1.length : Int) ≤ x.2.2.2.1)) (by kernel_rfl) (by kernel_rfl) (fun hb => ?_) (fun hb => ?_)
  ·rw [if_pos (of_decide_eq_true hb)] at h
   refine HQ.go' 16 ?_
   refine HQ.calm (by kernel_rfl) (by kernel_rfl) (by kernel_rfl) (by kernel_rfl) ?_
   refine Kseq_norm ?_
   exact H.ren' hS [0] (ih_law_L15 (x.1, x.2.1, x.2.2.1, x.2.2.2.1, x.2.2.2.2.1, true, x.2.2.2.2.2.1, x.2.2.2.2.2.2) r h W0 w0 S hS HLV)
  rw [if_neg (of_decide_eq_false hb)] at h
  refine HQ.go' 2 ?_
  obtain ⟨y24, hy, h⟩ := bindS h
  refine HQ.idx (.agg #[.int .u8 y24.c0, .int .i64 y24.c1, .int .i64 y24.c2, .int .i64 y24.c3, .int .u8 y24.c4, ls 1 false (encI .u8) y24.c5]) hy (enc38_eq y24) (by kernel_rfl) ?_
  refine HQ.go' 2 ?_
  obtain ⟨y25, hy, h⟩ := bindS h
  refine HQ.callW hS [.agg [.keep, .keep, .keep, .keep, .keep, .list 1 false], .agg [.keep, .keep, .keep, .keep, .keep, .list 1 false]] (equalC_ok (y24.c0, y24.c1, y24.c2, y24.c3, y24.c4, y24.c5, y21.2.2.2.2.2.2.1, y21.2.2.2.2.2.2.2.1, y21.2.2.2.2.2.2.2.2.1, y21.2.2.2.2.2.2.2.2.2.1, y21.2.2.2.2.2.2.2.2.2.2.1, y21.2.2.2.2.2.2.2.2.2.2.2.1) y25 hy W0) (by kernel_rfl) (by kernel_rfl) ?_
  refine HQ.go' 2 ?_
  refine HQ.boolP (!y25) (by kernel_rfl) (by kernel_rfl) (fun hb => ?_) (fun hb => ?_)
  ·rw [if_pos hb] at h
   refine HQ.go' 7 ?_
   refine HQ.calm (by kernel_rfl) (by kernel_rfl) (by kernel_rfl) (by kernel_rfl) ?_
   refine Kseq_norm ?_
   exact H.ren' hS [0] (ih_law_L15 (x.1, x.2.1, x.2.2.1, x.2.2.2.1, x.2.2.2.2.1, true, x.2.2.2.2.2.1, x.2.2.2.2.2.2) r h W0 w0 S hS HLV)
  rw [if_neg (ne_true hb)] at h
  refine HQ.go' 2 ?_
  obtain ⟨y26, hy, h⟩ := bindS h
  refine HQ.idx (.agg #[.int .u8 y26.c0, .int .i64 y26.c1, .int .i64 y26.c2, .int .i64 y26.c3, .int .u8 y26.c4, ls 1 false (encI .u8) y26.c5]) hy (enc38_eq y26) (by kernel_rfl) ?_
  refine HQ.go' 1 ?_
  obtain ⟨y27, hy, h⟩ := bindS h
  refine HQ.callW hS [.agg [.keep, .keep, .keep, .keep, .keep, .list 1 false]] (cpCheck_ok (y26.c0, y26.c1, y26.c2, y26.c3, y26.c4, y26.c5) y27 hy W0) (by kernel_rfl) (by kernel_rfl) ?_
  refine HQ.go' 2 ?_
  refine HQ.calm (by kernel_rfl) (by kernel_rfl) (by kernel_rfl) (by kernel_rfl) ?_
  refine Kseq_norm ?_
  exact H.ren' hS [0] (ih_law_L15 (x.1, x.2.1, x.2.2.1, x.2.2.2.1, x.2.2.2.2.1, (!decide (y27 = 0)), x.2.2.2.2.2.1, x.2.2.2.2.2.2) r h W0 w0 S hS HLV)
 ·intro g_law_L16 ih_law_L16 x r h
  intro W0 w0 S hS
  intro HLV
  haveI := hS.noEx Tryz.prog
  refine H.cS' (x.2.2.2.2.2.1) (fun hb => ?_) (fun hb => ?_)
  rotate_left
  ·rw [if_neg (ne_true hb)] at h
   refine H.skp' ?_
   refine Kseq_norm ?_
   refine H.reg' ?_
   refine HO.go' 3 ?_
   refine HO.end' ?_
   refine Kblock_norm ?_
   refine Kblock_norm ?_
   refine Kseq_norm ?_
   exact H.ren' hS [0] (ih_law_L16 (x.1, x.2.1, (IntKind.i64.wrap (x.2.2.1 + 1)), x.2.2.2.1, x.2.2.2.2.1, x.2.2.2.2.2.2.1, x.2.2.2.2.2.2.2) r h W0 w0 S hS HLV)
  rw [if_pos hb] at h
  refine H.sr' 1 ?_
  refine H.ret' ?_
  refine Kseq_ret ?_
  refine Kblock_ret ?_
  refine Kblock_ret ?_
  refine Kseq_ret ?_
  refine Kloop_ret ?_
  refine Kblock_ret ?_
  refine Kseq_ret ?_
  obtain rfl := Option.some.inj h
  exact KEnd.r'
theorem law_L15_ok : ∀ x r, law_L15 x = some r → T_law_L15 x r := law_L15_grp.1
theorem law_L16_ok : ∀ x r, law_L16 x = some r → T_law_L16 x r := law_L15_grp.2.1
theorem law_L13_ok : ∀ x r, law_L13 x = some r → T_law_L13 x r := law_L15_grp.2.2.1
theorem law_L14_ok : ∀ x r, law_L14 x = some r → T_law_L14 x r := law_L15_grp.2.2.2
def law_L12 (x : (List S38) × (List S38) × Bool × Int × (List S41)) : Option (Bool) :=
 if x.2.2.1 = true then
  some false
 else
  law_L13 (x.1, x.2.1, 0, 0, 0, x.2.2.2.1, x.2.2.2.2)
theorem law_L12_ok : ∀ (x : (List S38) × (List S38) × Bool × Int × (List S41)) (r : Bool), law_L12 x = some r → ∀ (W0 w0 : World) (S : Own), Std W0 w0 S 0 → PTo Tryz.prog W0 15 #[] (.returned (.bool true)) → H Tryz.prog w0 S 267 (cR (cL (cR (cR (cR (cR (cR (cR (cR (cR (cR (cR (cR (cR (cR (cB Tryz.f4)))))))))))))))) (mkS [(9, .pointer (some ⟨0, 0, none⟩)), (18, ls 6 true enc38 x.1), (19, ls 6 true enc38 x.2.1), (191, .bool x.2.2.1)] [(0, .cells [.int .u8 1, .int .u32 x.2.2.2.1, .bool true, .slice none 0 0, ls 5 false enc41 x.2.2.2.2] 41 5)] 1 []) (Kseq Tryz.prog w0 S 267 (cR (cR (cR (cR (cR (cR (cR (cR (cR (cR (cR (cR (cR (cR (cB Tryz.f4))))))))))))))) (KEnd Tryz.prog Tryz.f4 (PEnd w0 S (.returned (.bool r))))) := by
 intro x r h
 unfold law_L12 at h
 intro W0 w0 S hS
 intro HLV
 haveI := hS.noEx Tryz.prog
 refine H.cS' (x.2.2.1) (fun hb => ?_) (fun hb => ?_)
 ·rw [if_pos hb] at h
  refine H.sr' 1 ?_
  refine H.ret' ?_
  refine Kseq_ret ?_
  obtain rfl := Option.some.inj h
  exact KEnd.r'
 rw [if_neg (ne_true hb)] at h
 refine H.skp' ?_
 refine Kseq_norm ?_
 refine H.sr' 2 ?_
 refine H.seq' ?_
 refine H.sr' 1 ?_
 refine H.blk' 7 ?_
 refine H.lop' ?_
 exact HL.ren' hS [0] (law_L13_ok (x.1, x.2.1, 0, 0, 0, x.2.2.2.1, x.2.2.2.2) r h W0 w0 S hS HLV)
def law_L10 (x : Int × (List S41)) : Option (Bool) :=
 (encodeC (1, x.1, true, [], x.2)) >>= fun y18 =>
 if (!decide (y18.2 = 0)) = true then
  some true
 else
  (review y18.1) >>= fun y19 =>
  if (!decide (x.1 = 1)) = true then
   if y19.2.2 = 4 then
    if (IntKind.i64.wrap ((y19.1.length : Int) + (y19.2.1.length : Int))) = 0 then
     law_L11 true
    else
     law_L11 false
   else
    law_L11 false
  else
   if (!decide (y19.2.2 = 0)) = true then
    law_L12 (y19.1, y19.2.1, true, x.1, x.2)
   else
    if (!decide ((y19.1.length : Int) = (y19.1.length : Int))) = true then
     law_L12 (y19.1, y19.2.1, true, x.1, x.2)
    else
     law_L12 (y19.1, y19.2.1, (!decide ((y19.2.1.length : Int) = (y19.2.1.length : Int))), x.1, x.2)
theorem law_L10_ok : ∀ (x : Int × (List S41)) (r : Bool), law_L10 x = some r → ∀ (W0 w0 : World) (S : Own), Std W0 w0 S 0 → PTo Tryz.prog W0 15 #[] (.returned (.bool true)) → H Tryz.prog w0 S 267 (cR (cR (cR (cR (cR (cR (cR (cR (cR (cB Tryz.f4)))))))))) (mkS [(9, .pointer (some ⟨0, 0, none⟩))] [(0, .cells [.int .u8 1, .int .u32 x.1, .bool true, .slice none 0 0, ls 5 false enc41 x.2] 41 5)] 1 []) (KEnd Tryz.prog Tryz.f4 (PEnd w0 S (.returned (.bool r)))) := by
 intro x r h
 unfold law_L10 at h
 intro W0 w0 S hS
 intro HLV
 haveI := hS.noEx Tryz.prog
 refine H.sg' ?_
 refine HO.go' 1 ?_
 obtain ⟨y18, hy, h⟩ := bindS h
 refine HO.callW hS [.agg [.keep, .keep, .keep, .list 1 false, .list 5 false]] (encodeC_ok (1, x.1, true, [], x.2) y18 hy W0) (by kernel_rfl) (by kernel_rfl) ?_
 refine HO.fin' 5 ?_
 refine H.seq' ?_
 refine H.sr' 2 ?_
 refine H.cS' (!decide (y18.2 = 0)) (fun hb => ?_) (fun hb => ?_)
 ·rw [if_pos hb] at h
  refine H.sg' ?_
  refine HO.callW hS [] HLV (by kernel_rfl) (by kernel_rfl) ?_
  refine HO.fin' 1 ?_
  refine H.ret' ?_
  refine Kseq_ret ?_
  obtain rfl := Option.some.inj h
  exact KEnd.r'
 rw [if_neg (ne_true hb)] at h
 refine H.skp' ?_
 refine Kseq_norm ?_
 refine H.sg' ?_
 refine HO.go' 1 ?_
 obtain ⟨y19, hy, h⟩ := bindS h
 refine HO.callW hS [.list 1 false] (review_ok y18.1 y19 hy W0) (by kernel_rfl) (by kernel_rfl) ?_
 refine HO.fin' 7 ?_
 refine H.seq' ?_
 refine H.sr' 3 ?_
 refine H.cS' (!decide (x.1 = 1)) (fun hb => ?_) (fun hb => ?_)
 ·rw [if_pos hb] at h
  refine H.sg' ?_
  refine HO.go' 2 ?_
  refine HO.bo' (decide (y19.2.2 = 4)) (fun hb => ?_) (fun hb => ?_)
  rotate_left
  ·rw [if_neg (of_decide_eq_false hb)] at h
   refine HO.fin' 11 ?_
   exact H.ren' hS [] (law_L11_ok false r h W0 w0 S hS HLV)
  rw [if_pos (of_decide_eq_true hb)] at h
  refine HO.go' 1 ?_
  refine HO.len (by kernel_rfl) (by kernel_rfl) (ls_size enc38 y19.1) ?_
  refine HO.go' 1 ?_
  refine HO.len (by kernel_rfl) (by kernel_rfl) (ls_size enc38 y19.2.1) ?_
  refine HO.go' 3 ?_
  refine HO.bo' (decide ((IntKind.i64.wrap ((y19.1.length : Int) + (y19.2.1.length : Int))) = 0)) (fun hb => ?_) (fun hb => ?_)
  rotate_left
  ·rw [if_neg (of_decide_eq_false hb)] at h
   refine HO.fin' 3 ?_
   exact H.ren' hS [] (law_L11_ok false r h W0 w0 S hS HLV)
  rw [if_pos (of_decide_eq_true hb)] at h
  refine HO.callW hS [] HLV (by kernel_rfl) (by kernel_rfl) ?_
  refine HO.fin' 2 ?_
  exact H.ren' hS [] (law_L11_ok true r h W0 w0 S hS HLV)
 rw [if_neg (ne_true hb)] at h
 refine H.skp' ?_
 refine Kseq_norm ?_
 refine H.seq' ?_
 refine H.sg' ?_
 refine HO.go' 2 ?_
 refine HO.bo' (!decide (y19.2.2 = 0)) (fun hb => ?_) (fun hb => ?_)
 ·rw [if_pos hb] at h
  refine HO.fin' 13 ?_
  exact H.ren' hS [0] (law_L12_ok (y19.1, y19.2.1, true, x.1, x.2) r h W0 w0 S hS HLV)
 rw [if_neg (ne_true hb)] at h
 refine HO.go' 1 ?_
 refine HO.valA (cap_aop (by kernel_rfl) (ls_size enc38 y19.1)) ?_
 refine HO.go' 1 ?_
 refine HO.len (by kernel_rfl) (by kernel_rfl) (ls_size enc38 y19.1) ?_
 refine HO.go' 2 ?_
 refine HO.bo' (!decide ((y19.1.length : Int) = (y19.1.length : Int))) (fun hb => ?_) (fun hb => ?_)
 ·rw [if_pos hb] at h
  refine HO.fin' 6 ?_
  exact H.ren' hS [0] (law_L12_ok (y19.1, y19.2.1, true, x.1, x.2) r h W0 w0 S hS HLV)
 rw [if_neg (ne_true hb)] at h
 refine HO.go' 1 ?_
 refine HO.valA (cap_aop (by kernel_rfl) (ls_size enc38 y19.2.1)) ?_
 refine HO.go' 1 ?_
 refine HO.len (by kernel_rfl) (by kernel_rfl) (ls_size enc38 y19.2.1) ?_
 refine HO.fin' 2 ?_
 exact H.ren' hS [0] (law_L12_ok (y19.1, y19.2.1, (!decide ((y19.2.1.length : Int) = (y19.2.1.length : Int))), x.1, x.2) r h W0 w0 S hS HLV)
mutual
def law_L9 (x : Int × Int × Int × (List S41)) : Option (Bool) :=
 law_L7 ((IntKind.i64.wrap (x.1 + 1)), x.2.1, x.2.2.1, x.2.2.2)
partial_fixpoint
def law_L7 (x : Int × Int × Int × (List S41)) : Option (Bool) :=
 if x.1 < (x.2.2.2.length : Int) then
  if (remI .i64 x.1 2) = (IntKind.i64.wrap (remI .u8 x.2.2.1 2)) then
   (at' x.2.2.2 x.1) >>= fun y13 =>
   law_L8 (x.1, (decide (0 < (y13.c4.length : Int))), x.2.1, x.2.2.1, x.2.2.2)
  else
   law_L8 (x.1, false, x.2.1, x.2.2.1, x.2.2.2)
 else
  law_L10 (1, x.2.2.2)
partial_fixpoint
def law_L8 (x : Int × Bool × Int × Int × (List S41)) : Option (Bool) :=
 if x.2.1 = true then
  (at' x.2.2.2.2 x.1) >>= fun y14 =>
  (sub' y14.c4 1 (y14.c4.length : Int)) >>= fun y15 =>
  (at' x.2.2.2.2 x.1) >>= fun y16 =>
  (setR x.2.2.2.2 x.1 (S41.mk y16.c0 y16.c1 y16.c2 y16.c3 y15)) >>= fun y17 =>
  law_L9 (x.1, x.2.2.1, x.2.2.2.1, y17)
 else
  law_L9 (x.1, x.2.2.1, x.2.2.2.1, x.2.2.2.2)
partial_fixpoint
end
abbrev T_law_L9 (x : Int × Int × Int × (List S41)) (r : Bool) : Prop := ∀ (W0 w0 : World) (S : Own), Std W0 w0 S 0 → PTo Tryz.prog W0 15 #[] (.returned (.bool true)) → H Tryz.prog w0 S 267 (cR (cR (cL (cL (cR (cL (cR (cR (cR (cR (cR (cL (cR (cL (cR (cR (cR (cR (cR (cR (cR (cR (cB Tryz.f4))))))))))))))))))))))) (mkS [(5, .pointer (some ⟨0, 0, none⟩)), (9, .pointer (some ⟨1, 0, none⟩)), (15, .int .i64 x.1)] [(0, .cells [.int .u8 x.2.1, .int .u8 x.2.2.1] 33 2), (1, .cells [.int .u8 1, .int .u32 1, .bool true, .slice none 0 0, .slice (some ⟨2, 0, none⟩) x.2.2.2.length 1180591620717411303424] 41 5), (2, .cells (rowL enc41 [.int .u8 0, .int .u32 0, .bool false, .slice none 0 0, .slice none 0 0] x.2.2.2 x.2.2.2.length) 41 5)] 3 []) (Kloop Tryz.prog w0 S 267 (cL (cL (cR (cL (cR (cR (cR (cR (cR (cL (cR (cL (cR (cR (cR (cR (cR (cR (cR (cR (cB Tryz.f4))))))))))))))))))))) (Kblock 5 (Kblock 4 (Kseq Tryz.prog w0 S 267 (cR (cR (cR (cR (cR (cR (cR (cR (cR (cB Tryz.f4)))))))))) (KEnd Tryz.prog Tryz.f4 (PEnd w0 S (.returned (.bool r))))))))
abbrev T_law_L7 (x : Int × Int × Int × (List S41)) (r : Bool) : Prop := ∀ (W0 w0 : World) (S : Own), Std W0 w0 S 0 → PTo Tryz.prog W0 15 #[] (.returned (.bool true)) → HL Tryz.prog w0 S 267 (cL (cL (cR (cL (cR (cR (cR (cR (cR (cL (cR (cL (cR (cR (cR (cR (cR (cR (cR (cR (cB Tryz.f4))))))))))))))))))))) (mkS [(5, .pointer (some ⟨0, 0, none⟩)), (9, .pointer (some ⟨1, 0, none⟩)), (15, .int .i64 x.1)] [(0, .cells [.int .u8 x.2.1, .int .u8 x.2.2.1] 33 2), (1, .cells [.int .u8 1, .int .u32 1, .bool true, .slice none 0 0, .slice (some ⟨2, 0, none⟩) x.2.2.2.length 1180591620717411303424] 41 5), (2, .cells (rowL enc41 [.int .u8 0, .int .u32 0, .bool false, .slice none 0 0, .slice none 0 0] x.2.2.2 x.2.2.2.length) 41 5)] 3 []) (Kblock 5 (Kblock 4 (Kseq Tryz.prog w0 S 267 (cR (cR (cR (cR (cR (cR (cR (cR (cR (cB Tryz.f4)))))))))) (KEnd Tryz.prog Tryz.f4 (PEnd w0 S (.returned (.bool r)))))))
abbrev T_law_L8 (x : Int × Bool × Int × Int × (List S41)) (r : Bool) : Prop := ∀ (W0 w0 : World) (S : Own), Std W0 w0 S 0 → PTo Tryz.prog W0 15 #[] (.returned (.bool true)) → H Tryz.prog w0 S 267 (cR (cL (cL (cR (cL (cL (cR (cL (cR (cR (cR (cR (cR (cL (cR (cL (cR (cR (cR (cR (cR (cR (cR (cR (cB Tryz.f4))))))))))))))))))))))))) (mkS [(5, .pointer (some ⟨0, 0, none⟩)), (9, .pointer (some ⟨1, 0, none⟩)), (15, .int .i64 x.1), (126, .bool x.2.1)] [(0, .cells [.int .u8 x.2.2.1, .int .u8 x.2.2.2.1] 33 2), (1, .cells [.int .u8 1, .int .u32 1, .bool true, .slice none 0 0, .slice (some ⟨2, 0, none⟩) x.2.2.2.2.length 1180591620717411303424] 41 5), (2, .cells (rowL enc41 [.int .u8 0, .int .u32 0, .bool false, .slice none 0 0, .slice none 0 0] x.2.2.2.2 x.2.2.2.2.length) 41 5)] 3 []) (Kblock 6 (Kseq Tryz.prog w0 S 267 (cR (cR (cL (cL (cR (cL (cR (cR (cR (cR (cR (cL (cR (cL (cR (cR (cR (cR (cR (cR (cR (cR (cB Tryz.f4))))))))))))))))))))))) (Kloop Tryz.prog w0 S 267 (cL (cL (cR (cL (cR (cR (cR (cR (cR (cL (cR (cL (cR (cR (cR (cR (cR (cR (cR (cR (cB Tryz.f4))))))))))))))))))))) (Kblock 5 (Kblock 4 (Kseq Tryz.prog w0 S 267 (cR (cR (cR (cR (cR (cR (cR (cR (cR (cB Tryz.f4)))))))))) (KEnd Tryz.prog Tryz.f4 (PEnd w0 S (.returned (.bool r))))))))))
theorem law_L9_grp : (∀ x r, law_L9 x = some r → T_law_L9 x r) ∧
 (∀ x r, law_L7 x = some r → T_law_L7 x r) ∧
 (∀ x r, law_L8 x = some r → T_law_L8 x r) := by
 refine law_L9.mutual_partial_correctness T_law_L9 T_law_L7 T_law_L8 ?_ ?_ ?_
 ·intro g_law_L7 ih_law_L7 x r h
  intro W0 w0 S hS
  intro HLV
  haveI := hS.noEx Tryz.prog
  refine H.reg' ?_
  refine HO.go' 3 ?_
  refine HO.end' ?_
  refine Kloop_norm ?_
  exact HL.renR hS 2 [0, 1, 2] _ _ _ (by intro p hp hr; simp only [List.mem_cons, List.not_mem_nil, or_false] at hp; rcases hp with rfl | rfl | rfl <;> first | exact row_ren (fun f x => (by rw [enc41_eq]; rfl)) (fun f => rfl) _ _ | exact absurd hr (by simp)) (by kernel_rfl) (ih_law_L7 ((IntKind.i64.wrap (x.1 + 1)), x.2.1, x.2.2.1, x.2.2.2) r h W0 w0 S hS HLV)
 ·intro g_law_L8 ih_law_L8 x r h
  intro W0 w0 S hS
  intro HLV
  haveI := hS.noEx Tryz.prog
  refine HL.round ?_
  refine H.seq' ?_
  refine H.sr' 5 ?_
  refine H.cS' (decide (x.1 < (x.2.2.2.length : Int))) (fun hb => ?_) (fun hb => ?_)
  rotate_left
  ·rw [if_neg (of_decide_eq_false hb)] at h
   refine H.ext' 5 ?_
   refine Kseq_exit ?_
   refine Kloop_exit ?_
   refine Kblock_hit ?_
   refine Kblock_norm ?_
   refine Kseq_norm ?_
   refine H.frcO (enc := enc41) (z := [.int .u8 0, .int .u32 0, .bool false, .slice none 0 0, .slice none 0 0]) (l := x.2.2.2) (te2 := 41) enc41_ok 1 41 5 4 2 [.int .u8 1, .int .u32 1, .bool true, .slice none 0 0, .slice (some ⟨2, 0, none⟩) x.2.2.2.length 1180591620717411303424] (by kernel_rfl) ?_
   exact H.ren' hS [1] (law_L10_ok (1, x.2.2.2) r h W0 w0 S hS HLV)
  rw [if_pos (of_decide_eq_true hb)] at h
  refine H.skp' ?_
  refine Kseq_norm ?_
  refine H.seq' ?_
  refine H.blk' 6 ?_
  refine H.sg' ?_
  refine HO.go' 7 ?_
  refine HO.bo' (decide ((remI .i64 x.1 2) = (IntKind.i64.wrap (remI .u8 x.2.2.1 2)))) (fun hb => ?_) (fun hb => ?_)
  rotate_left
  ·rw [if_neg (of_decide_eq_false hb)] at h
   refine HO.fin' 9 ?_
   exact H.renR hS 2 [0, 1, 2] _ _ _ (by intro p hp hr; simp only [List.mem_cons, List.not_mem_nil, or_false] at hp; rcases hp with rfl | rfl | rfl <;> first | exact row_ren (fun f x => (by rw [enc41_eq]; rfl)) (fun f => rfl) _ _ | exact absurd hr (by simp)) (by kernel_rfl) (ih_law_L8 (x.1, false, x.2.1, x.2.2.1, x.2.2.2) r h W0 w0 S hS HLV)
  rw [if_pos (of_decide_eq_true hb)] at h
  refine HO.go' 3 ?_
  obtain ⟨y13, hr13, h⟩ := bindS h
  refine HO.valA (rowIdx_aop (id := 2) (k := 5) hr13 (by kernel_rfl)) ?_
  refine HO.go' 1 ?_
  refine HO.valA (rowFld_aop (enc := enc41) (id := 2) (k := 5) (te := 41) (o := 4) (z := [.int .u8 0, .int .u32 0, .bool false, .slice none 0 0, .slice none 0 0]) (l := x.2.2.2) (c := x.2.2.2.length) (ls 5 false enc41 y13.c4) enc41_ok.size hr13 (by rw [enc41_eq]; rfl) (by kernel_rfl) (by kernel_rfl)) ?_
  refine HO.len (by kernel_rfl) (by kernel_rfl) (ls_size enc41 y13.c4) ?_
  refine HO.fin' 2 ?_
  exact H.renR hS 2 [0, 1, 2] _ _ _ (by intro p hp hr; simp only [List.mem_cons, List.not_mem_nil, or_false] at hp; rcases hp with rfl | rfl | rfl <;> first | exact row_ren (fun f x => (by rw [enc41_eq]; rfl)) (fun f => rfl) _ _ | exact absurd hr (by simp)) (by kernel_rfl) (ih_law_L8 (x.1, (decide (0 < (y13.c4.length : Int))), x.2.1, x.2.2.1, x.2.2.2) r h W0 w0 S hS HLV)
 ·intro g_law_L9 ih_law_L9 x r h
  intro W0 w0 S hS
  intro HLV
  haveI := hS.noEx Tryz.prog
  refine H.cS' (x.2.1) (fun hb => ?_) (fun hb => ?_)
  rotate_left
  ·rw [if_neg (ne_true hb)] at h
   refine H.skp' ?_
   refine Kblock_norm ?_
   refine Kseq_norm ?_
   exact H.renR hS 2 [0, 1, 2] _ _ _ (by intro p hp hr; simp only [List.mem_cons, List.not_mem_nil, or_false] at hp; rcases hp with rfl | rfl | rfl <;> first | exact row_ren (fun f x => (by rw [enc41_eq]; rfl)) (fun f => rfl) _ _ | exact absurd hr (by simp)) (by kernel_rfl) (ih_law_L9 (x.1, x.2.2.1, x.2.2.2.1, x.2.2.2.2) r h W0 w0 S hS HLV)
  rw [if_pos hb] at h
  refine H.drawQ ?_
  refine HQ.go' 6 ?_
  obtain ⟨y14, hr14, h⟩ := bindS h
  refine HQ.valA (rowIdx_aop (id := 2) (k := 5) hr14 (by kernel_rfl)) ?_
  refine HQ.go' 1 ?_
  refine HQ.valA (rowFld_aop (enc := enc41) (id := 2) (k := 5) (te := 41) (o := 4) (z := [.int .u8 0, .int .u32 0, .bool false, .slice none 0 0, .slice none 0 0]) (l := x.2.2.2.2) (c := x.2.2.2.2.length) (ls 5 false enc41 y14.c4) enc41_ok.size hr14 (by rw [enc41_eq]; rfl) (by kernel_rfl) (by kernel_rfl)) ?_
  obtain ⟨y15, hy, h⟩ := bindS h
  refine HQ.valA (sl1_aop (enc := enc41) (k := 5) (j := .i64) false hy (by kernel_rfl)) ?_
  obtain ⟨y16, hr16, h⟩ := bindS h
  refine HQ.valA (rowIdx_aop (id := 2) (k := 5) hr16 (by kernel_rfl)) ?_
  refine HQ.go' 1 ?_
  obtain ⟨y17, hs17, h⟩ := bindS h
  refine HQ.effA (rowSt_aop (enc := enc41) (id := 2) (k := 5) (te := 41) (o := 4) (z := [.int .u8 0, .int .u32 0, .bool false, .slice none 0 0, .slice none 0 0]) (l := x.2.2.2.2) (vs := [ls 5 false enc41 y15]) enc41_ok.size hr16 hs17 (by kernel_rfl) (by kernel_rfl) (by rw [enc41_eq, enc41_eq]; rfl)) ?_
  refine HQ.done (by kernel_rfl) (by kernel_rfl) (by kernel_rfl) ?_
  refine Kblock_norm ?_
  refine Kseq_norm ?_
  refine H.eqc 1 41 5 4 [.int .u8 1, .int .u32 1, .bool true, .slice none 0 0, .slice (some ⟨2, 0, none⟩) x.2.2.2.2.length 1180591620717411303424] (.slice (some ⟨2, 0, none⟩) x.2.2.2.2.length 1180591620717411303424) (.slice (some ⟨2, 0, none⟩) y17.length 1180591620717411303424) (by rw [setR_len hs17]) (by kernel_rfl) ?_
  exact H.renR hS 2 [0, 1, 2] _ _ _ (by intro p hp hr; simp only [List.mem_cons, List.not_mem_nil, or_false] at hp; rcases hp with rfl | rfl | rfl <;> first | exact row_ren (fun f x => (by rw [enc41_eq]; rfl)) (fun f => rfl) _ _ | exact absurd hr (by simp)) (by kernel_rfl) (ih_law_L9 (x.1, x.2.2.1, x.2.2.2.1, y17) r h W0 w0 S hS HLV)
theorem law_L9_ok : ∀ x r, law_L9 x = some r → T_law_L9 x r := law_L9_grp.1
theorem law_L7_ok : ∀ x r, law_L7 x = some r → T_law_L7 x r := law_L9_grp.2.1
theorem law_L8_ok : ∀ x r, law_L8 x = some r → T_law_L8 x r := law_L9_grp.2.2
def law_L5 (x : (List S30) × (List S38) × Int × Int × Int × (List S41)) : Option (Bool) :=
 if x.2.2.1 < (x.2.1.length : Int) then
  (at' x.2.1 x.2.2.1) >>= fun y6 =>
  (cpTree (y6.c0, y6.c1, y6.c2, y6.c3, y6.c4, y6.c5)) >>= fun y7 =>
  (app' 64 x.2.2.2.2.2 [(S41.mk y7.1 y7.2.1 y7.2.2.1 y7.2.2.2.1 y7.2.2.2.2.1)]) >>= fun y8 =>
  law_L5 (x.1, x.2.1, (IntKind.i64.wrap (x.2.2.1 + 1)), x.2.2.2.1, x.2.2.2.2.1, y8)
 else
  (tOf x.1) >>= fun y10 =>
  if (remI .u8 x.2.2.2.1 5) = 1 then
   (app' 64 x.2.2.2.2.2 [(S41.mk y10.1 y10.2.1 y10.2.2.1 y10.2.2.2.1 y10.2.2.2.2)]) >>= fun y11 =>
   law_L10 (1, y11)
  else
   if (remI .u8 x.2.2.2.1 5) = 2 then
    (app' 64 [(S41.mk y10.1 y10.2.1 y10.2.2.1 y10.2.2.2.1 y10.2.2.2.2)] x.2.2.2.2.2) >>= fun y12 =>
    if x.2.2.2.2.2.length = 0 then
     law_L10 (1, [(S41.mk y10.1 y10.2.1 y10.2.2.1 y10.2.2.2.1 y10.2.2.2.2)])
    else
     law_L10 (1, y12)
   else
    if (remI .u8 x.2.2.2.1 5) = 3 then
     law_L7 (0, x.2.2.2.1, x.2.2.2.2.1, x.2.2.2.2.2)
    else
     if (remI .u8 x.2.2.2.1 5) = 4 then
      law_L10 ((IntKind.u32.wrap (remI .u8 x.2.2.2.2.1 3)), x.2.2.2.2.2)
     else
      law_L10 (1, x.2.2.2.2.2)
partial_fixpoint
abbrev T_law_L5 (x : (List S30) × (List S38) × Int × Int × Int × (List S41)) (r : Bool) : Prop := ∀ (W0 w0 : World) (S : Own), Std W0 w0 S 0 → PTo Tryz.prog W0 15 #[] (.returned (.bool true)) → HL Tryz.prog w0 S 267 (cL (cL (cR (cL (cR (cR (cR (cR (cR (cR (cB Tryz.f4))))))))))) (mkS [(1, ls 5 false enc30 x.1), (5, .pointer (some ⟨0, 0, none⟩)), (9, .pointer (some ⟨1, 0, none⟩)), (10, ls 6 false enc38 x.2.1), (11, .int .i64 x.2.2.1)] [(0, .cells [.int .u8 x.2.2.2.1, .int .u8 x.2.2.2.2.1] 33 2), (1, .cells [.int .u8 1, .int .u32 1, .bool true, .slice none 0 0, .slice (some ⟨2, 0, none⟩) x.2.2.2.2.2.length 1180591620717411303424] 41 5), (2, .cells (rowL enc41 [.int .u8 0, .int .u32 0, .bool false, .slice none 0 0, .slice none 0 0] x.2.2.2.2.2 x.2.2.2.2.2.length) 41 5)] 3 []) (Kblock 2 (Kseq Tryz.prog w0 S 267 (cR (cR (cR (cR (cR (cR (cR (cB Tryz.f4)))))))) (KEnd Tryz.prog Tryz.f4 (PEnd w0 S (.returned (.bool r))))))
theorem law_L5_ok : ∀ x r, law_L5 x = some r → T_law_L5 x r := by
 refine law_L5.partial_correctness T_law_L5 ?_
 intro self ih_law_L5 x r h
 intro W0 w0 S hS
 intro HLV
 haveI := hS.noEx Tryz.prog
 refine HL.round ?_
 refine H.seq' ?_
 refine H.sg' ?_
 refine HO.go' 2 ?_
 refine HO.len (by kernel_rfl) (by kernel_rfl) (ls_size enc38 x.2.1) ?_
 refine HO.fin' 1 ?_
 refine H.cS' (decide (x.2.2.1 < (x.2.1.length : Int))) (fun hb => ?_) (fun hb => ?_)
 ·rw [if_pos (of_decide_eq_true hb)] at h
  refine H.skp' ?_
  refine Kseq_norm ?_
  refine H.seq' ?_
  refine H.blk' 3 ?_
  refine H.sg' ?_
  refine HO.go' 2 ?_
  obtain ⟨y6, hy, h⟩ := bindS h
  refine HO.idx (.agg #[.int .u8 y6.c0, .int .i64 y6.c1, .int .i64 y6.c2, .int .i64 y6.c3, .int .u8 y6.c4, ls 1 false (encI .u8) y6.c5]) hy (enc38_eq y6) (by kernel_rfl) ?_
  refine HO.go' 1 ?_
  obtain ⟨y7, hy, h⟩ := bindS h
  refine HO.callW hS [.agg [.keep, .keep, .keep, .keep, .keep, .list 1 false]] (cpTree_ok (y6.c0, y6.c1, y6.c2, y6.c3, y6.c4, y6.c5) y7 hy W0) (by kernel_rfl) (by kernel_rfl) ?_
  refine HO.fin' 6 ?_
  refine H.reg' ?_
  refine HO.go' 4 ?_
  obtain ⟨y8, hy, h⟩ := bindS h
  refine HO.effA (rowApp_aop (enc := enc41) (z := [.int .u8 0, .int .u32 0, .bool false, .slice none 0 0, .slice none 0 0]) (id := 2) (elem := 41) (new := [.int .u8 y7.1, .int .u32 y7.2.1, .bool y7.2.2.1, ls 1 false (encI .u8) y7.2.2.2.1, ls 5 false enc41 y7.2.2.2.2.1]) enc41_ok.size (by decide) hy (by kernel_rfl) (by kernel_rfl) (by rw [enc41_eq]; rfl) (by kernel_rfl)) ?_
  refine HO.go' 2 ?_
  refine HO.end' ?_
  refine Kblock_norm ?_
  refine Kseq_norm ?_
  refine H.reg' ?_
  refine HO.go' 3 ?_
  refine HO.end' ?_
  refine Kloop_norm ?_
  exact HL.renR hS 2 [0, 1, 5] _ _ _ (by intro p hp hr; simp only [List.mem_cons, List.not_mem_nil, or_false] at hp; rcases hp with rfl | rfl | rfl <;> first | exact row_ren (fun f x => (by rw [enc41_eq]; rfl)) (fun f => rfl) _ _ | exact absurd hr (by simp)) (by kernel_rfl) (ih_law_L5 (x.1, x.2.1, (IntKind.i64.wrap (x.2.2.1 + 1)), x.2.2.2.1, x.2.2.2.2.1, y8) r h W0 w0 S hS HLV)
 rw [if_neg (of_decide_eq_false hb)] at h
 refine H.ext' 2 ?_
 refine Kseq_exit ?_
 refine Kloop_exit ?_
 refine Kblock_hit ?_
 refine Kseq_norm ?_
 refine H.sg' ?_
 refine HO.go' 1 ?_
 obtain ⟨y10, hy, h⟩ := bindS h
 refine HO.callW hS [.list 5 false] (tOf_ok x.1 y10 hy W0) (by kernel_rfl) (by kernel_rfl) ?_
 refine HO.fin' 2 ?_
 refine H.seq' ?_
 refine H.sr' 3 ?_
 refine H.blk' 4 ?_
 refine H.sr' 2 ?_
 refine H.cS' (decide ((remI .u8 x.2.2.2.1 5) = 1)) (fun hb => ?_) (fun hb => ?_)
 ·rw [if_pos (of_decide_eq_true hb)] at h
  refine H.reg' ?_
  refine HO.go' 4 ?_
  obtain ⟨y11, hy, h⟩ := bindS h
  refine HO.effA (rowApp_aop (enc := enc41) (z := [.int .u8 0, .int .u32 0, .bool false, .slice none 0 0, .slice none 0 0]) (id := 2) (elem := 41) (new := [.int .u8 y10.1, .int .u32 y10.2.1, .bool y10.2.2.1, ls 1 false (encI .u8) y10.2.2.2.1, ls 5 false enc41 y10.2.2.2.2]) enc41_ok.size (by decide) hy (by kernel_rfl) (by kernel_rfl) (by rw [enc41_eq]; rfl) (by kernel_rfl)) ?_
  refine HO.go' 2 ?_
  refine HO.end' ?_
  refine Kblock_norm ?_
  refine Kseq_norm ?_
  refine H.frcO (enc := enc41) (z := [.int .u8 0, .int .u32 0, .bool false, .slice none 0 0, .slice none 0 0]) (l := y11) (te2 := 41) enc41_ok 1 41 5 4 5 [.int .u8 1, .int .u32 1, .bool true, .slice none 0 0, .slice (some ⟨5, 0, none⟩) y11.length 1180591620717411303424] (by kernel_rfl) ?_
  exact H.ren' hS [1] (law_L10_ok (1, y11) r h W0 w0 S hS HLV)
 rw [if_neg (of_decide_eq_false hb)] at h
 refine H.sr' 2 ?_
 refine H.cS' (decide ((remI .u8 x.2.2.2.1 5) = 2)) (fun hb => ?_) (fun hb => ?_)
 ·rw [if_pos (of_decide_eq_true hb)] at h
  refine H.reg' ?_
  refine HO.go' 4 ?_
  refine HO.frzO (enc := enc41) (z := [.int .u8 0, .int .u32 0, .bool false, .slice none 0 0, .slice none 0 0]) (l := x.2.2.2.2.2) (te := 41) (id := 2) enc41_ok 98 (by kernel_rfl) ?_
  refine HO.tkzE [96] 4 1 1 5 41 ([(S41.mk y10.1 y10.2.1 y10.2.2.1 y10.2.2.2.1 y10.2.2.2.2)].map enc41).toArray #[.agg #[.int .u8 y10.1, .int .u32 y10.2.1, .bool y10.2.2.1, ls 1 false (encI .u8) y10.2.2.2.1, ls 5 false enc41 y10.2.2.2.2]] [.int .u8 y10.1, .int .u32 y10.2.1, .bool y10.2.2.1, ls 1 false (encI .u8) y10.2.2.2.1, ls 5 false enc41 y10.2.2.2.2] (by simp only [List.map_cons, List.map_nil, enc41_eq]) (by kernel_rfl) ?_
  obtain ⟨y12, hy, h⟩ := bindS h
  by_cases hb : x.2.2.2.2.2.length = 0
  ·rw [if_pos hb] at h
   refine HO.valA (appN_aop (ag := true) [] enc41_ok hy hb (by kernel_rfl)) ?_
   refine HO.go' 2 ?_
   refine HO.end' ?_
   refine Kblock_norm ?_
   refine Kseq_norm ?_
   refine H.wkc 1 41 5 4 [.int .u8 1, .int .u32 1, .bool true, .slice none 0 0, tl 5 5 enc41 [(S41.mk y10.1 y10.2.1 y10.2.2.1 y10.2.2.2.1 y10.2.2.2.2)]] (tl 5 5 enc41 [(S41.mk y10.1 y10.2.1 y10.2.2.1 y10.2.2.2.1 y10.2.2.2.2)]) (ls 5 false enc41 [(S41.mk y10.1 y10.2.1 y10.2.2.1 y10.2.2.2.1 y10.2.2.2.2)]) (.list 5 false) (by kernel_rfl) ?_
   exact H.ren' hS [1] (law_L10_ok (1, [(S41.mk y10.1 y10.2.1 y10.2.2.1 y10.2.2.2.1 y10.2.2.2.2)]) r h W0 w0 S hS HLV)
  rw [if_neg hb] at h
  refine HO.effA (appL_aop (ag := true) [] enc41_ok hy hb (by kernel_rfl)) ?_
  refine HO.go' 2 ?_
  refine HO.end' ?_
  refine Kblock_norm ?_
  refine Kseq_norm ?_
  refine H.wkc 1 41 5 4 [.int .u8 1, .int .u32 1, .bool true, .slice none 0 0, tl 5 6 enc41 y12] (tl 5 6 enc41 y12) (ls 5 false enc41 y12) (.list 5 false) (by kernel_rfl) ?_
  exact H.ren' hS [1] (law_L10_ok (1, y12) r h W0 w0 S hS HLV)
 rw [if_neg (of_decide_eq_false hb)] at h
 refine H.sr' 2 ?_
 refine H.cS' (decide ((remI .u8 x.2.2.2.1 5) = 3)) (fun hb => ?_) (fun hb => ?_)
 ·rw [if_pos (of_decide_eq_true hb)] at h
  refine H.sr' 1 ?_
  refine H.blk' 5 ?_
  refine H.lop' ?_
  exact HL.renR hS 2 [0, 1, 2] _ _ _ (by intro p hp hr; simp only [List.mem_cons, List.not_mem_nil, or_false] at hp; rcases hp with rfl | rfl | rfl <;> first | exact row_ren (fun f x => (by rw [enc41_eq]; rfl)) (fun f => rfl) _ _ | exact absurd hr (by simp)) (by kernel_rfl) (law_L7_ok (0, x.2.2.2.1, x.2.2.2.2.1, x.2.2.2.2.2) r h W0 w0 S hS HLV)
 rw [if_neg (of_decide_eq_false hb)] at h
 refine H.sr' 2 ?_
 refine H.cS' (decide ((remI .u8 x.2.2.2.1 5) = 4)) (fun hb => ?_) (fun hb => ?_)
 rotate_left
 ·rw [if_neg (of_decide_eq_false hb)] at h
  refine H.skp' ?_
  refine Kblock_norm ?_
  refine Kseq_norm ?_
  refine H.frcO (enc := enc41) (z := [.int .u8 0, .int .u32 0, .bool false, .slice none 0 0, .slice none 0 0]) (l := x.2.2.2.2.2) (te2 := 41) enc41_ok 1 41 5 4 2 [.int .u8 1, .int .u32 1, .bool true, .slice none 0 0, .slice (some ⟨2, 0, none⟩) x.2.2.2.2.2.length 1180591620717411303424] (by kernel_rfl) ?_
  exact H.ren' hS [1] (law_L10_ok (1, x.2.2.2.2.2) r h W0 w0 S hS HLV)
 rw [if_pos (of_decide_eq_true hb)] at h
 refine H.reg' ?_
 refine HO.go' 6 ?_
 refine HO.end' ?_
 refine Kblock_norm ?_
 refine Kseq_norm ?_
 refine H.frcO (enc := enc41) (z := [.int .u8 0, .int .u32 0, .bool false, .slice none 0 0, .slice none 0 0]) (l := x.2.2.2.2.2) (te2 := 41) enc41_ok 1 41 5 4 2 [.int .u8 1, .int .u32 (IntKind.u32.wrap (remI .u8 x.2.2.2.2.1 3)), .bool true, .slice none 0 0, .slice (some ⟨2, 0, none⟩) x.2.2.2.2.2.length 1180591620717411303424] (by kernel_rfl) ?_
 exact H.ren' hS [1] (law_L10_ok ((IntKind.u32.wrap (remI .u8 x.2.2.2.2.1 3)), x.2.2.2.2.2) r h W0 w0 S hS HLV)
def law_L6 (x : Int × Int) : Option (Bool) :=
 law_L10 (1, [])
theorem law_L6_ok : ∀ (x : Int × Int) (r : Bool), law_L6 x = some r → ∀ (W0 w0 : World) (S : Own), Std W0 w0 S 0 → PTo Tryz.prog W0 15 #[] (.returned (.bool true)) → HL Tryz.prog w0 S 267 (cL (cL (cR (cL (cR (cR (cR (cR (cR (cL (cR (cL (cR (cR (cR (cR (cR (cR (cR (cR (cB Tryz.f4))))))))))))))))))))) (mkS [(5, .pointer (some ⟨0, 0, none⟩)), (9, .pointer (some ⟨1, 0, none⟩)), (15, .int .i64 0)] [(0, .cells [.int .u8 x.1, .int .u8 x.2] 33 2), (1, .cells [.int .u8 1, .int .u32 1, .bool true, .slice none 0 0, .slice none 0 0] 41 5)] 2 []) (Kblock 5 (Kblock 4 (Kseq Tryz.prog w0 S 267 (cR (cR (cR (cR (cR (cR (cR (cR (cR (cB Tryz.f4)))))))))) (KEnd Tryz.prog Tryz.f4 (PEnd w0 S (.returned (.bool r))))))) := by
 intro x r h
 unfold law_L6 at h
 intro W0 w0 S hS
 intro HLV
 haveI := hS.noEx Tryz.prog
 refine HL.round ?_
 refine H.seq' ?_
 refine H.sr' 5 ?_
 refine H.cF' ?_
 refine H.ext' 5 ?_
 refine Kseq_exit ?_
 refine Kloop_exit ?_
 refine Kblock_hit ?_
 refine Kblock_norm ?_
 refine Kseq_norm ?_
 refine H.wkc 1 41 5 4 [.int .u8 1, .int .u32 1, .bool true, .slice none 0 0, .slice none 0 0] (.slice none 0 0) (ls 5 false enc41 []) (.list 5 false) (by kernel_rfl) ?_
 exact H.ren' hS [1] (law_L10_ok (1, []) r h W0 w0 S hS HLV)
def law_L4 (x : (List S30) × (List S38) × Int × Int) : Option (Bool) :=
 if 0 < (x.2.1.length : Int) then
  (at' x.2.1 0) >>= fun y4 =>
  (cpTree (y4.c0, y4.c1, y4.c2, y4.c3, y4.c4, y4.c5)) >>= fun y5 =>
  law_L5 (x.1, x.2.1, 1, x.2.2.1, x.2.2.2, [(S41.mk y5.1 y5.2.1 y5.2.2.1 y5.2.2.2.1 y5.2.2.2.2.1)])
 else
  (tOf x.1) >>= fun y9 =>
  if (remI .u8 x.2.2.1 5) = 1 then
   law_L10 (1, [(S41.mk y9.1 y9.2.1 y9.2.2.1 y9.2.2.2.1 y9.2.2.2.2)])
  else
   if (remI .u8 x.2.2.1 5) = 2 then
    law_L10 (1, [(S41.mk y9.1 y9.2.1 y9.2.2.1 y9.2.2.2.1 y9.2.2.2.2)])
   else
    if (remI .u8 x.2.2.1 5) = 3 then
     law_L6 (x.2.2.1, x.2.2.2)
    else
     if (remI .u8 x.2.2.1 5) = 4 then
      law_L10 ((IntKind.u32.wrap (remI .u8 x.2.2.2 3)), [])
     else
      law_L10 (1, [])
theorem law_L4_ok : ∀ (x : (List S30) × (List S38) × Int × Int) (r : Bool), law_L4 x = some r → ∀ (W0 w0 : World) (S : Own), Std W0 w0 S 0 → PTo Tryz.prog W0 15 #[] (.returned (.bool true)) → HL Tryz.prog w0 S 267 (cL (cL (cR (cL (cR (cR (cR (cR (cR (cR (cB Tryz.f4))))))))))) (mkS [(1, ls 5 false enc30 x.1), (5, .pointer (some ⟨0, 0, none⟩)), (9, .pointer (some ⟨1, 0, none⟩)), (10, ls 6 false enc38 x.2.1), (11, .int .i64 0)] [(0, .cells [.int .u8 x.2.2.1, .int .u8 x.2.2.2] 33 2), (1, .cells [.int .u8 1, .int .u32 1, .bool true, .slice none 0 0, .slice none 0 0] 41 5)] 2 []) (Kblock 2 (Kseq Tryz.prog w0 S 267 (cR (cR (cR (cR (cR (cR (cR (cB Tryz.f4)))))))) (KEnd Tryz.prog Tryz.f4 (PEnd w0 S (.returned (.bool r)))))) := by
 intro x r h
 unfold law_L4 at h
 intro W0 w0 S hS
 intro HLV
 haveI := hS.noEx Tryz.prog
 refine HL.round ?_
 refine H.seq' ?_
 refine H.sg' ?_
 refine HO.go' 2 ?_
 refine HO.len (by kernel_rfl) (by kernel_rfl) (ls_size enc38 x.2.1) ?_
 refine HO.fin' 1 ?_
 refine H.cS' (decide (0 < (x.2.1.length : Int))) (fun hb => ?_) (fun hb => ?_)
 ·rw [if_pos (of_decide_eq_true hb)] at h
  refine H.skp' ?_
  refine Kseq_norm ?_
  refine H.seq' ?_
  refine H.blk' 3 ?_
  refine H.sg' ?_
  refine HO.go' 2 ?_
  obtain ⟨y4, hy, h⟩ := bindS h
  refine HO.idx (.agg #[.int .u8 y4.c0, .int .i64 y4.c1, .int .i64 y4.c2, .int .i64 y4.c3, .int .u8 y4.c4, ls 1 false (encI .u8) y4.c5]) hy (enc38_eq y4) (by kernel_rfl) ?_
  refine HO.go' 1 ?_
  obtain ⟨y5, hy, h⟩ := bindS h
  refine HO.callW hS [.agg [.keep, .keep, .keep, .keep, .keep, .list 1 false]] (cpTree_ok (y4.c0, y4.c1, y4.c2, y4.c3, y4.c4, y4.c5) y5 hy W0) (by kernel_rfl) (by kernel_rfl) ?_
  refine HO.fin' 6 ?_
  refine H.reg' ?_
  refine HO.go' 4 ?_
  refine HO.go' 1 ?_
  refine HO.go' 2 ?_
  refine HO.end' ?_
  refine Kblock_norm ?_
  refine Kseq_norm ?_
  refine H.toRow 4 41 5 [.int .u8 y5.1, .int .u32 y5.2.1, .bool y5.2.2.1, ls 1 false (encI .u8) y5.2.2.2.1, ls 5 false enc41 y5.2.2.2.2.1] (rowL enc41 [.int .u8 0, .int .u32 0, .bool false, .slice none 0 0, .slice none 0 0] [(S41.mk y5.1 y5.2.1 y5.2.2.1 y5.2.2.2.1 y5.2.2.2.2.1)] [(S41.mk y5.1 y5.2.1 y5.2.2.1 y5.2.2.2.1 y5.2.2.2.2.1)].length) (by rw [rowL_full]; simp only [flatE, List.flatMap_cons, List.flatMap_nil, enc41_eq]; rfl) (by kernel_rfl) ?_
  refine H.reg' ?_
  refine HO.go' 3 ?_
  refine HO.end' ?_
  refine Kloop_norm ?_
  exact HL.renR hS 2 [0, 1, 4] _ _ _ (by intro p hp hr; simp only [List.mem_cons, List.not_mem_nil, or_false] at hp; rcases hp with rfl | rfl | rfl <;> first | exact row_ren (fun f x => (by rw [enc41_eq]; rfl)) (fun f => rfl) _ _ | exact absurd hr (by simp)) (by kernel_rfl) (law_L5_ok (x.1, x.2.1, 1, x.2.2.1, x.2.2.2, [(S41.mk y5.1 y5.2.1 y5.2.2.1 y5.2.2.2.1 y5.2.2.2.2.1)]) r h W0 w0 S hS HLV)
 rw [if_neg (of_decide_eq_false hb)] at h
 refine H.ext' 2 ?_
 refine Kseq_exit ?_
 refine Kloop_exit ?_
 refine Kblock_hit ?_
 refine Kseq_norm ?_
 refine H.sg' ?_
 refine HO.go' 1 ?_
 obtain ⟨y9, hy, h⟩ := bindS h
 refine HO.callW hS [.list 5 false] (tOf_ok x.1 y9 hy W0) (by kernel_rfl) (by kernel_rfl) ?_
 refine HO.fin' 2 ?_
 refine H.seq' ?_
 refine H.sr' 3 ?_
 refine H.blk' 4 ?_
 refine H.sr' 2 ?_
 refine H.cS' (decide ((remI .u8 x.2.2.1 5) = 1)) (fun hb => ?_) (fun hb => ?_)
 ·rw [if_pos (of_decide_eq_true hb)] at h
  refine H.reg' ?_
  refine HO.go' 4 ?_
  refine HO.go' 1 ?_
  refine HO.go' 2 ?_
  refine HO.end' ?_
  refine Kblock_norm ?_
  refine Kseq_norm ?_
  refine H.toRow 4 41 5 [.int .u8 y9.1, .int .u32 y9.2.1, .bool y9.2.2.1, ls 1 false (encI .u8) y9.2.2.2.1, ls 5 false enc41 y9.2.2.2.2] (rowL enc41 [.int .u8 0, .int .u32 0, .bool false, .slice none 0 0, .slice none 0 0] [(S41.mk y9.1 y9.2.1 y9.2.2.1 y9.2.2.2.1 y9.2.2.2.2)] [(S41.mk y9.1 y9.2.1 y9.2.2.1 y9.2.2.2.1 y9.2.2.2.2)].length) (by rw [rowL_full]; simp only [flatE, List.flatMap_cons, List.flatMap_nil, enc41_eq]; rfl) (by kernel_rfl) ?_
  refine H.frcO (enc := enc41) (z := [.int .u8 0, .int .u32 0, .bool false, .slice none 0 0, .slice none 0 0]) (l := [(S41.mk y9.1 y9.2.1 y9.2.2.1 y9.2.2.2.1 y9.2.2.2.2)]) (te2 := 41) enc41_ok 1 41 5 4 4 [.int .u8 1, .int .u32 1, .bool true, .slice none 0 0, .slice (some ⟨4, 0, none⟩) [(S41.mk y9.1 y9.2.1 y9.2.2.1 y9.2.2.2.1 y9.2.2.2.2)].length 1180591620717411303424] (by kernel_rfl) ?_
  exact H.ren' hS [1] (law_L10_ok (1, [(S41.mk y9.1 y9.2.1 y9.2.2.1 y9.2.2.2.1 y9.2.2.2.2)]) r h W0 w0 S hS HLV)
 rw [if_neg (of_decide_eq_false hb)] at h
 refine H.sr' 2 ?_
 refine H.cS' (decide ((remI .u8 x.2.2.1 5) = 2)) (fun hb => ?_) (fun hb => ?_)
 ·rw [if_pos (of_decide_eq_true hb)] at h
  refine H.reg' ?_
  refine HO.go' 4 ?_
  refine HO.go' 1 ?_
  refine HO.go' 2 ?_
  refine HO.end' ?_
  refine Kblock_norm ?_
  refine Kseq_norm ?_
  refine H.frcE 1 41 5 4 [.int .u8 1, .int .u32 1, .bool true, .slice none 0 0, .slice (some ⟨3, 0, none⟩) 1 1] 3 1 1 5 41 true ([(S41.mk y9.1 y9.2.1 y9.2.2.1 y9.2.2.2.1 y9.2.2.2.2)].map enc41).toArray #[.agg #[.int .u8 y9.1, .int .u32 y9.2.1, .bool y9.2.2.1, ls 1 false (encI .u8) y9.2.2.2.1, ls 5 false enc41 y9.2.2.2.2]] [.int .u8 y9.1, .int .u32 y9.2.1, .bool y9.2.2.1, ls 1 false (encI .u8) y9.2.2.2.1, ls 5 false enc41 y9.2.2.2.2] (by simp only [List.map_cons, List.map_nil, enc41_eq]) (by kernel_rfl) ?_
  refine H.wkc 1 41 5 4 [.int .u8 1, .int .u32 1, .bool true, .slice none 0 0, ls 5 true enc41 [(S41.mk y9.1 y9.2.1 y9.2.2.1 y9.2.2.2.1 y9.2.2.2.2)]] (ls 5 true enc41 [(S41.mk y9.1 y9.2.1 y9.2.2.1 y9.2.2.2.1 y9.2.2.2.2)]) (ls 5 false enc41 [(S41.mk y9.1 y9.2.1 y9.2.2.1 y9.2.2.2.1 y9.2.2.2.2)]) (.list 5 false) (by kernel_rfl) ?_
  exact H.ren' hS [1] (law_L10_ok (1, [(S41.mk y9.1 y9.2.1 y9.2.2.1 y9.2.2.2.1 y9.2.2.2.2)]) r h W0 w0 S hS HLV)
 rw [if_neg (of_decide_eq_false hb)] at h
 refine H.sr' 2 ?_
 refine H.cS' (decide ((remI .u8 x.2.2.1 5) = 3)) (fun hb => ?_) (fun hb => ?_)
 ·rw [if_pos (of_decide_eq_true hb)] at h
  refine H.sr' 1 ?_
  refine H.blk' 5 ?_
  refine H.lop' ?_
  exact HL.ren' hS [0, 1] (law_L6_ok (x.2.2.1, x.2.2.2) r h W0 w0 S hS HLV)
 rw [if_neg (of_decide_eq_false hb)] at h
 refine H.sr' 2 ?_
 refine H.cS' (decide ((remI .u8 x.2.2.1 5) = 4)) (fun hb => ?_) (fun hb => ?_)
 rotate_left
 ·rw [if_neg (of_decide_eq_false hb)] at h
  refine H.skp' ?_
  refine Kblock_norm ?_
  refine Kseq_norm ?_
  refine H.wkc 1 41 5 4 [.int .u8 1, .int .u32 1, .bool true, .slice none 0 0, .slice none 0 0] (.slice none 0 0) (ls 5 false enc41 []) (.list 5 false) (by kernel_rfl) ?_
  exact H.ren' hS [1] (law_L10_ok (1, []) r h W0 w0 S hS HLV)
 rw [if_pos (of_decide_eq_true hb)] at h
 refine H.reg' ?_
 refine HO.go' 6 ?_
 refine HO.end' ?_
 refine Kblock_norm ?_
 refine Kseq_norm ?_
 refine H.wkc 1 41 5 4 [.int .u8 1, .int .u32 (IntKind.u32.wrap (remI .u8 x.2.2.2 3)), .bool true, .slice none 0 0, .slice none 0 0] (.slice none 0 0) (ls 5 false enc41 []) (.list 5 false) (by kernel_rfl) ?_
 exact H.ren' hS [1] (law_L10_ok ((IntKind.u32.wrap (remI .u8 x.2.2.2 3)), []) r h W0 w0 S hS HLV)
def law_L3 (x : (List S27) × (List S30) × Bool × Int × Int) : Option (Bool) :=
 if x.2.2.1 = true then
  some true
 else
  (listK x.1) >>= fun y3 =>
  law_L4 (x.2.1, y3, x.2.2.2.1, x.2.2.2.2)
theorem law_L3_ok : ∀ (x : (List S27) × (List S30) × Bool × Int × Int) (r : Bool), law_L3 x = some r → ∀ (W0 w0 : World) (S : Own), Std W0 w0 S 0 → PTo Tryz.prog W0 15 #[] (.returned (.bool true)) → H Tryz.prog w0 S 267 (cR (cL (cR (cR (cR (cB Tryz.f4)))))) (mkS [(0, ls 6 false enc27 x.1), (1, ls 5 false enc30 x.2.1), (5, .pointer (some ⟨0, 0, none⟩)), (55, .bool x.2.2.1)] [(0, .cells [.int .u8 x.2.2.2.1, .int .u8 x.2.2.2.2] 33 2)] 1 []) (Kseq Tryz.prog w0 S 267 (cR (cR (cR (cR (cB Tryz.f4))))) (KEnd Tryz.prog Tryz.f4 (PEnd w0 S (.returned (.bool r))))) := by
 intro x r h
 unfold law_L3 at h
 intro W0 w0 S hS
 intro HLV
 haveI := hS.noEx Tryz.prog
 refine H.cS' (x.2.2.1) (fun hb => ?_) (fun hb => ?_)
 ·rw [if_pos hb] at h
  refine H.sg' ?_
  refine HO.callW hS [] HLV (by kernel_rfl) (by kernel_rfl) ?_
  refine HO.fin' 1 ?_
  refine H.ret' ?_
  refine Kseq_ret ?_
  obtain rfl := Option.some.inj h
  exact KEnd.r'
 rw [if_neg (ne_true hb)] at h
 refine H.skp' ?_
 refine Kseq_norm ?_
 refine H.sr' 3 ?_
 refine H.sg' ?_
 refine HO.go' 1 ?_
 obtain ⟨y3, hy, h⟩ := bindS h
 refine HO.callW hS [.list 6 false] (listK_ok x.1 y3 hy W0) (by kernel_rfl) (by kernel_rfl) ?_
 refine HO.fin' 1 ?_
 refine H.seq' ?_
 refine H.sr' 1 ?_
 refine H.blk' 2 ?_
 refine H.lop' ?_
 exact HL.ren' hS [0, 1] (law_L4_ok (x.2.1, y3, x.2.2.2.1, x.2.2.2.2) r h W0 w0 S hS HLV)
mutual
def law_L2 (x : (List S27) × (List S30) × Int × Int × Bool × Int × Int) : Option (Bool) :=
 if x.2.2.2.2.1 = true then
  (at' x.1 x.2.2.2.1) >>= fun y1 =>
  law_L1 (x.1, x.2.1, (IntKind.i64.wrap (x.2.2.1 + (y1.c5.length : Int))), (IntKind.i64.wrap (x.2.2.2.1 + 1)), x.2.2.2.2.2.1, x.2.2.2.2.2.2)
 else
  if 10 < (x.1.length : Int) then
   law_L3 (x.1, x.2.1, true, x.2.2.2.2.2.1, x.2.2.2.2.2.2)
  else
   if 2000 < x.2.2.1 then
    law_L3 (x.1, x.2.1, true, x.2.2.2.2.2.1, x.2.2.2.2.2.2)
   else
    (big31 x.2.1) >>= fun y2 =>
    law_L3 (x.1, x.2.1, y2, x.2.2.2.2.2.1, x.2.2.2.2.2.2)
partial_fixpoint
def law_L1 (x : (List S27) × (List S30) × Int × Int × Int × Int) : Option (Bool) :=
 if x.2.2.2.1 < (x.1.length : Int) then
  law_L2 (x.1, x.2.1, x.2.2.1, x.2.2.2.1, (decide (x.2.2.2.1 < 20)), x.2.2.2.2.1, x.2.2.2.2.2)
 else
  law_L2 (x.1, x.2.1, x.2.2.1, x.2.2.2.1, false, x.2.2.2.2.1, x.2.2.2.2.2)
partial_fixpoint
end
abbrev T_law_L2 (x : (List S27) × (List S30) × Int × Int × Bool × Int × Int) (r : Bool) : Prop := ∀ (W0 w0 : World) (S : Own), Std W0 w0 S 0 → PTo Tryz.prog W0 15 #[] (.returned (.bool true)) → H Tryz.prog w0 S 267 (cR (cL (cL (cL (cR (cL (cR (cR (cB Tryz.f4))))))))) (mkS [(0, ls 6 false enc27 x.1), (1, ls 5 false enc30 x.2.1), (5, .pointer (some ⟨0, 0, none⟩)), (7, .int .i64 x.2.2.1), (8, .int .i64 x.2.2.2.1), (34, .bool x.2.2.2.2.1)] [(0, .cells [.int .u8 x.2.2.2.2.2.1, .int .u8 x.2.2.2.2.2.2] 33 2)] 1 []) (Kseq Tryz.prog w0 S 267 (cR (cL (cL (cR (cL (cR (cR (cB Tryz.f4)))))))) (Kloop Tryz.prog w0 S 267 (cL (cL (cR (cL (cR (cR (cB Tryz.f4))))))) (Kblock 0 (Kseq Tryz.prog w0 S 267 (cR (cR (cR (cB Tryz.f4)))) (KEnd Tryz.prog Tryz.f4 (PEnd w0 S (.returned (.bool r))))))))
abbrev T_law_L1 (x : (List S27) × (List S30) × Int × Int × Int × Int) (r : Bool) : Prop := ∀ (W0 w0 : World) (S : Own), Std W0 w0 S 0 → PTo Tryz.prog W0 15 #[] (.returned (.bool true)) → HL Tryz.prog w0 S 267 (cL (cL (cR (cL (cR (cR (cB Tryz.f4))))))) (mkS [(0, ls 6 false enc27 x.1), (1, ls 5 false enc30 x.2.1), (5, .pointer (some ⟨0, 0, none⟩)), (7, .int .i64 x.2.2.1), (8, .int .i64 x.2.2.2.1)] [(0, .cells [.int .u8 x.2.2.2.2.1, .int .u8 x.2.2.2.2.2] 33 2)] 1 []) (Kblock 0 (Kseq Tryz.prog w0 S 267 (cR (cR (cR (cB Tryz.f4)))) (KEnd Tryz.prog Tryz.f4 (PEnd w0 S (.returned (.bool r))))))
theorem law_L2_grp : (∀ x r, law_L2 x = some r → T_law_L2 x r) ∧
 (∀ x r, law_L1 x = some r → T_law_L1 x r) := by
 refine law_L2.mutual_partial_correctness T_law_L2 T_law_L1 ?_ ?_
 ·intro g_law_L1 ih_law_L1 x r h
  intro W0 w0 S hS
  intro HLV
  haveI := hS.noEx Tryz.prog
  refine H.cS' (x.2.2.2.2.1) (fun hb => ?_) (fun hb => ?_)
  ·rw [if_pos hb] at h
   refine H.skp' ?_
   refine Kseq_norm ?_
   refine H.seq' ?_
   refine H.blk' 1 ?_
   refine H.reg' ?_
   refine HO.go' 3 ?_
   obtain ⟨y1, hy, h⟩ := bindS h
   refine HO.idx (.agg #[.int .u8 y1.c0, .int .u8 y1.c1, .int .u8 y1.c2, .int .u8 y1.c3, .int .u8 y1.c4, ls 1 false (encI .u8) y1.c5]) hy (enc27_eq y1) (by kernel_rfl) ?_
   refine HO.go' 2 ?_
   refine HO.len (by kernel_rfl) (by kernel_rfl) (ls_size (encI .u8) y1.c5) ?_
   refine HO.go' 2 ?_
   refine HO.end' ?_
   refine Kblock_norm ?_
   refine Kseq_norm ?_
   refine H.reg' ?_
   refine HO.go' 3 ?_
   refine HO.end' ?_
   refine Kloop_norm ?_
   exact HL.ren' hS [0] (ih_law_L1 (x.1, x.2.1, (IntKind.i64.wrap (x.2.2.1 + (y1.c5.length : Int))), (IntKind.i64.wrap (x.2.2.2.1 + 1)), x.2.2.2.2.2.1, x.2.2.2.2.2.2) r h W0 w0 S hS HLV)
  rw [if_neg (ne_true hb)] at h
  refine H.ext' 0 ?_
  refine Kseq_exit ?_
  refine Kloop_exit ?_
  refine Kblock_hit ?_
  refine Kseq_norm ?_
  refine H.seq' ?_
  refine H.sg' ?_
  refine HO.go' 1 ?_
  refine HO.len (by kernel_rfl) (by kernel_rfl) (ls_size enc27 x.1) ?_
  refine HO.go' 1 ?_
  refine HO.bo' (decide (10 < (x.1.length : Int))) (fun hb => ?_) (fun hb => ?_)
  ·rw [if_pos (of_decide_eq_true hb)] at h
   refine HO.fin' 7 ?_
   exact H.ren' hS [0] (law_L3_ok (x.1, x.2.1, true, x.2.2.2.2.2.1, x.2.2.2.2.2.2) r h W0 w0 S hS HLV)
  rw [if_neg (of_decide_eq_false hb)] at h
  refine HO.go' 3 ?_
  refine HO.bo' (decide (2000 < x.2.2.1)) (fun hb => ?_) (fun hb => ?_)
  ·rw [if_pos (of_decide_eq_true hb)] at h
   refine HO.fin' 3 ?_
   exact H.ren' hS [0] (law_L3_ok (x.1, x.2.1, true, x.2.2.2.2.2.1, x.2.2.2.2.2.2) r h W0 w0 S hS HLV)
  rw [if_neg (of_decide_eq_false hb)] at h
  refine HO.go' 1 ?_
  obtain ⟨y2, hy, h⟩ := bindS h
  refine HO.callW hS [.list 5 false] (big31_ok x.2.1 y2 hy W0) (by kernel_rfl) (by kernel_rfl) ?_
  refine HO.fin' 1 ?_
  exact H.ren' hS [0] (law_L3_ok (x.1, x.2.1, y2, x.2.2.2.2.2.1, x.2.2.2.2.2.2) r h W0 w0 S hS HLV)
 ·intro g_law_L2 ih_law_L2 x r h
  intro W0 w0 S hS
  intro HLV
  haveI := hS.noEx Tryz.prog
  refine HL.round ?_
  refine H.seq' ?_
  refine H.sg' ?_
  refine HO.go' 2 ?_
  refine HO.len (by kernel_rfl) (by kernel_rfl) (ls_size enc27 x.1) ?_
  refine HO.go' 1 ?_
  refine HO.bo' (decide (x.2.2.2.1 < (x.1.length : Int))) (fun hb => ?_) (fun hb => ?_)
  ·rw [if_pos (of_decide_eq_true hb)] at h
   refine HO.fin' 3 ?_
   exact H.ren' hS [0] (ih_law_L2 (x.1, x.2.1, x.2.2.1, x.2.2.2.1, (decide (x.2.2.2.1 < 20)), x.2.2.2.2.1, x.2.2.2.2.2) r h W0 w0 S hS HLV)
  rw [if_neg (of_decide_eq_false hb)] at h
  refine HO.fin' 3 ?_
  exact H.ren' hS [0] (ih_law_L2 (x.1, x.2.1, x.2.2.1, x.2.2.2.1, false, x.2.2.2.2.1, x.2.2.2.2.2) r h W0 w0 S hS HLV)
theorem law_L2_ok : ∀ x r, law_L2 x = some r → T_law_L2 x r := law_L2_grp.1
theorem law_L1_ok : ∀ x r, law_L1 x = some r → T_law_L1 x r := law_L2_grp.2
def law (x : (List S27) × (List S30) × Int × Int) : Option (Bool) :=
 law_L1 (x.1, x.2.1, 0, 0, x.2.2.1, x.2.2.2)
theorem law_ok : ∀ (x : (List S27) × (List S30) × Int × Int) (r : Bool), law x = some r → ∀ W0 : World, PTo Tryz.prog W0 15 #[] (.returned (.bool true)) → PTo Tryz.prog W0 4 #[ls 6 false enc27 x.1, ls 5 false enc30 x.2.1, .agg #[.int .u8 x.2.2.1, .int .u8 x.2.2.2]] (.returned (.bool r)) := by
 intro x r h
 unfold law at h
 intro W0
 intro HLV
 refine PTo.of_body (fn := Tryz.f4) (code := cB Tryz.f4) Tryz.func4 rfl rfl ?_
 intro w0 S hS
 haveI := hS.noEx Tryz.prog
 refine H.sr' 2 ?_
 refine H.sr' 1 ?_
 refine H.seq' ?_
 refine H.sr' 1 ?_
 refine H.blk' 0 ?_
 refine H.lop' ?_
 exact HL.ren' hS [0] (law_L1_ok (x.1, x.2.1, 0, 0, x.2.2.1, x.2.2.2) r h W0 w0 S hS HLV)
end Vf
