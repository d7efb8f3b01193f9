import Derived.Test.YtcokmnpgeokfpaaDoorVfW
set_option linter.unusedVariables false
set_option linter.unusedSimpArgs false
set_option maxHeartbeats 4000000
namespace Vf
open Go Go.Vx Go.Proofs
def fieldsC_L5 (x : Int × Bool × Int × Int × Int × (List S36)) : Option (Int × Int × Int × Int × Int × (List Int) × Bool) :=
  if x.2.1 = true then
    some (x.2.2.1, x.2.2.2.1, x.2.2.2.2.1, 0, 0, [], false)
  else
    (at' x.2.2.2.2.2 0) >>= fun y8 =>
    (cloneS y8.c3) >>= fun y9 =>
    (clip y9) >>= fun y10 =>
    if y8.c0 = 0 then
      if y8.c1 = 4 then
        fieldsC_L6 ((!y8.c2), x.2.2.1, x.2.2.2.1, x.2.2.2.2.1, x.1, y10)
      else
        fieldsC_L6 (false, x.2.2.1, x.2.2.2.1, x.2.2.2.2.1, x.1, y10)
    else
      fieldsC_L6 (false, x.2.2.1, x.2.2.2.1, x.2.2.2.2.1, x.1, y10)
theorem fieldsC_L5_ok : ∀ (x : Int × Bool × Int × Int × Int × (List S36)) (r : Int × Int × Int × Int × Int × (List Int) × Bool), fieldsC_L5 x = some r → ∀ (W0 w0 : World) (S : Own), Std W0 w0 S 0 → H Tryd.prog w0 S 111 (cR (cL (cR (cR (cR (cR (cR (cR (cR (cR (cB Tryd.f64))))))))))) (mkS [(2, .pointer (some ⟨0, 0, none⟩)), (4, .pointer (some ⟨1, 0, none⟩)), (5, .pointer (some ⟨2, 0, none⟩)), (13, .int .i64 x.1), (85, .bool x.2.1)] [(0, .cells [.int .u8 0, .int .i64 0, .int .i64 0, .int .i64 0, .int .u8 0, .slice none 0 0] 70 6), (1, .cells [.int .u8 x.2.2.1, .int .i64 x.2.2.2.1, .int .i64 x.2.2.2.2.1, .int .i64 0, .int .u8 0, .slice none 0 0] 70 6), (2, .cells [ls 5 false enc36 x.2.2.2.2.2] 34 1)] 3 []) (Kseq Tryd.prog w0 S 111 (cR (cR (cR (cR (cR (cR (cR (cR (cR (cB Tryd.f64)))))))))) (KEnd Tryd.prog Tryd.f64 (PEnd w0 S (.returned (.tuple #[.agg #[.int .u8 r.1, .int .i64 r.2.1, .int .i64 r.2.2.1, .int .i64 r.2.2.2.1, .int .u8 r.2.2.2.2.1, ls 1 false (encI .u8) r.2.2.2.2.2.1], .bool r.2.2.2.2.2.2]))))) := by
  intro x r h
  unfold fieldsC_L5 at h
  intro W0 w0 S hS
  haveI := hS.noEx Tryd.prog
  refine H.cS' (x.2.1) (fun hb => ?_) (fun hb => ?_)
  · rw [if_pos hb] at h
    refine H.sr' 3 ?_
    refine H.ret' ?_
    refine Kseq_ret ?_
    obtain rfl := Option.some.inj h
    exact KEnd.retW (v := .tuple #[.agg #[.int .u8 x.2.2.1, .int .i64 x.2.2.2.1, .int .i64 x.2.2.2.2.1, .int .i64 0, .int .u8 0, .slice none 0 0], .bool false]) (.tuple [.agg [.keep, .keep, .keep, .keep, .keep, .list 1 false], .keep]) (by kernel_rfl) (by kernel_rfl) (by kernel_rfl) (by kernel_rfl)
  rw [if_neg (ne_true hb)] at h
  refine H.skp' ?_
  refine Kseq_norm ?_
  refine H.sr' 3 ?_
  refine H.sg' ?_
  refine HO.go' 1 ?_
  obtain ⟨y8, hy, h⟩ := bindS h
  refine HO.idx (.agg #[.int .u8 y8.c0, .int .u32 y8.c1, .bool y8.c2, ls 1 false (encI .u8) y8.c3, ls 5 false enc36 y8.c4]) hy (enc36_eq y8) (by kernel_rfl) ?_
  refine HO.fin' 3 ?_
  refine H.sg' ?_
  refine HO.go' 2 ?_
  obtain ⟨y9, hy, h⟩ := bindS h
  refine HO.callW hS [.list 1 false] (cloneS_ok y8.c3 y9 hy W0) (by kernel_rfl) (by kernel_rfl) ?_
  obtain ⟨y10, hy, h⟩ := bindS h
  refine HO.callW hS [.list 1 false] (clip_ok y9 y10 hy W0) (by kernel_rfl) (by kernel_rfl) ?_
  refine HO.fin' 2 ?_
  refine H.seq' ?_
  refine H.drawQ ?_
  refine HQ.go' 4 ?_
  refine HQ.boolP (decide (y8.c0 = 0)) (by kernel_rfl) (by kernel_rfl) (fun hb => ?_) (fun hb => ?_)
  rotate_left
  · rw [if_neg (of_decide_eq_false hb)] at h
    refine HQ.go' 11 ?_
    refine HQ.done (by kernel_rfl) (by kernel_rfl) (by kernel_rfl) ?_
    refine Kseq_norm ?_
    exact H.ren' hS [0] (fieldsC_L6_ok (false, x.2.2.1, x.2.2.2.1, x.2.2.2.2.1, x.1, y10) r h W0 w0 S hS)
  rw [if_pos (of_decide_eq_true hb)] at h
  refine HQ.go' 4 ?_
  refine HQ.boolP (decide (y8.c1 = 4)) (by kernel_rfl) (by kernel_rfl) (fun hb => ?_) (fun hb => ?_)
  · rw [if_pos (of_decide_eq_true hb)] at h
    refine HQ.go' 6 ?_
    refine HQ.done (by kernel_rfl) (by kernel_rfl) (by kernel_rfl) ?_
    refine Kseq_norm ?_
    exact H.ren' hS [0] (fieldsC_L6_ok ((!y8.c2), x.2.2.1, x.2.2.2.1, x.2.2.2.2.1, x.1, y10) r h W0 w0 S hS)
  rw [if_neg (of_decide_eq_false hb)] at h
  refine HQ.go' 6 ?_
  refine HQ.done (by kernel_rfl) (by kernel_rfl) (by kernel_rfl) ?_
  refine Kseq_norm ?_
  exact H.ren' hS [0] (fieldsC_L6_ok (false, x.2.2.1, x.2.2.2.1, x.2.2.2.2.1, x.1, y10) r h W0 w0 S hS)
def fieldsC_L4 (x : Int × Int × Int × (List S36)) : Option (Int × Int × Int × Int × Int × (List Int) × Bool) :=
  (takeF (0, 10, 0, 255, x.2.2.2)) >>= fun y7 =>
  if (!y7.2.1) = true then
    fieldsC_L5 (y7.1, true, x.1, x.2.1, x.2.2.1, y7.2.2)
  else
    fieldsC_L5 (y7.1, (!decide ((y7.2.2.length : Int) = 1)), x.1, x.2.1, x.2.2.1, y7.2.2)
theorem fieldsC_L4_ok : ∀ (x : Int × Int × Int × (List S36)) (r : Int × Int × Int × Int × Int × (List Int) × Bool), fieldsC_L4 x = some r → ∀ (W0 w0 : World) (S : Own), Std W0 w0 S 0 → H Tryd.prog w0 S 111 (cR (cR (cR (cR (cR (cR (cR (cB Tryd.f64)))))))) (mkS [(2, .pointer (some ⟨0, 0, none⟩)), (4, .pointer (some ⟨1, 0, none⟩)), (5, .pointer (some ⟨2, 0, none⟩)), (6, .func (.func 88) #[] #[.pointer (some ⟨2, 0, none⟩)])] [(0, .cells [.int .u8 0, .int .i64 0, .int .i64 0, .int .i64 0, .int .u8 0, .slice none 0 0] 70 6), (1, .cells [.int .u8 x.1, .int .i64 x.2.1, .int .i64 x.2.2.1, .int .i64 0, .int .u8 0, .slice none 0 0] 70 6), (2, .cells [ls 5 false enc36 x.2.2.2] 34 1)] 3 []) (KEnd Tryd.prog Tryd.f64 (PEnd w0 S (.returned (.tuple #[.agg #[.int .u8 r.1, .int .i64 r.2.1, .int .i64 r.2.2.1, .int .i64 r.2.2.2.1, .int .u8 r.2.2.2.2.1, ls 1 false (encI .u8) r.2.2.2.2.2.1], .bool r.2.2.2.2.2.2])))) := by
  intro x r h
  unfold fieldsC_L4 at h
  intro W0 w0 S hS
  haveI := hS.noEx Tryd.prog
  refine H.sg' ?_
  refine HO.go' 1 ?_
  obtain ⟨y7, hy, h⟩ := bindS h
  refine HO.callFW hS (.tuple #[.int .i64 y7.1, .bool y7.2.1]) 3 [] [(0, .cells [.int .u8 0, .int .i64 0, .int .i64 0, .int .i64 0, .int .u8 0, .slice none 0 0] 70 6), (1, .cells [.int .u8 x.1, .int .i64 x.2.1, .int .i64 x.2.2.1, .int .i64 0, .int .u8 0, .slice none 0 0] 70 6), (2, .cells [ls 5 false enc36 y7.2.2] 34 1)] [2] [.keep, .keep, .keep, .keep, .keep] (takeF_ok (0, 10, 0, 255, x.2.2.2) y7 hy W0) (by kernel_rfl) (by kernel_rfl) ?_
  refine HO.fin' 5 ?_
  refine H.seq' ?_
  refine H.sg' ?_
  refine HO.go' 2 ?_
  refine HO.bo' (!y7.2.1) (fun hb => ?_) (fun hb => ?_)
  · rw [if_pos hb] at h
    refine HO.fin' 4 ?_
    exact H.ren' hS [0, 1, 2] (fieldsC_L5_ok (y7.1, true, x.1, x.2.1, x.2.2.1, y7.2.2) r h W0 w0 S hS)
  rw [if_neg (ne_true hb)] at h
  refine HO.go' 1 ?_
  refine HO.len (by kernel_rfl) (by kernel_rfl) (ls_size enc36 y7.2.2) ?_
  refine HO.fin' 2 ?_
  exact H.ren' hS [0, 1, 2] (fieldsC_L5_ok (y7.1, (!decide ((y7.2.2.length : Int) = 1)), x.1, x.2.1, x.2.2.1, y7.2.2) r h W0 w0 S hS)
def fieldsC_L2 (x : Int × Int × (List S36)) : Option (Int × Int × Int × Int × Int × (List Int) × Bool) :=
  if x.1 = 5 then
    (takeF (2, 1, 1, 7, x.2.2)) >>= fun y5 =>
    if y5.2.1 = true then
      fieldsC_L3 ((decide ((y5.2.2.length : Int) = 0)), x.1, x.2.1, (IntKind.u8.wrap y5.1))
    else
      fieldsC_L3 (false, x.1, x.2.1, (IntKind.u8.wrap y5.1))
  else
    if x.1 = 1 then
      (takeF (2, 0, 0, 127, x.2.2)) >>= fun y6 =>
      if y6.2.1 = true then
        fieldsC_L4 (x.1, x.2.1, y6.1, y6.2.2)
      else
        fieldsC_L4 (x.1, x.2.1, (-1), y6.2.2)
    else
      fieldsC_L4 (x.1, x.2.1, 0, x.2.2)
theorem fieldsC_L2_ok : ∀ (x : Int × Int × (List S36)) (r : Int × Int × Int × Int × Int × (List Int) × Bool), fieldsC_L2 x = some r → ∀ (W0 w0 : World) (S : Own), Std W0 w0 S 0 → H Tryd.prog w0 S 111 (cR (cR (cR (cR (cR (cB Tryd.f64)))))) (mkS [(2, .pointer (some ⟨0, 0, none⟩)), (4, .pointer (some ⟨1, 0, none⟩)), (5, .pointer (some ⟨2, 0, none⟩)), (6, .func (.func 88) #[] #[.pointer (some ⟨2, 0, none⟩)])] [(0, .cells [.int .u8 0, .int .i64 0, .int .i64 0, .int .i64 0, .int .u8 0, .slice none 0 0] 70 6), (1, .cells [.int .u8 x.1, .int .i64 x.2.1, .int .i64 0, .int .i64 0, .int .u8 0, .slice none 0 0] 70 6), (2, .cells [ls 5 false enc36 x.2.2] 34 1)] 3 []) (KEnd Tryd.prog Tryd.f64 (PEnd w0 S (.returned (.tuple #[.agg #[.int .u8 r.1, .int .i64 r.2.1, .int .i64 r.2.2.1, .int .i64 r.2.2.2.1, .int .u8 r.2.2.2.2.1, ls 1 false (encI .u8) r.2.2.2.2.2.1], .bool r.2.2.2.2.2.2])))) := by
  intro x r h
  unfold fieldsC_L2 at h
  intro W0 w0 S hS
  haveI := hS.noEx Tryd.prog
  refine H.seq' ?_
  refine H.sr' 3 ?_
  refine H.cS' (decide (x.1 = 5)) (fun hb => ?_) (fun hb => ?_)
  · rw [if_pos (of_decide_eq_true hb)] at h
    refine H.sg' ?_
    refine HO.go' 1 ?_
    obtain ⟨y5, hy, h⟩ := bindS h
    refine HO.callFW hS (.tuple #[.int .i64 y5.1, .bool y5.2.1]) 3 [] [(0, .cells [.int .u8 0, .int .i64 0, .int .i64 0, .int .i64 0, .int .u8 0, .slice none 0 0] 70 6), (1, .cells [.int .u8 x.1, .int .i64 x.2.1, .int .i64 0, .int .i64 0, .int .u8 0, .slice none 0 0] 70 6), (2, .cells [ls 5 false enc36 y5.2.2] 34 1)] [2] [.keep, .keep, .keep, .keep, .keep] (takeF_ok (2, 1, 1, 7, x.2.2) y5 hy W0) (by kernel_rfl) (by kernel_rfl) ?_
    refine HO.fin' 5 ?_
    refine H.sr' 4 ?_
    refine H.seq' ?_
    refine H.drawQ ?_
    refine HQ.go' 2 ?_
    refine HQ.boolP y5.2.1 (by kernel_rfl) (by kernel_rfl) (fun hb => ?_) (fun hb => ?_)
    rotate_left
    · rw [if_neg (ne_true hb)] at h
      refine HQ.go' 6 ?_
      refine HQ.done (by kernel_rfl) (by kernel_rfl) (by kernel_rfl) ?_
      refine Kseq_norm ?_
      exact H.ren' hS [0] (fieldsC_L3_ok (false, x.1, x.2.1, (IntKind.u8.wrap y5.1)) r h W0 w0 S hS)
    rw [if_pos hb] at h
    refine HQ.go' 1 ?_
    refine HQ.len (by kernel_rfl) (ls_size enc36 y5.2.2) ?_
    refine HQ.go' 4 ?_
    refine HQ.done (by kernel_rfl) (by kernel_rfl) (by kernel_rfl) ?_
    refine Kseq_norm ?_
    exact H.ren' hS [0] (fieldsC_L3_ok ((decide ((y5.2.2.length : Int) = 0)), x.1, x.2.1, (IntKind.u8.wrap y5.1)) r h W0 w0 S hS)
  rw [if_neg (of_decide_eq_false hb)] at h
  refine H.skp' ?_
  refine Kseq_norm ?_
  refine H.seq' ?_
  refine H.sr' 3 ?_
  refine H.cS' (decide (x.1 = 1)) (fun hb => ?_) (fun hb => ?_)
  rotate_left
  · rw [if_neg (of_decide_eq_false hb)] at h
    refine H.skp' ?_
    refine Kseq_norm ?_
    exact H.ren' hS [0, 1, 2] (fieldsC_L4_ok (x.1, x.2.1, 0, x.2.2) r h W0 w0 S hS)
  rw [if_pos (of_decide_eq_true hb)] at h
  refine H.sr' 2 ?_
  refine H.sg' ?_
  refine HO.go' 1 ?_
  obtain ⟨y6, hy, h⟩ := bindS h
  refine HO.callFW hS (.tuple #[.int .i64 y6.1, .bool y6.2.1]) 3 [] [(0, .cells [.int .u8 0, .int .i64 0, .int .i64 0, .int .i64 0, .int .u8 0, .slice none 0 0] 70 6), (1, .cells [.int .u8 x.1, .int .i64 x.2.1, .int .i64 (-1), .int .i64 0, .int .u8 0, .slice none 0 0] 70 6), (2, .cells [ls 5 false enc36 y6.2.2] 34 1)] [2] [.keep, .keep, .keep, .keep, .keep] (takeF_ok (2, 0, 0, 127, x.2.2) y6 hy W0) (by kernel_rfl) (by kernel_rfl) ?_
  refine HO.fin' 5 ?_
  refine H.sr' 1 ?_
  refine H.cS' (y6.2.1) (fun hb => ?_) (fun hb => ?_)
  rotate_left
  · rw [if_neg (ne_true hb)] at h
    refine H.skp' ?_
    refine Kseq_norm ?_
    exact H.ren' hS [0, 1, 2] (fieldsC_L4_ok (x.1, x.2.1, (-1), y6.2.2) r h W0 w0 S hS)
  rw [if_pos hb] at h
  refine H.reg' ?_
  refine HO.fin' 3 ?_
  exact H.ren' hS [0, 1, 2] (fieldsC_L4_ok (x.1, x.2.1, y6.1, y6.2.2) r h W0 w0 S hS)
def fieldsC_L1 (x : Bool × Int × (List S36)) : Option (Int × Int × Int × Int × Int × (List Int) × Bool) :=
  if x.1 = true then
    (sub' x.2.2 1 (x.2.2.length : Int)) >>= fun y4 =>
    fieldsC_L2 (x.2.1, (-1), y4)
  else
    some (x.2.1, (-1), 0, 0, 0, [], false)
theorem fieldsC_L1_ok : ∀ (x : Bool × Int × (List S36)) (r : Int × Int × Int × Int × Int × (List Int) × Bool), fieldsC_L1 x = some r → ∀ (W0 w0 : World) (S : Own), Std W0 w0 S 0 → H Tryd.prog w0 S 111 (cR (cR (cR (cR (cL (cR (cR (cR (cR (cB Tryd.f64)))))))))) (mkS [(2, .pointer (some ⟨0, 0, none⟩)), (4, .pointer (some ⟨1, 0, none⟩)), (5, .pointer (some ⟨2, 0, none⟩)), (6, .func (.func 88) #[] #[.pointer (some ⟨2, 0, none⟩)]), (40, .bool x.1)] [(0, .cells [.int .u8 0, .int .i64 0, .int .i64 0, .int .i64 0, .int .u8 0, .slice none 0 0] 70 6), (1, .cells [.int .u8 x.2.1, .int .i64 (-1), .int .i64 0, .int .i64 0, .int .u8 0, .slice none 0 0] 70 6), (2, .cells [ls 5 false enc36 x.2.2] 34 1)] 3 []) (Kseq Tryd.prog w0 S 111 (cR (cR (cR (cR (cR (cB Tryd.f64)))))) (KEnd Tryd.prog Tryd.f64 (PEnd w0 S (.returned (.tuple #[.agg #[.int .u8 r.1, .int .i64 r.2.1, .int .i64 r.2.2.1, .int .i64 r.2.2.2.1, .int .u8 r.2.2.2.2.1, ls 1 false (encI .u8) r.2.2.2.2.2.1], .bool r.2.2.2.2.2.2]))))) := by
  intro x r h
  unfold fieldsC_L1 at h
  intro W0 w0 S hS
  haveI := hS.noEx Tryd.prog
  refine H.cS' (x.1) (fun hb => ?_) (fun hb => ?_)
  · rw [if_pos hb] at h
    refine H.reg' ?_
    refine HO.go' 1 ?_
    obtain ⟨y4, hy, h⟩ := bindS h
    refine HO.valA (sl1_aop (enc := enc36) (k := 5) (j := .i64) false hy (by kernel_rfl)) ?_
    refine HO.fin' 1 ?_
    exact H.ren' hS [0, 1, 2] (fieldsC_L2_ok (x.2.1, (-1), y4) r h W0 w0 S hS)
  rw [if_neg (ne_true hb)] at h
  refine H.sr' 3 ?_
  refine H.ret' ?_
  refine Kseq_ret ?_
  obtain rfl := Option.some.inj h
  exact KEnd.retW (v := .tuple #[.agg #[.int .u8 x.2.1, .int .i64 (-1), .int .i64 0, .int .i64 0, .int .u8 0, .slice none 0 0], .bool false]) (.tuple [.agg [.keep, .keep, .keep, .keep, .keep, .list 1 false], .keep]) (by kernel_rfl) (by kernel_rfl) (by kernel_rfl) (by kernel_rfl)
def fieldsC (x : Int × Int × Bool × (List Int) × (List S36)) : Option (Int × Int × Int × Int × Int × (List Int) × Bool) :=
  (takeF (0, 2, 0, 127, x.2.2.2.2)) >>= fun y1 =>
  if y1.2.1 = true then
    fieldsC_L2 ((IntKind.u8.wrap x.2.1), y1.1, y1.2.2)
  else
    if 0 < (y1.2.2.length : Int) then
      (at' y1.2.2 0) >>= fun y2 =>
      (sameT (y2.c0, y2.c1, y2.c2, y2.c3, y2.c4, 0, 5, false, [], [])) >>= fun y3 =>
      fieldsC_L1 (y3, (IntKind.u8.wrap x.2.1), y1.2.2)
    else
      fieldsC_L1 (false, (IntKind.u8.wrap x.2.1), y1.2.2)
theorem fieldsC_ok : ∀ (x : Int × Int × Bool × (List Int) × (List S36)) (r : Int × Int × Int × Int × Int × (List Int) × Bool), fieldsC x = some r → ∀ W0 : World, PTo Tryd.prog W0 64 #[.agg #[.int .u8 x.1, .int .u32 x.2.1, .bool x.2.2.1, ls 1 false (encI .u8) x.2.2.2.1, ls 5 false enc36 x.2.2.2.2]] (.returned (.tuple #[.agg #[.int .u8 r.1, .int .i64 r.2.1, .int .i64 r.2.2.1, .int .i64 r.2.2.2.1, .int .u8 r.2.2.2.2.1, ls 1 false (encI .u8) r.2.2.2.2.2.1], .bool r.2.2.2.2.2.2])) := by
  intro x r h
  unfold fieldsC at h
  intro W0
  refine PTo.of_body (fn := Tryd.f64) (code := cB Tryd.f64) Tryd.func64 rfl rfl ?_
  intro w0 S hS
  haveI := hS.noEx Tryd.prog
  refine H.sr' 3 ?_
  refine H.sr' 6 ?_
  refine H.sr' 4 ?_
  refine H.sr' 2 ?_
  refine H.seq' ?_
  refine H.sg' ?_
  refine HO.go' 1 ?_
  obtain ⟨y1, hy, h⟩ := bindS h
  refine HO.callFW hS (.tuple #[.int .i64 y1.1, .bool y1.2.1]) 4 [] [(0, .cells [.int .u8 x.1, .int .u32 x.2.1, .bool x.2.2.1, ls 1 false (encI .u8) x.2.2.2.1, ls 5 false enc36 x.2.2.2.2] 36 5), (1, .cells [.int .u8 0, .int .i64 0, .int .i64 0, .int .i64 0, .int .u8 0, .slice none 0 0] 70 6), (2, .cells [.int .u8 (IntKind.u8.wrap x.2.1), .int .i64 (-1), .int .i64 0, .int .i64 0, .int .u8 0, .slice none 0 0] 70 6), (3, .cells [ls 5 false enc36 y1.2.2] 34 1)] [3] [.keep, .keep, .keep, .keep, .keep] (takeF_ok (0, 2, 0, 127, x.2.2.2.2) y1 hy W0) (by kernel_rfl) (by kernel_rfl) ?_
  refine HO.fin' 5 ?_
  refine H.sr' 1 ?_
  refine H.cS' (y1.2.1) (fun hb => ?_) (fun hb => ?_)
  · rw [if_pos hb] at h
    refine H.reg' ?_
    refine HO.fin' 3 ?_
    exact H.ren' hS [1, 2, 3] (fieldsC_L2_ok ((IntKind.u8.wrap x.2.1), y1.1, y1.2.2) r h W0 w0 S hS)
  rw [if_neg (ne_true hb)] at h
  refine H.sg' ?_
  refine HO.go' 1 ?_
  refine HO.len (by kernel_rfl) (by kernel_rfl) (ls_size enc36 y1.2.2) ?_
  refine HO.go' 1 ?_
  refine HO.bo' (decide (0 < (y1.2.2.length : Int))) (fun hb => ?_) (fun hb => ?_)
  rotate_left
  · rw [if_neg (of_decide_eq_false hb)] at h
    refine HO.fin' 6 ?_
    exact H.ren' hS [1, 2, 3] (fieldsC_L1_ok (false, (IntKind.u8.wrap x.2.1), y1.2.2) r h W0 w0 S hS)
  rw [if_pos (of_decide_eq_true hb)] at h
  refine HO.go' 1 ?_
  obtain ⟨y2, hy, h⟩ := bindS h
  refine HO.idx (.agg #[.int .u8 y2.c0, .int .u32 y2.c1, .bool y2.c2, ls 1 false (encI .u8) y2.c3, ls 5 false enc36 y2.c4]) hy (enc36_eq y2) (by kernel_rfl) ?_
  refine HO.go' 2 ?_
  obtain ⟨y3, hy, h⟩ := bindS h
  refine HO.callW hS [.agg [.keep, .keep, .keep, .list 1 false, .list 5 false], .agg [.keep, .keep, .keep, .list 1 false, .list 5 false]] (sameT_ok (y2.c0, y2.c1, y2.c2, y2.c3, y2.c4, 0, 5, false, [], []) y3 hy W0) (by kernel_rfl) (by kernel_rfl) ?_
  refine HO.fin' 1 ?_
  exact H.ren' hS [1, 2, 3] (fieldsC_L1_ok (y3, (IntKind.u8.wrap x.2.1), y1.2.2) r h W0 w0 S hS)
def within_L1 (x : Bool) : Option (Bool) :=
  some x
theorem within_L1_ok : ∀ (x : Bool) (r : Bool), within_L1 x = some r → ∀ (W0 w0 : World) (S : Own), Std W0 w0 S 0 → H Tryd.prog w0 S 15 (cR (cR (cB Tryd.f67))) (mkS [(6, .bool x)] [] 0 []) (KEnd Tryd.prog Tryd.f67 (PEnd w0 S (.returned (.bool r)))) := by
  intro x r h
  unfold within_L1 at h
  intro W0 w0 S hS
  haveI := hS.noEx Tryd.prog
  refine H.ret' ?_
  obtain rfl := Option.some.inj h
  exact KEnd.r'
def within (x : Int × Int × Int) : Option (Bool) :=
  if x.2.1 ≤ x.1 then
    within_L1 (decide (x.1 ≤ x.2.2))
  else
    within_L1 false
theorem within_ok : ∀ (x : Int × Int × Int) (r : Bool), within x = some r → ∀ W0 : World, PTo Tryd.prog W0 67 #[.int .i64 x.1, .int .i64 x.2.1, .int .i64 x.2.2] (.returned (.bool r)) := by
  intro x r h
  unfold within at h
  intro W0
  refine PTo.of_body (fn := Tryd.f67) (code := cB Tryd.f67) Tryd.func67 rfl rfl ?_
  intro w0 S hS
  haveI := hS.noEx Tryd.prog
  refine H.sr' 1 ?_
  refine H.sg' ?_
  refine HO.go' 3 ?_
  refine HO.bo' (decide (x.2.1 ≤ x.1)) (fun hb => ?_) (fun hb => ?_)
  · rw [if_pos (of_decide_eq_true hb)] at h
    refine HO.fin' 5 ?_
    exact H.ren' hS [] (within_L1_ok (decide (x.1 ≤ x.2.2)) r h W0 w0 S hS)
  rw [if_neg (of_decide_eq_false hb)] at h
  refine HO.fin' 5 ?_
  exact H.ren' hS [] (within_L1_ok false r h W0 w0 S hS)
def cpCheck_L2 (x : Bool) : Option (Int) :=
  if (!x) = true then
    some 1
  else
    some 0
theorem cpCheck_L2_ok : ∀ (x : Bool) (r : Int), cpCheck_L2 x = some r → ∀ (W0 w0 : World) (S : Own), Std W0 w0 S 0 → H Tryd.prog w0 S 81 (cR (cR (cR (cR (cB Tryd.f37))))) (mkS [(3, .bool x)] [] 0 []) (KEnd Tryd.prog Tryd.f37 (PEnd w0 S (.returned (.int .i64 r)))) := by
  intro x r h
  unfold cpCheck_L2 at h
  intro W0 w0 S hS
  haveI := hS.noEx Tryd.prog
  refine H.seq' ?_
  refine H.sr' 2 ?_
  refine H.cS' (!x) (fun hb => ?_) (fun hb => ?_)
  · rw [if_pos hb] at h
    refine H.sr' 1 ?_
    refine H.ret' ?_
    refine Kseq_ret ?_
    obtain rfl := Option.some.inj h
    exact KEnd.r'
  rw [if_neg (ne_true hb)] at h
  refine H.skp' ?_
  refine Kseq_norm ?_
  refine H.sr' 1 ?_
  refine H.ret' ?_
  obtain rfl := Option.some.inj h
  exact KEnd.r'
def cpCheck_L1 (x : Int × Bool × Int × Int × Int × Int × (List Int)) : Option (Int) :=
  if x.2.1 = true then
    (within (x.2.2.1, 0, 127)) >>= fun y4 =>
    if y4 = true then
      if x.2.2.2.1 = 0 then
        (within (x.2.2.2.2.1, 0, 255)) >>= fun y5 =>
        if y5 = true then
          cpCheck_L2 (decide (x.2.2.2.2.2.1 = 0))
        else
          cpCheck_L2 false
      else
        cpCheck_L2 false
    else
      cpCheck_L2 false
  else
    if x.1 = 5 then
      (within (x.2.2.1, (-1), 127)) >>= fun y6 =>
      if y6 = true then
        if (((x.2.2.2.1 : Int) == 0) && (((x.2.2.2.2.1 : Int) == 0) && ((((x.2.2.2.2.2.2.length : Int) : Int) == 0) && (true)))) = true then
          if 1 ≤ x.2.2.2.2.2.1 then
            cpCheck_L2 (decide (x.2.2.2.2.2.1 ≤ 7))
          else
            cpCheck_L2 false
        else
          cpCheck_L2 false
      else
        cpCheck_L2 false
    else
      cpCheck_L2 false
theorem cpCheck_L1_ok : ∀ (x : Int × Bool × Int × Int × Int × Int × (List Int)) (r : Int), cpCheck_L1 x = some r → ∀ (W0 w0 : World) (S : Own), Std W0 w0 S 0 → H Tryd.prog w0 S 81 (cR (cR (cR (cL (cR (cL (cR (cR (cR (cB Tryd.f37)))))))))) (mkS [(1, .pointer (some ⟨0, 0, none⟩)), (3, .bool false), (9, .int .u8 x.1), (30, .bool x.2.1)] [(0, .cells [.int .u8 x.1, .int .i64 x.2.2.1, .int .i64 x.2.2.2.1, .int .i64 x.2.2.2.2.1, .int .u8 x.2.2.2.2.2.1, ls 1 false (encI .u8) x.2.2.2.2.2.2] 70 6)] 1 []) (Kblock 0 (Kseq Tryd.prog w0 S 81 (cR (cR (cR (cR (cB Tryd.f37))))) (KEnd Tryd.prog Tryd.f37 (PEnd w0 S (.returned (.int .i64 r)))))) := by
  intro x r h
  unfold cpCheck_L1 at h
  intro W0 w0 S hS
  haveI := hS.noEx Tryd.prog
  refine H.cS' (x.2.1) (fun hb => ?_) (fun hb => ?_)
  · rw [if_pos hb] at h
    refine H.reg' ?_
    refine HO.go' 2 ?_
    obtain ⟨y4, hy, h⟩ := bindS h
    refine HO.callW hS [.keep, .keep, .keep] (within_ok (x.2.2.1, 0, 127) y4 hy W0) (by kernel_rfl) (by kernel_rfl) ?_
    refine HO.bo' y4 (fun hb => ?_) (fun hb => ?_)
    rotate_left
    · rw [if_neg (ne_true hb)] at h
      refine HO.go' 15 ?_
      refine HO.end' ?_
      refine Kblock_norm ?_
      refine Kseq_norm ?_
      exact H.ren' hS [] (cpCheck_L2_ok false r h W0 w0 S hS)
    rw [if_pos hb] at h
    refine HO.go' 4 ?_
    refine HO.bo' (decide (x.2.2.2.1 = 0)) (fun hb => ?_) (fun hb => ?_)
    rotate_left
    · rw [if_neg (of_decide_eq_false hb)] at h
      refine HO.go' 10 ?_
      refine HO.end' ?_
      refine Kblock_norm ?_
      refine Kseq_norm ?_
      exact H.ren' hS [] (cpCheck_L2_ok false r h W0 w0 S hS)
    rw [if_pos (of_decide_eq_true hb)] at h
    refine HO.go' 2 ?_
    obtain ⟨y5, hy, h⟩ := bindS h
    refine HO.callW hS [.keep, .keep, .keep] (within_ok (x.2.2.2.2.1, 0, 255) y5 hy W0) (by kernel_rfl) (by kernel_rfl) ?_
    refine HO.go' 1 ?_
    refine HO.bo' y5 (fun hb => ?_) (fun hb => ?_)
    · rw [if_pos hb] at h
      refine HO.go' 5 ?_
      refine HO.end' ?_
      refine Kblock_norm ?_
      refine Kseq_norm ?_
      exact H.ren' hS [] (cpCheck_L2_ok (decide (x.2.2.2.2.2.1 = 0)) r h W0 w0 S hS)
    rw [if_neg (ne_true hb)] at h
    refine HO.go' 5 ?_
    refine HO.end' ?_
    refine Kblock_norm ?_
    refine Kseq_norm ?_
    exact H.ren' hS [] (cpCheck_L2_ok false r h W0 w0 S hS)
  rw [if_neg (ne_true hb)] at h
  refine H.sr' 2 ?_
  refine H.cS' (decide (x.1 = 5)) (fun hb => ?_) (fun hb => ?_)
  rotate_left
  · rw [if_neg (of_decide_eq_false hb)] at h
    refine H.skp' ?_
    refine Kblock_norm ?_
    refine Kseq_norm ?_
    exact H.ren' hS [] (cpCheck_L2_ok false r h W0 w0 S hS)
  rw [if_pos (of_decide_eq_true hb)] at h
  refine H.reg' ?_
  refine HO.go' 2 ?_
  obtain ⟨y6, hy, h⟩ := bindS h
  refine HO.callW hS [.keep, .keep, .keep] (within_ok (x.2.2.1, (-1), 127) y6 hy W0) (by kernel_rfl) (by kernel_rfl) ?_
  refine HO.bo' y6 (fun hb => ?_) (fun hb => ?_)
  rotate_left
  · rw [if_neg (ne_true hb)] at h
    refine HO.go' 22 ?_
    refine HO.end' ?_
    refine Kblock_norm ?_
    refine Kseq_norm ?_
    exact H.ren' hS [] (cpCheck_L2_ok false r h W0 w0 S hS)
  rw [if_pos hb] at h
  refine HO.go' 6 ?_
  refine HO.len (by kernel_rfl) (by kernel_rfl) (ls_size (encI .u8) x.2.2.2.2.2.2) ?_
  refine HO.go' 2 ?_
  refine HO.valA (eqA_aop (r := (((x.2.2.2.1 : Int) == 0) && (((x.2.2.2.2.1 : Int) == 0) && ((((x.2.2.2.2.2.2.length : Int) : Int) == 0) && (true))))) false (by kernel_rfl)) ?_
  refine HO.go' 1 ?_
  refine HO.bo' (((x.2.2.2.1 : Int) == 0) && (((x.2.2.2.2.1 : Int) == 0) && ((((x.2.2.2.2.2.2.length : Int) : Int) == 0) && (true)))) (fun hb => ?_) (fun hb => ?_)
  rotate_left
  · rw [if_neg (ne_true hb)] at h
    refine HO.go' 10 ?_
    refine HO.end' ?_
    refine Kblock_norm ?_
    refine Kseq_norm ?_
    exact H.ren' hS [] (cpCheck_L2_ok false r h W0 w0 S hS)
  rw [if_pos hb] at h
  refine HO.go' 4 ?_
  refine HO.bo' (decide (1 ≤ x.2.2.2.2.2.1)) (fun hb => ?_) (fun hb => ?_)
  · rw [if_pos (of_decide_eq_true hb)] at h
    refine HO.go' 5 ?_
    refine HO.end' ?_
    refine Kblock_norm ?_
    refine Kseq_norm ?_
    exact H.ren' hS [] (cpCheck_L2_ok (decide (x.2.2.2.2.2.1 ≤ 7)) r h W0 w0 S hS)
  rw [if_neg (of_decide_eq_false hb)] at h
  refine HO.go' 5 ?_
  refine HO.end' ?_
  refine Kblock_norm ?_
  refine Kseq_norm ?_
  exact H.ren' hS [] (cpCheck_L2_ok false r h W0 w0 S hS)
def cpCheck (x : Int × Int × Int × Int × Int × (List Int)) : Option (Int) :=
  if 2000 < (x.2.2.2.2.2.length : Int) then
    some 3
  else
    if x.1 = 1 then
      (within (x.2.1, 0, 127)) >>= fun y1 =>
      if y1 = true then
        (within (x.2.2.1, (-1), 127)) >>= fun y2 =>
        if y2 = true then
          (within (x.2.2.2.1, 0, 255)) >>= fun y3 =>
          if y3 = true then
            cpCheck_L2 (decide (x.2.2.2.2.1 = 0))
          else
            cpCheck_L2 false
        else
          cpCheck_L2 false
      else
        cpCheck_L2 false
    else
      if x.1 = 2 then
        cpCheck_L1 (x.1, (decide (x.1 = 2)), x.2.1, x.2.2.1, x.2.2.2.1, x.2.2.2.2.1, x.2.2.2.2.2)
      else
        if x.1 = 3 then
          cpCheck_L1 (x.1, (decide (x.1 = 3)), x.2.1, x.2.2.1, x.2.2.2.1, x.2.2.2.2.1, x.2.2.2.2.2)
        else
          cpCheck_L1 (x.1, (decide (x.1 = 4)), x.2.1, x.2.2.1, x.2.2.2.1, x.2.2.2.2.1, x.2.2.2.2.2)
theorem cpCheck_ok : ∀ (x : Int × Int × Int × Int × Int × (List Int)) (r : Int), cpCheck x = some r → ∀ W0 : World, PTo Tryd.prog W0 37 #[.agg #[.int .u8 x.1, .int .i64 x.2.1, .int .i64 x.2.2.1, .int .i64 x.2.2.2.1, .int .u8 x.2.2.2.2.1, ls 1 false (encI .u8) x.2.2.2.2.2]] (.returned (.int .i64 r)) := by
  intro x r h
  unfold cpCheck at h
  intro W0
  refine PTo.of_body (fn := Tryd.f37) (code := cB Tryd.f37) Tryd.func37 rfl rfl ?_
  intro w0 S hS
  haveI := hS.noEx Tryd.prog
  refine H.sr' 2 ?_
  refine H.seq' ?_
  refine H.sg' ?_
  refine HO.go' 2 ?_
  refine HO.len (by kernel_rfl) (by kernel_rfl) (ls_size (encI .u8) x.2.2.2.2.2) ?_
  refine HO.fin' 1 ?_
  refine H.cS' (decide (2000 < (x.2.2.2.2.2.length : Int))) (fun hb => ?_) (fun hb => ?_)
  · rw [if_pos (of_decide_eq_true hb)] at h
    refine H.sr' 1 ?_
    refine H.ret' ?_
    refine Kseq_ret ?_
    obtain rfl := Option.some.inj h
    exact KEnd.r'
  rw [if_neg (of_decide_eq_false hb)] at h
  refine H.skp' ?_
  refine Kseq_norm ?_
  refine H.sr' 1 ?_
  refine H.seq' ?_
  refine H.sr' 2 ?_
  refine H.blk' 0 ?_
  refine H.sr' 2 ?_
  refine H.cS' (decide (x.1 = 1)) (fun hb => ?_) (fun hb => ?_)
  rotate_left
  · rw [if_neg (of_decide_eq_false hb)] at h
    refine H.seq' ?_
    refine H.sr' 2 ?_
    refine H.cS' (decide (x.1 = 2)) (fun hb => ?_) (fun hb => ?_)
    · rw [if_pos (of_decide_eq_true hb)] at h
      refine H.skp' ?_
      refine Kseq_norm ?_
      exact H.ren' hS [0] (cpCheck_L1_ok (x.1, (decide (x.1 = 2)), x.2.1, x.2.2.1, x.2.2.2.1, x.2.2.2.2.1, x.2.2.2.2.2) r h W0 w0 S hS)
    rw [if_neg (of_decide_eq_false hb)] at h
    refine H.sr' 2 ?_
    refine H.cS' (decide (x.1 = 3)) (fun hb => ?_) (fun hb => ?_)
    · rw [if_pos (of_decide_eq_true hb)] at h
      refine H.skp' ?_
      refine Kseq_norm ?_
      exact H.ren' hS [0] (cpCheck_L1_ok (x.1, (decide (x.1 = 3)), x.2.1, x.2.2.1, x.2.2.2.1, x.2.2.2.2.1, x.2.2.2.2.2) r h W0 w0 S hS)
    rw [if_neg (of_decide_eq_false hb)] at h
    refine H.reg' ?_
    refine HO.fin' 2 ?_
    exact H.ren' hS [0] (cpCheck_L1_ok (x.1, (decide (x.1 = 4)), x.2.1, x.2.2.1, x.2.2.2.1, x.2.2.2.2.1, x.2.2.2.2.2) r h W0 w0 S hS)
  rw [if_pos (of_decide_eq_true hb)] at h
  refine H.reg' ?_
  refine HO.go' 2 ?_
  obtain ⟨y1, hy, h⟩ := bindS h
  refine HO.callW hS [.keep, .keep, .keep] (within_ok (x.2.1, 0, 127) y1 hy W0) (by kernel_rfl) (by kernel_rfl) ?_
  refine HO.bo' y1 (fun hb => ?_) (fun hb => ?_)
  rotate_left
  · rw [if_neg (ne_true hb)] at h
    refine HO.go' 15 ?_
    refine HO.end' ?_
    refine Kblock_norm ?_
    refine Kseq_norm ?_
    exact H.ren' hS [] (cpCheck_L2_ok false r h W0 w0 S hS)
  rw [if_pos hb] at h
  refine HO.go' 2 ?_
  obtain ⟨y2, hy, h⟩ := bindS h
  refine HO.callW hS [.keep, .keep, .keep] (within_ok (x.2.2.1, (-1), 127) y2 hy W0) (by kernel_rfl) (by kernel_rfl) ?_
  refine HO.go' 1 ?_
  refine HO.bo' y2 (fun hb => ?_) (fun hb => ?_)
  rotate_left
  · rw [if_neg (ne_true hb)] at h
    refine HO.go' 10 ?_
    refine HO.end' ?_
    refine Kblock_norm ?_
    refine Kseq_norm ?_
    exact H.ren' hS [] (cpCheck_L2_ok false r h W0 w0 S hS)
  rw [if_pos hb] at h
  refine HO.go' 2 ?_
  obtain ⟨y3, hy, h⟩ := bindS h
  refine HO.callW hS [.keep, .keep, .keep] (within_ok (x.2.2.2.1, 0, 255) y3 hy W0) (by kernel_rfl) (by kernel_rfl) ?_
  refine HO.go' 1 ?_
  refine HO.bo' y3 (fun hb => ?_) (fun hb => ?_)
  · rw [if_pos hb] at h
    refine HO.go' 5 ?_
    refine HO.end' ?_
    refine Kblock_norm ?_
    refine Kseq_norm ?_
    exact H.ren' hS [] (cpCheck_L2_ok (decide (x.2.2.2.2.1 = 0)) r h W0 w0 S hS)
  rw [if_neg (ne_true hb)] at h
  refine HO.go' 5 ?_
  refine HO.end' ?_
  refine Kblock_norm ?_
  refine Kseq_norm ?_
  exact H.ren' hS [] (cpCheck_L2_ok false r h W0 w0 S hS)
def cpOf_L7 (x : Int × Int) : Option (Int × Int × Int × Int × Int × (List Int) × Int × Int × Int × Int × Int × (List Int) × Int) :=
  some (0, 0, 0, 0, 0, [], 5, x.1, 0, 0, x.2, [], 4)
theorem cpOf_L7_ok : ∀ (x : Int × Int) (r : Int × Int × Int × Int × Int × (List Int) × Int × Int × Int × Int × Int × (List Int) × Int), cpOf_L7 x = some r → ∀ (W0 w0 : World) (S : Own), Std W0 w0 S 0 → H Tryd.prog w0 S 75 (cR (cR (cR (cR (cR (cR (cR (cB Tryd.f32)))))))) (mkS [(2, .pointer (some ⟨0, 0, none⟩)), (3, .pointer (some ⟨1, 0, none⟩))] [(0, .cells [.int .u8 0, .int .i64 0, .int .i64 0, .int .i64 0, .int .u8 0, .slice none 0 0] 70 6), (1, .cells [.int .u8 5, .int .i64 x.1, .int .i64 0, .int .i64 0, .int .u8 x.2, .slice none 0 0] 70 6)] 2 []) (KEnd Tryd.prog Tryd.f32 (PEnd w0 S (.returned (.tuple #[.agg #[.int .u8 r.1, .int .i64 r.2.1, .int .i64 r.2.2.1, .int .i64 r.2.2.2.1, .int .u8 r.2.2.2.2.1, ls 1 false (encI .u8) r.2.2.2.2.2.1], .agg #[.int .u8 r.2.2.2.2.2.2.1, .int .i64 r.2.2.2.2.2.2.2.1, .int .i64 r.2.2.2.2.2.2.2.2.1, .int .i64 r.2.2.2.2.2.2.2.2.2.1, .int .u8 r.2.2.2.2.2.2.2.2.2.2.1, ls 1 false (encI .u8) r.2.2.2.2.2.2.2.2.2.2.2.1], .int .i64 r.2.2.2.2.2.2.2.2.2.2.2.2])))) := by
  intro x r h
  unfold cpOf_L7 at h
  intro W0 w0 S hS
  haveI := hS.noEx Tryd.prog
  refine H.seq' ?_
  refine H.drawQ ?_
  refine HQ.go' 5 ?_
  refine HQ.done (by kernel_rfl) (by kernel_rfl) (by kernel_rfl) ?_
  refine Kseq_norm ?_
  refine H.ret' ?_
  obtain rfl := Option.some.inj h
  exact KEnd.retW (v := .tuple #[.agg #[.int .u8 0, .int .i64 0, .int .i64 0, .int .i64 0, .int .u8 0, .slice none 0 0], .agg #[.int .u8 5, .int .i64 x.1, .int .i64 0, .int .i64 0, .int .u8 x.2, .slice none 0 0], .int .i64 4]) (.tuple [.agg [.keep, .keep, .keep, .keep, .keep, .list 1 false], .agg [.keep, .keep, .keep, .keep, .keep, .list 1 false], .keep]) (by kernel_rfl) (by kernel_rfl) (by kernel_rfl) (by kernel_rfl)
def cpOf_L6 (x : Int × Int × Bool × (List Int) × (List S36) × Int) : Option (Int × Int × Int × Int × Int × (List Int) × Int × Int × Int × Int × Int × (List Int) × Int) :=
  if 0 < (x.2.2.2.2.1.length : Int) then
    (at' x.2.2.2.2.1 0) >>= fun y4 =>
    (valueC (y4.c0, y4.c1, y4.c2, y4.c3, y4.c4, 0, 2, 0, 127)) >>= fun y5 =>
    if y5.2 = true then
      cpOf_L7 (y5.1, x.2.2.2.2.2)
    else
      cpOf_L7 ((-1), x.2.2.2.2.2)
  else
    cpOf_L7 ((-1), x.2.2.2.2.2)
theorem cpOf_L6_ok : ∀ (x : Int × Int × Bool × (List Int) × (List S36) × Int) (r : Int × Int × Int × Int × Int × (List Int) × Int × Int × Int × Int × Int × (List Int) × Int), cpOf_L6 x = some r → ∀ (W0 w0 : World) (S : Own), Std W0 w0 S 0 → H Tryd.prog w0 S 75 (cR (cR (cR (cR (cR (cR (cB Tryd.f32))))))) (mkS [(1, .pointer (some ⟨0, 0, none⟩)), (2, .pointer (some ⟨1, 0, none⟩)), (3, .pointer (some ⟨2, 0, none⟩))] [(0, .cells [.int .u8 x.1, .int .u32 x.2.1, .bool x.2.2.1, ls 1 false (encI .u8) x.2.2.2.1, ls 5 false enc36 x.2.2.2.2.1] 36 5), (1, .cells [.int .u8 0, .int .i64 0, .int .i64 0, .int .i64 0, .int .u8 0, .slice none 0 0] 70 6), (2, .cells [.int .u8 5, .int .i64 (-1), .int .i64 0, .int .i64 0, .int .u8 x.2.2.2.2.2, .slice none 0 0] 70 6)] 3 []) (KEnd Tryd.prog Tryd.f32 (PEnd w0 S (.returned (.tuple #[.agg #[.int .u8 r.1, .int .i64 r.2.1, .int .i64 r.2.2.1, .int .i64 r.2.2.2.1, .int .u8 r.2.2.2.2.1, ls 1 false (encI .u8) r.2.2.2.2.2.1], .agg #[.int .u8 r.2.2.2.2.2.2.1, .int .i64 r.2.2.2.2.2.2.2.1, .int .i64 r.2.2.2.2.2.2.2.2.1, .int .i64 r.2.2.2.2.2.2.2.2.2.1, .int .u8 r.2.2.2.2.2.2.2.2.2.2.1, ls 1 false (encI .u8) r.2.2.2.2.2.2.2.2.2.2.2.1], .int .i64 r.2.2.2.2.2.2.2.2.2.2.2.2])))) := by
  intro x r h
  unfold cpOf_L6 at h
  intro W0 w0 S hS
  haveI := hS.noEx Tryd.prog
  refine H.seq' ?_
  refine H.sg' ?_
  refine HO.go' 2 ?_
  refine HO.len (by kernel_rfl) (by kernel_rfl) (ls_size enc36 x.2.2.2.2.1) ?_
  refine HO.fin' 1 ?_
  refine H.cS' (decide (0 < (x.2.2.2.2.1.length : Int))) (fun hb => ?_) (fun hb => ?_)
  rotate_left
  · rw [if_neg (of_decide_eq_false hb)] at h
    refine H.skp' ?_
    refine Kseq_norm ?_
    exact H.ren' hS [1, 2] (cpOf_L7_ok ((-1), x.2.2.2.2.2) r h W0 w0 S hS)
  rw [if_pos (of_decide_eq_true hb)] at h
  refine H.sg' ?_
  refine HO.go' 2 ?_
  obtain ⟨y4, hy, h⟩ := bindS h
  refine HO.idx (.agg #[.int .u8 y4.c0, .int .u32 y4.c1, .bool y4.c2, ls 1 false (encI .u8) y4.c3, ls 5 false enc36 y4.c4]) hy (enc36_eq y4) (by kernel_rfl) ?_
  refine HO.go' 1 ?_
  obtain ⟨y5, hy, h⟩ := bindS h
  refine HO.callW hS [.agg [.keep, .keep, .keep, .list 1 false, .list 5 false], .keep, .keep, .keep, .keep] (valueC_ok (y4.c0, y4.c1, y4.c2, y4.c3, y4.c4, 0, 2, 0, 127) y5 hy W0) (by kernel_rfl) (by kernel_rfl) ?_
  refine HO.fin' 5 ?_
  refine H.sr' 1 ?_
  refine H.cS' (y5.2) (fun hb => ?_) (fun hb => ?_)
  rotate_left
  · rw [if_neg (ne_true hb)] at h
    refine H.skp' ?_
    refine Kseq_norm ?_
    exact H.ren' hS [1, 2] (cpOf_L7_ok ((-1), x.2.2.2.2.2) r h W0 w0 S hS)
  rw [if_pos hb] at h
  refine H.reg' ?_
  refine HO.fin' 3 ?_
  exact H.ren' hS [1, 2] (cpOf_L7_ok (y5.1, x.2.2.2.2.2) r h W0 w0 S hS)
def cpOf_L5 (x : Bool × Bool × Int × Int × Bool × (List Int) × (List S36)) : Option (Int × Int × Int × Int × Int × (List Int) × Int × Int × Int × Int × Int × (List Int) × Int) :=
  if x.2.1 = true then
    some (0, 0, 0, 0, 0, [], 0, 0, 0, 0, 0, [], 4)
  else
    if (!x.1) = true then
      cpOf_L6 (x.2.2.1, x.2.2.2.1, x.2.2.2.2.1, x.2.2.2.2.2.1, x.2.2.2.2.2.2, 1)
    else
      cpOf_L6 (x.2.2.1, x.2.2.2.1, x.2.2.2.2.1, x.2.2.2.2.2.1, x.2.2.2.2.2.2, 2)
theorem cpOf_L5_ok : ∀ (x : Bool × Bool × Int × Int × Bool × (List Int) × (List S36)) (r : Int × Int × Int × Int × Int × (List Int) × Int × Int × Int × Int × Int × (List Int) × Int), cpOf_L5 x = some r → ∀ (W0 w0 : World) (S : Own), Std W0 w0 S 0 → H Tryd.prog w0 S 75 (cR (cL (cR (cR (cR (cB Tryd.f32)))))) (mkS [(1, .pointer (some ⟨0, 0, none⟩)), (2, .pointer (some ⟨1, 0, none⟩)), (3, .pointer (some ⟨2, 0, none⟩)), (5, .bool x.1), (51, .bool x.2.1)] [(0, .cells [.int .u8 x.2.2.1, .int .u32 x.2.2.2.1, .bool x.2.2.2.2.1, ls 1 false (encI .u8) x.2.2.2.2.2.1, ls 5 false enc36 x.2.2.2.2.2.2] 36 5), (1, .cells [.int .u8 0, .int .i64 0, .int .i64 0, .int .i64 0, .int .u8 0, .slice none 0 0] 70 6), (2, .cells [.int .u8 0, .int .i64 0, .int .i64 0, .int .i64 0, .int .u8 0, .slice none 0 0] 70 6)] 3 []) (Kseq Tryd.prog w0 S 75 (cR (cR (cR (cR (cB Tryd.f32))))) (KEnd Tryd.prog Tryd.f32 (PEnd w0 S (.returned (.tuple #[.agg #[.int .u8 r.1, .int .i64 r.2.1, .int .i64 r.2.2.1, .int .i64 r.2.2.2.1, .int .u8 r.2.2.2.2.1, ls 1 false (encI .u8) r.2.2.2.2.2.1], .agg #[.int .u8 r.2.2.2.2.2.2.1, .int .i64 r.2.2.2.2.2.2.2.1, .int .i64 r.2.2.2.2.2.2.2.2.1, .int .i64 r.2.2.2.2.2.2.2.2.2.1, .int .u8 r.2.2.2.2.2.2.2.2.2.2.1, ls 1 false (encI .u8) r.2.2.2.2.2.2.2.2.2.2.2.1], .int .i64 r.2.2.2.2.2.2.2.2.2.2.2.2]))))) := by
  intro x r h
  unfold cpOf_L5 at h
  intro W0 w0 S hS
  haveI := hS.noEx Tryd.prog
  refine H.cS' (x.2.1) (fun hb => ?_) (fun hb => ?_)
  · rw [if_pos hb] at h
    refine H.sr' 5 ?_
    refine H.ret' ?_
    refine Kseq_ret ?_
    obtain rfl := Option.some.inj h
    exact KEnd.retW (v := .tuple #[.agg #[.int .u8 0, .int .i64 0, .int .i64 0, .int .i64 0, .int .u8 0, .slice none 0 0], .agg #[.int .u8 0, .int .i64 0, .int .i64 0, .int .i64 0, .int .u8 0, .slice none 0 0], .int .i64 4]) (.tuple [.agg [.keep, .keep, .keep, .keep, .keep, .list 1 false], .agg [.keep, .keep, .keep, .keep, .keep, .list 1 false], .keep]) (by kernel_rfl) (by kernel_rfl) (by kernel_rfl) (by kernel_rfl)
  rw [if_neg (ne_true hb)] at h
  refine H.skp' ?_
  refine Kseq_norm ?_
  refine H.sr' 2 ?_
  refine H.seq' ?_
  refine H.sr' 2 ?_
  refine H.cS' (!x.1) (fun hb => ?_) (fun hb => ?_)
  rotate_left
  · rw [if_neg (ne_true hb)] at h
    refine H.skp' ?_
    refine Kseq_norm ?_
    exact H.ren' hS [0, 1, 2] (cpOf_L6_ok (x.2.2.1, x.2.2.2.1, x.2.2.2.2.1, x.2.2.2.2.2.1, x.2.2.2.2.2.2, 2) r h W0 w0 S hS)
  rw [if_pos hb] at h
  refine H.reg' ?_
  refine HO.fin' 2 ?_
  exact H.ren' hS [0, 1, 2] (cpOf_L6_ok (x.2.2.1, x.2.2.2.1, x.2.2.2.2.1, x.2.2.2.2.2.1, x.2.2.2.2.2.2, 1) r h W0 w0 S hS)
def cpOf_L4 (x : Bool × Int × Int × Bool × (List Int) × (List S36)) : Option (Int × Int × Int × Int × Int × (List Int) × Int × Int × Int × Int × Int × (List Int) × Int) :=
  if x.1 = true then
    cpOf_L5 (x.1, (decide (x.2.2.1 = 5)), x.2.1, x.2.2.1, x.2.2.2.1, x.2.2.2.2.1, x.2.2.2.2.2)
  else
    cpOf_L5 (x.1, false, x.2.1, x.2.2.1, x.2.2.2.1, x.2.2.2.2.1, x.2.2.2.2.2)
theorem cpOf_L4_ok : ∀ (x : Bool × Int × Int × Bool × (List Int) × (List S36)) (r : Int × Int × Int × Int × Int × (List Int) × Int × Int × Int × Int × Int × (List Int) × Int), cpOf_L4 x = some r → ∀ (W0 w0 : World) (S : Own), Std W0 w0 S 0 → H Tryd.prog w0 S 75 (cR (cR (cR (cB Tryd.f32)))) (mkS [(1, .pointer (some ⟨0, 0, none⟩)), (2, .pointer (some ⟨1, 0, none⟩)), (3, .pointer (some ⟨2, 0, none⟩)), (5, .bool x.1)] [(0, .cells [.int .u8 x.2.1, .int .u32 x.2.2.1, .bool x.2.2.2.1, ls 1 false (encI .u8) x.2.2.2.2.1, ls 5 false enc36 x.2.2.2.2.2] 36 5), (1, .cells [.int .u8 0, .int .i64 0, .int .i64 0, .int .i64 0, .int .u8 0, .slice none 0 0] 70 6), (2, .cells [.int .u8 0, .int .i64 0, .int .i64 0, .int .i64 0, .int .u8 0, .slice none 0 0] 70 6)] 3 []) (KEnd Tryd.prog Tryd.f32 (PEnd w0 S (.returned (.tuple #[.agg #[.int .u8 r.1, .int .i64 r.2.1, .int .i64 r.2.2.1, .int .i64 r.2.2.2.1, .int .u8 r.2.2.2.2.1, ls 1 false (encI .u8) r.2.2.2.2.2.1], .agg #[.int .u8 r.2.2.2.2.2.2.1, .int .i64 r.2.2.2.2.2.2.2.1, .int .i64 r.2.2.2.2.2.2.2.2.1, .int .i64 r.2.2.2.2.2.2.2.2.2.1, .int .u8 r.2.2.2.2.2.2.2.2.2.2.1, ls 1 false (encI .u8) r.2.2.2.2.2.2.2.2.2.2.2.1], .int .i64 r.2.2.2.2.2.2.2.2.2.2.2.2])))) := by
  intro x r h
  unfold cpOf_L4 at h
  intro W0 w0 S hS
  haveI := hS.noEx Tryd.prog
  refine H.seq' ?_
  refine H.sg' ?_
  refine HO.go' 1 ?_
  refine HO.bo' x.1 (fun hb => ?_) (fun hb => ?_)
  · rw [if_pos hb] at h
    refine HO.fin' 4 ?_
    exact H.ren' hS [0, 1, 2] (cpOf_L5_ok (x.1, (decide (x.2.2.1 = 5)), x.2.1, x.2.2.1, x.2.2.2.1, x.2.2.2.2.1, x.2.2.2.2.2) r h W0 w0 S hS)
  rw [if_neg (ne_true hb)] at h
  refine HO.fin' 4 ?_
  exact H.ren' hS [0, 1, 2] (cpOf_L5_ok (x.1, false, x.2.1, x.2.2.1, x.2.2.2.1, x.2.2.2.2.1, x.2.2.2.2.2) r h W0 w0 S hS)
def cpOf_L3 (x : Bool × Bool × Int × Int × Bool × (List Int) × (List S36) × Int × Int × Int × Int × Int × (List Int)) : Option (Int × Int × Int × Int × Int × (List Int) × Int × Int × Int × Int × Int × (List Int) × Int) :=
  if x.2.1 = true then
    some (x.2.2.2.2.2.2.2.1, x.2.2.2.2.2.2.2.2.1, x.2.2.2.2.2.2.2.2.2.1, x.2.2.2.2.2.2.2.2.2.2.1, x.2.2.2.2.2.2.2.2.2.2.2.1, x.2.2.2.2.2.2.2.2.2.2.2.2, 0, 0, 0, 0, 0, [], 0)
  else
    cpOf_L4 (x.1, x.2.2.1, x.2.2.2.1, x.2.2.2.2.1, x.2.2.2.2.2.1, x.2.2.2.2.2.2.1)
theorem cpOf_L3_ok : ∀ (x : Bool × Bool × Int × Int × Bool × (List Int) × (List S36) × Int × Int × Int × Int × Int × (List Int)) (r : Int × Int × Int × Int × Int × (List Int) × Int × Int × Int × Int × Int × (List Int) × Int), cpOf_L3 x = some r → ∀ (W0 w0 : World) (S : Own), Std W0 w0 S 0 → H Tryd.prog w0 S 75 (cR (cR (cL (cR (cL (cR (cR (cB Tryd.f32)))))))) (mkS [(1, .pointer (some ⟨0, 0, none⟩)), (2, .pointer (some ⟨1, 0, none⟩)), (3, .pointer (some ⟨2, 0, none⟩)), (5, .bool x.1), (6, .pointer (some ⟨3, 0, none⟩)), (43, .bool x.2.1)] [(0, .cells [.int .u8 x.2.2.1, .int .u32 x.2.2.2.1, .bool x.2.2.2.2.1, ls 1 false (encI .u8) x.2.2.2.2.2.1, ls 5 false enc36 x.2.2.2.2.2.2.1] 36 5), (1, .cells [.int .u8 0, .int .i64 0, .int .i64 0, .int .i64 0, .int .u8 0, .slice none 0 0] 70 6), (2, .cells [.int .u8 0, .int .i64 0, .int .i64 0, .int .i64 0, .int .u8 0, .slice none 0 0] 70 6), (3, .cells [.int .u8 x.2.2.2.2.2.2.2.1, .int .i64 x.2.2.2.2.2.2.2.2.1, .int .i64 x.2.2.2.2.2.2.2.2.2.1, .int .i64 x.2.2.2.2.2.2.2.2.2.2.1, .int .u8 x.2.2.2.2.2.2.2.2.2.2.2.1, ls 1 false (encI .u8) x.2.2.2.2.2.2.2.2.2.2.2.2] 70 6)] 4 []) (Kseq Tryd.prog w0 S 75 (cR (cR (cR (cB Tryd.f32)))) (KEnd Tryd.prog Tryd.f32 (PEnd w0 S (.returned (.tuple #[.agg #[.int .u8 r.1, .int .i64 r.2.1, .int .i64 r.2.2.1, .int .i64 r.2.2.2.1, .int .u8 r.2.2.2.2.1, ls 1 false (encI .u8) r.2.2.2.2.2.1], .agg #[.int .u8 r.2.2.2.2.2.2.1, .int .i64 r.2.2.2.2.2.2.2.1, .int .i64 r.2.2.2.2.2.2.2.2.1, .int .i64 r.2.2.2.2.2.2.2.2.2.1, .int .u8 r.2.2.2.2.2.2.2.2.2.2.1, ls 1 false (encI .u8) r.2.2.2.2.2.2.2.2.2.2.2.1], .int .i64 r.2.2.2.2.2.2.2.2.2.2.2.2]))))) := by
  intro x r h
  unfold cpOf_L3 at h
  intro W0 w0 S hS
  haveI := hS.noEx Tryd.prog
  refine H.cS' (x.2.1) (fun hb => ?_) (fun hb => ?_)
  rotate_left
  · rw [if_neg (ne_true hb)] at h
    refine H.skp' ?_
    refine Kseq_norm ?_
    exact H.ren' hS [0, 1, 2] (cpOf_L4_ok (x.1, x.2.2.1, x.2.2.2.1, x.2.2.2.2.1, x.2.2.2.2.2.1, x.2.2.2.2.2.2.1) r h W0 w0 S hS)
  rw [if_pos hb] at h
  refine H.sr' 5 ?_
  refine H.ret' ?_
  refine Kseq_ret ?_
  obtain rfl := Option.some.inj h
  exact KEnd.retW (v := .tuple #[.agg #[.int .u8 x.2.2.2.2.2.2.2.1, .int .i64 x.2.2.2.2.2.2.2.2.1, .int .i64 x.2.2.2.2.2.2.2.2.2.1, .int .i64 x.2.2.2.2.2.2.2.2.2.2.1, .int .u8 x.2.2.2.2.2.2.2.2.2.2.2.1, ls 1 false (encI .u8) x.2.2.2.2.2.2.2.2.2.2.2.2], .agg #[.int .u8 0, .int .i64 0, .int .i64 0, .int .i64 0, .int .u8 0, .slice none 0 0], .int .i64 0]) (.tuple [.agg [.keep, .keep, .keep, .keep, .keep, .list 1 false], .agg [.keep, .keep, .keep, .keep, .keep, .list 1 false], .keep]) (by kernel_rfl) (by kernel_rfl) (by kernel_rfl) (by kernel_rfl)
def cpOf_L2 (x : Bool × Bool × Int × Int × Bool × (List Int) × (List S36)) : Option (Int × Int × Int × Int × Int × (List Int) × Int × Int × Int × Int × Int × (List Int) × Int) :=
  if x.2.1 = true then
    (fieldsC (x.2.2.1, x.2.2.2.1, x.2.2.2.2.1, x.2.2.2.2.2.1, x.2.2.2.2.2.2)) >>= fun y2 =>
    if y2.2.2.2.2.2.2 = true then
      (cpCheck (y2.1, y2.2.1, y2.2.2.1, y2.2.2.2.1, y2.2.2.2.2.1, y2.2.2.2.2.2.1)) >>= fun y3 =>
      cpOf_L3 (x.1, (decide (y3 = 0)), x.2.2.1, x.2.2.2.1, x.2.2.2.2.1, x.2.2.2.2.2.1, x.2.2.2.2.2.2, y2.1, y2.2.1, y2.2.2.1, y2.2.2.2.1, y2.2.2.2.2.1, y2.2.2.2.2.2.1)
    else
      cpOf_L3 (x.1, false, x.2.2.1, x.2.2.2.1, x.2.2.2.2.1, x.2.2.2.2.2.1, x.2.2.2.2.2.2, y2.1, y2.2.1, y2.2.2.1, y2.2.2.2.1, y2.2.2.2.2.1, y2.2.2.2.2.2.1)
  else
    cpOf_L4 (x.1, x.2.2.1, x.2.2.2.1, x.2.2.2.2.1, x.2.2.2.2.2.1, x.2.2.2.2.2.2)
theorem cpOf_L2_ok : ∀ (x : Bool × Bool × Int × Int × Bool × (List Int) × (List S36)) (r : Int × Int × Int × Int × Int × (List Int) × Int × Int × Int × Int × Int × (List Int) × Int), cpOf_L2 x = some r → ∀ (W0 w0 : World) (S : Own), Std W0 w0 S 0 → H Tryd.prog w0 S 75 (cR (cL (cR (cR (cB Tryd.f32))))) (mkS [(1, .pointer (some ⟨0, 0, none⟩)), (2, .pointer (some ⟨1, 0, none⟩)), (3, .pointer (some ⟨2, 0, none⟩)), (5, .bool x.1), (32, .bool x.2.1)] [(0, .cells [.int .u8 x.2.2.1, .int .u32 x.2.2.2.1, .bool x.2.2.2.2.1, ls 1 false (encI .u8) x.2.2.2.2.2.1, ls 5 false enc36 x.2.2.2.2.2.2] 36 5), (1, .cells [.int .u8 0, .int .i64 0, .int .i64 0, .int .i64 0, .int .u8 0, .slice none 0 0] 70 6), (2, .cells [.int .u8 0, .int .i64 0, .int .i64 0, .int .i64 0, .int .u8 0, .slice none 0 0] 70 6)] 3 []) (Kseq Tryd.prog w0 S 75 (cR (cR (cR (cB Tryd.f32)))) (KEnd Tryd.prog Tryd.f32 (PEnd w0 S (.returned (.tuple #[.agg #[.int .u8 r.1, .int .i64 r.2.1, .int .i64 r.2.2.1, .int .i64 r.2.2.2.1, .int .u8 r.2.2.2.2.1, ls 1 false (encI .u8) r.2.2.2.2.2.1], .agg #[.int .u8 r.2.2.2.2.2.2.1, .int .i64 r.2.2.2.2.2.2.2.1, .int .i64 r.2.2.2.2.2.2.2.2.1, .int .i64 r.2.2.2.2.2.2.2.2.2.1, .int .u8 r.2.2.2.2.2.2.2.2.2.2.1, ls 1 false (encI .u8) r.2.2.2.2.2.2.2.2.2.2.2.1], .int .i64 r.2.2.2.2.2.2.2.2.2.2.2.2]))))) := by
  intro x r h
  unfold cpOf_L2 at h
  intro W0 w0 S hS
  haveI := hS.noEx Tryd.prog
  refine H.cS' (x.2.1) (fun hb => ?_) (fun hb => ?_)
  rotate_left
  · rw [if_neg (ne_true hb)] at h
    refine H.skp' ?_
    refine Kseq_norm ?_
    exact H.ren' hS [0, 1, 2] (cpOf_L4_ok (x.1, x.2.2.1, x.2.2.2.1, x.2.2.2.2.1, x.2.2.2.2.2.1, x.2.2.2.2.2.2) r h W0 w0 S hS)
  rw [if_pos hb] at h
  refine H.sg' ?_
  refine HO.go' 1 ?_
  obtain ⟨y2, hy, h⟩ := bindS h
  refine HO.callW hS [.agg [.keep, .keep, .keep, .list 1 false, .list 5 false]] (fieldsC_ok (x.2.2.1, x.2.2.2.1, x.2.2.2.2.1, x.2.2.2.2.2.1, x.2.2.2.2.2.2) y2 hy W0) (by kernel_rfl) (by kernel_rfl) ?_
  refine HO.fin' 6 ?_
  refine H.sg' ?_
  refine HO.go' 1 ?_
  refine HO.bo' y2.2.2.2.2.2.2 (fun hb => ?_) (fun hb => ?_)
  rotate_left
  · rw [if_neg (ne_true hb)] at h
    refine HO.fin' 4 ?_
    exact H.ren' hS [0, 1, 2, 3] (cpOf_L3_ok (x.1, false, x.2.2.1, x.2.2.2.1, x.2.2.2.2.1, x.2.2.2.2.2.1, x.2.2.2.2.2.2, y2.1, y2.2.1, y2.2.2.1, y2.2.2.2.1, y2.2.2.2.2.1, y2.2.2.2.2.2.1) r h W0 w0 S hS)
  rw [if_pos hb] at h
  refine HO.go' 1 ?_
  obtain ⟨y3, hy, h⟩ := bindS h
  refine HO.callW hS [.agg [.keep, .keep, .keep, .keep, .keep, .list 1 false]] (cpCheck_ok (y2.1, y2.2.1, y2.2.2.1, y2.2.2.2.1, y2.2.2.2.2.1, y2.2.2.2.2.2.1) y3 hy W0) (by kernel_rfl) (by kernel_rfl) ?_
  refine HO.fin' 2 ?_
  exact H.ren' hS [0, 1, 2, 3] (cpOf_L3_ok (x.1, (decide (y3 = 0)), x.2.2.1, x.2.2.2.1, x.2.2.2.2.1, x.2.2.2.2.2.1, x.2.2.2.2.2.2, y2.1, y2.2.1, y2.2.2.1, y2.2.2.2.1, y2.2.2.2.2.1, y2.2.2.2.2.2.1) r h W0 w0 S hS)
def cpOf_L1 (x : Bool × Int × Int × Bool × (List Int) × (List S36)) : Option (Int × Int × Int × Int × Int × (List Int) × Int × Int × Int × Int × Int × (List Int) × Int) :=
  if x.1 = true then
    (check (x.2.1, x.2.2.1, x.2.2.2.1, x.2.2.2.2.1, x.2.2.2.2.2)) >>= fun y1 =>
    cpOf_L2 (x.1, (decide (y1 = 0)), x.2.1, x.2.2.1, x.2.2.2.1, x.2.2.2.2.1, x.2.2.2.2.2)
  else
    cpOf_L2 (x.1, false, x.2.1, x.2.2.1, x.2.2.2.1, x.2.2.2.2.1, x.2.2.2.2.2)
theorem cpOf_L1_ok : ∀ (x : Bool × Int × Int × Bool × (List Int) × (List S36)) (r : Int × Int × Int × Int × Int × (List Int) × Int × Int × Int × Int × Int × (List Int) × Int), cpOf_L1 x = some r → ∀ (W0 w0 : World) (S : Own), Std W0 w0 S 0 → H Tryd.prog w0 S 75 (cR (cR (cB Tryd.f32))) (mkS [(1, .pointer (some ⟨0, 0, none⟩)), (2, .pointer (some ⟨1, 0, none⟩)), (3, .pointer (some ⟨2, 0, none⟩)), (5, .bool x.1)] [(0, .cells [.int .u8 x.2.1, .int .u32 x.2.2.1, .bool x.2.2.2.1, ls 1 false (encI .u8) x.2.2.2.2.1, ls 5 false enc36 x.2.2.2.2.2] 36 5), (1, .cells [.int .u8 0, .int .i64 0, .int .i64 0, .int .i64 0, .int .u8 0, .slice none 0 0] 70 6), (2, .cells [.int .u8 0, .int .i64 0, .int .i64 0, .int .i64 0, .int .u8 0, .slice none 0 0] 70 6)] 3 []) (KEnd Tryd.prog Tryd.f32 (PEnd w0 S (.returned (.tuple #[.agg #[.int .u8 r.1, .int .i64 r.2.1, .int .i64 r.2.2.1, .int .i64 r.2.2.2.1, .int .u8 r.2.2.2.2.1, ls 1 false (encI .u8) r.2.2.2.2.2.1], .agg #[.int .u8 r.2.2.2.2.2.2.1, .int .i64 r.2.2.2.2.2.2.2.1, .int .i64 r.2.2.2.2.2.2.2.2.1, .int .i64 r.2.2.2.2.2.2.2.2.2.1, .int .u8 r.2.2.2.2.2.2.2.2.2.2.1, ls 1 false (encI .u8) r.2.2.2.2.2.2.2.2.2.2.2.1], .int .i64 r.2.2.2.2.2.2.2.2.2.2.2.2])))) := by
  intro x r h
  unfold cpOf_L1 at h
  intro W0 w0 S hS
  haveI := hS.noEx Tryd.prog
  refine H.seq' ?_
  refine H.sg' ?_
  refine HO.go' 1 ?_
  refine HO.bo' x.1 (fun hb => ?_) (fun hb => ?_)
  rotate_left
  · rw [if_neg (ne_true hb)] at h
    refine HO.fin' 4 ?_
    exact H.ren' hS [0, 1, 2] (cpOf_L2_ok (x.1, false, x.2.1, x.2.2.1, x.2.2.2.1, x.2.2.2.2.1, x.2.2.2.2.2) r h W0 w0 S hS)
  rw [if_pos hb] at h
  refine HO.go' 1 ?_
  obtain ⟨y1, hy, h⟩ := bindS h
  refine HO.callW hS [.agg [.keep, .keep, .keep, .list 1 false, .list 5 false]] (check_ok (x.2.1, x.2.2.1, x.2.2.2.1, x.2.2.2.2.1, x.2.2.2.2.2) y1 hy W0) (by kernel_rfl) (by kernel_rfl) ?_
  refine HO.fin' 2 ?_
  exact H.ren' hS [0, 1, 2] (cpOf_L2_ok (x.1, (decide (y1 = 0)), x.2.1, x.2.2.1, x.2.2.2.1, x.2.2.2.2.1, x.2.2.2.2.2) r h W0 w0 S hS)
def cpOf (x : Int × Int × Bool × (List Int) × (List S36)) : Option (Int × Int × Int × Int × Int × (List Int) × Int × Int × Int × Int × Int × (List Int) × Int) :=
  if x.2.2.1 = true then
    if x.1 = 2 then
      if 1 ≤ x.2.1 then
        cpOf_L1 ((decide (x.2.1 ≤ 5)), x.1, x.2.1, x.2.2.1, x.2.2.2.1, x.2.2.2.2)
      else
        cpOf_L1 (false, x.1, x.2.1, x.2.2.1, x.2.2.2.1, x.2.2.2.2)
    else
      cpOf_L1 (false, x.1, x.2.1, x.2.2.1, x.2.2.2.1, x.2.2.2.2)
  else
    cpOf_L1 (false, x.1, x.2.1, x.2.2.1, x.2.2.2.1, x.2.2.2.2)
theorem cpOf_ok : ∀ (x : Int × Int × Bool × (List Int) × (List S36)) (r : Int × Int × Int × Int × Int × (List Int) × Int × Int × Int × Int × Int × (List Int) × Int), cpOf x = some r → ∀ W0 : World, PTo Tryd.prog W0 32 #[.agg #[.int .u8 x.1, .int .u32 x.2.1, .bool x.2.2.1, ls 1 false (encI .u8) x.2.2.2.1, ls 5 false enc36 x.2.2.2.2]] (.returned (.tuple #[.agg #[.int .u8 r.1, .int .i64 r.2.1, .int .i64 r.2.2.1, .int .i64 r.2.2.2.1, .int .u8 r.2.2.2.2.1, ls 1 false (encI .u8) r.2.2.2.2.2.1], .agg #[.int .u8 r.2.2.2.2.2.2.1, .int .i64 r.2.2.2.2.2.2.2.1, .int .i64 r.2.2.2.2.2.2.2.2.1, .int .i64 r.2.2.2.2.2.2.2.2.2.1, .int .u8 r.2.2.2.2.2.2.2.2.2.2.1, ls 1 false (encI .u8) r.2.2.2.2.2.2.2.2.2.2.2.1], .int .i64 r.2.2.2.2.2.2.2.2.2.2.2.2])) := by
  intro x r h
  unfold cpOf at h
  intro W0
  refine PTo.of_body (fn := Tryd.f32) (code := cB Tryd.f32) Tryd.func32 rfl rfl ?_
  intro w0 S hS
  haveI := hS.noEx Tryd.prog
  refine H.sr' 4 ?_
  refine H.sg' ?_
  refine HO.go' 2 ?_
  refine HO.bo' x.2.2.1 (fun hb => ?_) (fun hb => ?_)
  rotate_left
  · rw [if_neg (ne_true hb)] at h
    refine HO.fin' 15 ?_
    exact H.ren' hS [0, 1, 2] (cpOf_L1_ok (false, x.1, x.2.1, x.2.2.1, x.2.2.2.1, x.2.2.2.2) r h W0 w0 S hS)
  rw [if_pos hb] at h
  refine HO.go' 4 ?_
  refine HO.bo' (decide (x.1 = 2)) (fun hb => ?_) (fun hb => ?_)
  rotate_left
  · rw [if_neg (of_decide_eq_false hb)] at h
    refine HO.fin' 10 ?_
    exact H.ren' hS [0, 1, 2] (cpOf_L1_ok (false, x.1, x.2.1, x.2.2.1, x.2.2.2.1, x.2.2.2.2) r h W0 w0 S hS)
  rw [if_pos (of_decide_eq_true hb)] at h
  refine HO.go' 4 ?_
  refine HO.bo' (decide (1 ≤ x.2.1)) (fun hb => ?_) (fun hb => ?_)
  · rw [if_pos (of_decide_eq_true hb)] at h
    refine HO.fin' 5 ?_
    exact H.ren' hS [0, 1, 2] (cpOf_L1_ok ((decide (x.2.1 ≤ 5)), x.1, x.2.1, x.2.2.1, x.2.2.2.1, x.2.2.2.2) r h W0 w0 S hS)
  rw [if_neg (of_decide_eq_false hb)] at h
  refine HO.fin' 5 ?_
  exact H.ren' hS [0, 1, 2] (cpOf_L1_ok (false, x.1, x.2.1, x.2.2.1, x.2.2.2.1, x.2.2.2.2) r h W0 w0 S hS)
def numberC (x : Int × Int × Int) : Option (Int × Int × Bool × (List Int) × (List S36)) :=
  (intC x.2.2) >>= fun y1 =>
  some (x.1, x.2.1, false, y1, [])
theorem numberC_ok : ∀ (x : Int × Int × Int) (r : Int × Int × Bool × (List Int) × (List S36)), numberC x = some r → ∀ W0 : World, PTo Tryd.prog W0 90 #[.int .u8 x.1, .int .u32 x.2.1, .int .i64 x.2.2] (.returned (.agg #[.int .u8 r.1, .int .u32 r.2.1, .bool r.2.2.1, ls 1 false (encI .u8) r.2.2.2.1, ls 5 false enc36 r.2.2.2.2])) := by
  intro x r h
  unfold numberC at h
  intro W0
  refine PTo.of_body (fn := Tryd.f90) (code := cB Tryd.f90) Tryd.func90 rfl rfl ?_
  intro w0 S hS
  haveI := hS.noEx Tryd.prog
  refine H.sr' 1 ?_
  refine H.sg' ?_
  refine HO.go' 3 ?_
  obtain ⟨y1, hy, h⟩ := bindS h
  refine HO.callW hS [.keep] (intC_ok x.2.2 y1 hy W0) (by kernel_rfl) (by kernel_rfl) ?_
  refine HO.fin' 2 ?_
  refine H.ret' ?_
  obtain rfl := Option.some.inj h
  exact KEnd.retW (v := .agg #[.int .u8 x.1, .int .u32 x.2.1, .bool false, ls 1 false (encI .u8) y1, .slice none 0 0]) (.agg [.keep, .keep, .keep, .list 1 false, .list 5 false]) (by kernel_rfl) (by kernel_rfl) (by kernel_rfl) (by kernel_rfl)
def clipT (x : (List S36)) : Option ((List S36)) :=
  (sub' x 0 (x.length : Int)) >>= fun y1 =>
  some y1
theorem clipT_ok : ∀ (x : (List S36)) (r : (List S36)), clipT x = some r → ∀ W0 : World, PTo Tryd.prog W0 75 #[ls 5 false enc36 x] (.returned (ls 5 true enc36 r)) := by
  intro x r h
  unfold clipT at h
  intro W0
  refine PTo.of_body (fn := Tryd.f75) (code := cB Tryd.f75) Tryd.func75 rfl rfl ?_
  intro w0 S hS
  haveI := hS.noEx Tryd.prog
  refine H.sr' 1 ?_
  refine H.sg' ?_
  refine HO.go' 2 ?_
  refine HO.len (by kernel_rfl) (by kernel_rfl) (ls_size enc36 x) ?_
  refine HO.go' 1 ?_
  refine HO.len (by kernel_rfl) (by kernel_rfl) (ls_size enc36 x) ?_
  obtain ⟨y1, hy, h⟩ := bindS h
  refine HO.valA (sl4_aop (enc := enc36) (k := 5) (j := .i64) (j' := .i64) false hy (by kernel_rfl)) ?_
  refine HO.fin' 1 ?_
  refine H.ret' ?_
  obtain rfl := Option.some.inj h
  exact KEnd.retW (v := ls 5 true enc36 y1) (.list 5 true) (by kernel_rfl) (by kernel_rfl) (by kernel_rfl) (by kernel_rfl)
def cpTreeI (x : Int × Int × Int × Int × Int × (List Int)) : Option (Int × Int × Bool × (List Int) × (List S36)) :=
  if x.2.1 < 0 then
    if x.1 = 5 then
      (numberC (2, 1, (IntKind.i64.wrap x.2.2.2.2.1))) >>= fun y1 =>
      (clipT [(S36.mk 0 5 false [] []), (S36.mk y1.1 y1.2.1 y1.2.2.1 y1.2.2.2.1 y1.2.2.2.2)]) >>= fun y2 =>
      some (2, (IntKind.u32.wrap x.1), true, [], y2)
    else
      if x.1 = 1 then
        if 0 ≤ x.2.2.1 then
          (numberC (2, 0, x.2.2.1)) >>= fun y3 =>
          (numberC (0, 10, x.2.2.2.1)) >>= fun y4 =>
          (cloneS x.2.2.2.2.2) >>= fun y5 =>
          (clip y5) >>= fun y6 =>
          (clipT [(S36.mk 0 5 false [] []), (S36.mk y3.1 y3.2.1 y3.2.2.1 y3.2.2.2.1 y3.2.2.2.2), (S36.mk y4.1 y4.2.1 y4.2.2.1 y4.2.2.2.1 y4.2.2.2.2), (S36.mk 0 4 false y6 [])]) >>= fun y7 =>
          some (2, (IntKind.u32.wrap x.1), true, [], y7)
        else
          (numberC (0, 10, x.2.2.2.1)) >>= fun y8 =>
          (cloneS x.2.2.2.2.2) >>= fun y9 =>
          (clip y9) >>= fun y10 =>
          (clipT [(S36.mk 0 5 false [] []), (S36.mk y8.1 y8.2.1 y8.2.2.1 y8.2.2.2.1 y8.2.2.2.2), (S36.mk 0 4 false y10 [])]) >>= fun y11 =>
          some (2, (IntKind.u32.wrap x.1), true, [], y11)
      else
        (numberC (0, 10, x.2.2.2.1)) >>= fun y12 =>
        (cloneS x.2.2.2.2.2) >>= fun y13 =>
        (clip y13) >>= fun y14 =>
        (clipT [(S36.mk 0 5 false [] []), (S36.mk y12.1 y12.2.1 y12.2.2.1 y12.2.2.2.1 y12.2.2.2.2), (S36.mk 0 4 false y14 [])]) >>= fun y15 =>
        some (2, (IntKind.u32.wrap x.1), true, [], y15)
  else
    (numberC (0, 2, x.2.1)) >>= fun y16 =>
    if x.1 = 5 then
      (numberC (2, 1, (IntKind.i64.wrap x.2.2.2.2.1))) >>= fun y17 =>
      (clipT [(S36.mk y16.1 y16.2.1 y16.2.2.1 y16.2.2.2.1 y16.2.2.2.2), (S36.mk y17.1 y17.2.1 y17.2.2.1 y17.2.2.2.1 y17.2.2.2.2)]) >>= fun y18 =>
      some (2, (IntKind.u32.wrap x.1), true, [], y18)
    else
      if x.1 = 1 then
        if 0 ≤ x.2.2.1 then
          (numberC (2, 0, x.2.2.1)) >>= fun y19 =>
          (numberC (0, 10, x.2.2.2.1)) >>= fun y20 =>
          (cloneS x.2.2.2.2.2) >>= fun y21 =>
          (clip y21) >>= fun y22 =>
          (clipT [(S36.mk y16.1 y16.2.1 y16.2.2.1 y16.2.2.2.1 y16.2.2.2.2), (S36.mk y19.1 y19.2.1 y19.2.2.1 y19.2.2.2.1 y19.2.2.2.2), (S36.mk y20.1 y20.2.1 y20.2.2.1 y20.2.2.2.1 y20.2.2.2.2), (S36.mk 0 4 false y22 [])]) >>= fun y23 =>
          some (2, (IntKind.u32.wrap x.1), true, [], y23)
        else
          (numberC (0, 10, x.2.2.2.1)) >>= fun y24 =>
          (cloneS x.2.2.2.2.2) >>= fun y25 =>
          (clip y25) >>= fun y26 =>
          (clipT [(S36.mk y16.1 y16.2.1 y16.2.2.1 y16.2.2.2.1 y16.2.2.2.2), (S36.mk y24.1 y24.2.1 y24.2.2.1 y24.2.2.2.1 y24.2.2.2.2), (S36.mk 0 4 false y26 [])]) >>= fun y27 =>
          some (2, (IntKind.u32.wrap x.1), true, [], y27)
      else
        (numberC (0, 10, x.2.2.2.1)) >>= fun y28 =>
        (cloneS x.2.2.2.2.2) >>= fun y29 =>
        (clip y29) >>= fun y30 =>
        (clipT [(S36.mk y16.1 y16.2.1 y16.2.2.1 y16.2.2.2.1 y16.2.2.2.2), (S36.mk y28.1 y28.2.1 y28.2.2.1 y28.2.2.2.1 y28.2.2.2.2), (S36.mk 0 4 false y30 [])]) >>= fun y31 =>
        some (2, (IntKind.u32.wrap x.1), true, [], y31)
theorem cpTreeI_ok : ∀ (x : Int × Int × Int × Int × Int × (List Int)) (r : Int × Int × Bool × (List Int) × (List S36)), cpTreeI x = some r → ∀ W0 : World, PTo Tryd.prog W0 66 #[.agg #[.int .u8 x.1, .int .i64 x.2.1, .int .i64 x.2.2.1, .int .i64 x.2.2.2.1, .int .u8 x.2.2.2.2.1, ls 1 false (encI .u8) x.2.2.2.2.2]] (.returned (.agg #[.int .u8 r.1, .int .u32 r.2.1, .bool r.2.2.1, ls 1 false (encI .u8) r.2.2.2.1, ls 5 false enc36 r.2.2.2.2])) := by
  intro x r h
  unfold cpTreeI at h
  intro W0
  refine PTo.of_body (fn := Tryd.f66) (code := cB Tryd.f66) Tryd.func66 rfl rfl ?_
  intro w0 S hS
  haveI := hS.noEx Tryd.prog
  refine H.sr' 2 ?_
  refine H.sr' 6 ?_
  refine H.seq' ?_
  refine H.sr' 3 ?_
  refine H.cS' (decide (x.2.1 < 0)) (fun hb => ?_) (fun hb => ?_)
  rotate_left
  · rw [if_neg (of_decide_eq_false hb)] at h
    refine H.drawQ ?_
    refine HQ.go' 4 ?_
    obtain ⟨y16, hy, h⟩ := bindS h
    refine HQ.callW hS [.keep, .keep, .keep] (numberC_ok (0, 2, x.2.1) y16 hy W0) (by kernel_rfl) (by kernel_rfl) ?_
    refine HQ.go' 1 ?_
    refine HQ.go' 1 ?_
    refine HQ.go' 2 ?_
    refine HQ.done (by kernel_rfl) (by kernel_rfl) (by kernel_rfl) ?_
    refine Kseq_norm ?_
    refine H.seq' ?_
    refine H.sr' 3 ?_
    refine H.cS' (decide (x.1 = 5)) (fun hb => ?_) (fun hb => ?_)
    · rw [if_pos (of_decide_eq_true hb)] at h
      refine H.drawQ ?_
      refine HQ.go' 5 ?_
      obtain ⟨y17, hy, h⟩ := bindS h
      refine HQ.callW hS [.keep, .keep, .keep] (numberC_ok (2, 1, (IntKind.i64.wrap x.2.2.2.2.1)) y17 hy W0) (by kernel_rfl) (by kernel_rfl) ?_
      refine HQ.go' 1 ?_
      refine HQ.go' 1 ?_
      refine HQ.go' 2 ?_
      refine HQ.done (by kernel_rfl) (by kernel_rfl) (by kernel_rfl) ?_
      refine Kseq_norm ?_
      refine H.sg' ?_
      refine HO.go' 2 ?_
      refine HO.frzE [35, 67] 6 2 1180591620717411303424 5 36 false ([(S36.mk y16.1 y16.2.1 y16.2.2.1 y16.2.2.2.1 y16.2.2.2.2), (S36.mk y17.1 y17.2.1 y17.2.2.1 y17.2.2.2.1 y17.2.2.2.2)].map enc36).toArray #[.agg #[.int .u8 y16.1, .int .u32 y16.2.1, .bool y16.2.2.1, ls 1 false (encI .u8) y16.2.2.2.1, ls 5 false enc36 y16.2.2.2.2], .agg #[.int .u8 y17.1, .int .u32 y17.2.1, .bool y17.2.2.1, ls 1 false (encI .u8) y17.2.2.2.1, ls 5 false enc36 y17.2.2.2.2]] [.int .u8 y16.1, .int .u32 y16.2.1, .bool y16.2.2.1, ls 1 false (encI .u8) y16.2.2.2.1, ls 5 false enc36 y16.2.2.2.2, .int .u8 y17.1, .int .u32 y17.2.1, .bool y17.2.2.1, ls 1 false (encI .u8) y17.2.2.2.1, ls 5 false enc36 y17.2.2.2.2] (by simp only [List.map_cons, List.map_nil, enc36_eq]) (by kernel_rfl) ?_
      obtain ⟨y18, hy, h⟩ := bindS h
      refine HO.callW hS [.list 5 false] (clipT_ok [(S36.mk y16.1 y16.2.1 y16.2.2.1 y16.2.2.2.1 y16.2.2.2.2), (S36.mk y17.1 y17.2.1 y17.2.2.1 y17.2.2.2.1 y17.2.2.2.2)] y18 hy W0) (by kernel_rfl) (by kernel_rfl) ?_
      refine HO.fin' 2 ?_
      refine H.sr' 2 ?_
      refine H.ret' ?_
      obtain rfl := Option.some.inj h
      exact KEnd.retW (v := .agg #[.int .u8 2, .int .u32 (IntKind.u32.wrap x.1), .bool true, .slice none 0 0, ls 5 true enc36 y18]) (.agg [.keep, .keep, .keep, .list 1 false, .list 5 false]) (by kernel_rfl) (by kernel_rfl) (by kernel_rfl) (by kernel_rfl)
    rw [if_neg (of_decide_eq_false hb)] at h
    refine H.seq' ?_
    refine H.sg' ?_
    refine HO.go' 3 ?_
    refine HO.bo' (decide (x.1 = 1)) (fun hb => ?_) (fun hb => ?_)
    rotate_left
    · rw [if_neg (of_decide_eq_false hb)] at h
      refine HO.fin' 4 ?_
      refine H.cF' ?_
      refine H.skp' ?_
      refine Kseq_norm ?_
      refine H.drawQ ?_
      refine HQ.go' 4 ?_
      obtain ⟨y28, hy, h⟩ := bindS h
      refine HQ.callW hS [.keep, .keep, .keep] (numberC_ok (0, 10, x.2.2.2.1) y28 hy W0) (by kernel_rfl) (by kernel_rfl) ?_
      refine HQ.go' 2 ?_
      obtain ⟨y29, hy, h⟩ := bindS h
      refine HQ.callW hS [.list 1 false] (cloneS_ok x.2.2.2.2.2 y29 hy W0) (by kernel_rfl) (by kernel_rfl) ?_
      obtain ⟨y30, hy, h⟩ := bindS h
      refine HQ.callV (v' := ls 1 false (encI .u8) y30) hS [.list 1 false] (.list 1 false) (clip_ok y29 y30 hy W0) (by kernel_rfl) (by kernel_rfl) (by kernel_rfl) ?_
      refine HQ.go' 2 ?_
      refine HQ.go' 1 ?_
      refine HQ.go' 2 ?_
      refine HQ.done (by kernel_rfl) (by kernel_rfl) (by kernel_rfl) ?_
      refine Kseq_norm ?_
      refine H.sg' ?_
      refine HO.go' 2 ?_
      refine HO.wkc 6 36 5 14 [.int .u8 y16.1, .int .u32 y16.2.1, .bool y16.2.2.1, ls 1 false (encI .u8) y16.2.2.2.1, ls 5 false enc36 y16.2.2.2.2, .int .u8 y28.1, .int .u32 y28.2.1, .bool y28.2.2.1, ls 1 false (encI .u8) y28.2.2.2.1, ls 5 false enc36 y28.2.2.2.2, .int .u8 0, .int .u32 4, .bool false, ls 1 false (encI .u8) y30, .slice none 0 0] (.slice none 0 0) (ls 5 false enc36 []) (.list 5 false) (by kernel_rfl) ?_
      refine HO.frzE [64, 67] 6 3 1180591620717411303424 5 36 false ([(S36.mk y16.1 y16.2.1 y16.2.2.1 y16.2.2.2.1 y16.2.2.2.2), (S36.mk y28.1 y28.2.1 y28.2.2.1 y28.2.2.2.1 y28.2.2.2.2), (S36.mk 0 4 false y30 [])].map enc36).toArray #[.agg #[.int .u8 y16.1, .int .u32 y16.2.1, .bool y16.2.2.1, ls 1 false (encI .u8) y16.2.2.2.1, ls 5 false enc36 y16.2.2.2.2], .agg #[.int .u8 y28.1, .int .u32 y28.2.1, .bool y28.2.2.1, ls 1 false (encI .u8) y28.2.2.2.1, ls 5 false enc36 y28.2.2.2.2], .agg #[.int .u8 0, .int .u32 4, .bool false, ls 1 false (encI .u8) y30, ls 5 false enc36 []]] [.int .u8 y16.1, .int .u32 y16.2.1, .bool y16.2.2.1, ls 1 false (encI .u8) y16.2.2.2.1, ls 5 false enc36 y16.2.2.2.2, .int .u8 y28.1, .int .u32 y28.2.1, .bool y28.2.2.1, ls 1 false (encI .u8) y28.2.2.2.1, ls 5 false enc36 y28.2.2.2.2, .int .u8 0, .int .u32 4, .bool false, ls 1 false (encI .u8) y30, ls 5 false enc36 []] (by simp only [List.map_cons, List.map_nil, enc36_eq]) (by kernel_rfl) ?_
      obtain ⟨y31, hy, h⟩ := bindS h
      refine HO.callW hS [.list 5 false] (clipT_ok [(S36.mk y16.1 y16.2.1 y16.2.2.1 y16.2.2.2.1 y16.2.2.2.2), (S36.mk y28.1 y28.2.1 y28.2.2.1 y28.2.2.2.1 y28.2.2.2.2), (S36.mk 0 4 false y30 [])] y31 hy W0) (by kernel_rfl) (by kernel_rfl) ?_
      refine HO.fin' 2 ?_
      refine H.sr' 2 ?_
      refine H.ret' ?_
      obtain rfl := Option.some.inj h
      exact KEnd.retW (v := .agg #[.int .u8 2, .int .u32 (IntKind.u32.wrap x.1), .bool true, .slice none 0 0, ls 5 true enc36 y31]) (.agg [.keep, .keep, .keep, .list 1 false, .list 5 false]) (by kernel_rfl) (by kernel_rfl) (by kernel_rfl) (by kernel_rfl)
    rw [if_pos (of_decide_eq_true hb)] at h
    refine HO.fin' 4 ?_
    refine H.cS' (decide (0 ≤ x.2.2.1)) (fun hb => ?_) (fun hb => ?_)
    rotate_left
    · rw [if_neg (of_decide_eq_false hb)] at h
      refine H.skp' ?_
      refine Kseq_norm ?_
      refine H.drawQ ?_
      refine HQ.go' 4 ?_
      obtain ⟨y24, hy, h⟩ := bindS h
      refine HQ.callW hS [.keep, .keep, .keep] (numberC_ok (0, 10, x.2.2.2.1) y24 hy W0) (by kernel_rfl) (by kernel_rfl) ?_
      refine HQ.go' 2 ?_
      obtain ⟨y25, hy, h⟩ := bindS h
      refine HQ.callW hS [.list 1 false] (cloneS_ok x.2.2.2.2.2 y25 hy W0) (by kernel_rfl) (by kernel_rfl) ?_
      obtain ⟨y26, hy, h⟩ := bindS h
      refine HQ.callV (v' := ls 1 false (encI .u8) y26) hS [.list 1 false] (.list 1 false) (clip_ok y25 y26 hy W0) (by kernel_rfl) (by kernel_rfl) (by kernel_rfl) ?_
      refine HQ.go' 2 ?_
      refine HQ.go' 1 ?_
      refine HQ.go' 2 ?_
      refine HQ.done (by kernel_rfl) (by kernel_rfl) (by kernel_rfl) ?_
      refine Kseq_norm ?_
      refine H.sg' ?_
      refine HO.go' 2 ?_
      refine HO.wkc 6 36 5 14 [.int .u8 y16.1, .int .u32 y16.2.1, .bool y16.2.2.1, ls 1 false (encI .u8) y16.2.2.2.1, ls 5 false enc36 y16.2.2.2.2, .int .u8 y24.1, .int .u32 y24.2.1, .bool y24.2.2.1, ls 1 false (encI .u8) y24.2.2.2.1, ls 5 false enc36 y24.2.2.2.2, .int .u8 0, .int .u32 4, .bool false, ls 1 false (encI .u8) y26, .slice none 0 0] (.slice none 0 0) (ls 5 false enc36 []) (.list 5 false) (by kernel_rfl) ?_
      refine HO.frzE [64, 67] 6 3 1180591620717411303424 5 36 false ([(S36.mk y16.1 y16.2.1 y16.2.2.1 y16.2.2.2.1 y16.2.2.2.2), (S36.mk y24.1 y24.2.1 y24.2.2.1 y24.2.2.2.1 y24.2.2.2.2), (S36.mk 0 4 false y26 [])].map enc36).toArray #[.agg #[.int .u8 y16.1, .int .u32 y16.2.1, .bool y16.2.2.1, ls 1 false (encI .u8) y16.2.2.2.1, ls 5 false enc36 y16.2.2.2.2], .agg #[.int .u8 y24.1, .int .u32 y24.2.1, .bool y24.2.2.1, ls 1 false (encI .u8) y24.2.2.2.1, ls 5 false enc36 y24.2.2.2.2], .agg #[.int .u8 0, .int .u32 4, .bool false, ls 1 false (encI .u8) y26, ls 5 false enc36 []]] [.int .u8 y16.1, .int .u32 y16.2.1, .bool y16.2.2.1, ls 1 false (encI .u8) y16.2.2.2.1, ls 5 false enc36 y16.2.2.2.2, .int .u8 y24.1, .int .u32 y24.2.1, .bool y24.2.2.1, ls 1 false (encI .u8) y24.2.2.2.1, ls 5 false enc36 y24.2.2.2.2, .int .u8 0, .int .u32 4, .bool false, ls 1 false (encI .u8) y26, ls 5 false enc36 []] (by simp only [List.map_cons, List.map_nil, enc36_eq]) (by kernel_rfl) ?_
      obtain ⟨y27, hy, h⟩ := bindS h
      refine HO.callW hS [.list 5 false] (clipT_ok [(S36.mk y16.1 y16.2.1 y16.2.2.1 y16.2.2.2.1 y16.2.2.2.2), (S36.mk y24.1 y24.2.1 y24.2.2.1 y24.2.2.2.1 y24.2.2.2.2), (S36.mk 0 4 false y26 [])] y27 hy W0) (by kernel_rfl) (by kernel_rfl) ?_
      refine HO.fin' 2 ?_
      refine H.sr' 2 ?_
      refine H.ret' ?_
      obtain rfl := Option.some.inj h
      exact KEnd.retW (v := .agg #[.int .u8 2, .int .u32 (IntKind.u32.wrap x.1), .bool true, .slice none 0 0, ls 5 true enc36 y27]) (.agg [.keep, .keep, .keep, .list 1 false, .list 5 false]) (by kernel_rfl) (by kernel_rfl) (by kernel_rfl) (by kernel_rfl)
    rw [if_pos (of_decide_eq_true hb)] at h
    refine H.drawQ ?_
    refine HQ.go' 4 ?_
    obtain ⟨y19, hy, h⟩ := bindS h
    refine HQ.callW hS [.keep, .keep, .keep] (numberC_ok (2, 0, x.2.2.1) y19 hy W0) (by kernel_rfl) (by kernel_rfl) ?_
    refine HQ.go' 1 ?_
    refine HQ.go' 1 ?_
    refine HQ.go' 2 ?_
    refine HQ.done (by kernel_rfl) (by kernel_rfl) (by kernel_rfl) ?_
    refine Kseq_norm ?_
    refine H.drawQ ?_
    refine HQ.go' 4 ?_
    obtain ⟨y20, hy, h⟩ := bindS h
    refine HQ.callW hS [.keep, .keep, .keep] (numberC_ok (0, 10, x.2.2.2.1) y20 hy W0) (by kernel_rfl) (by kernel_rfl) ?_
    refine HQ.go' 2 ?_
    obtain ⟨y21, hy, h⟩ := bindS h
    refine HQ.callW hS [.list 1 false] (cloneS_ok x.2.2.2.2.2 y21 hy W0) (by kernel_rfl) (by kernel_rfl) ?_
    obtain ⟨y22, hy, h⟩ := bindS h
    refine HQ.callV (v' := ls 1 false (encI .u8) y22) hS [.list 1 false] (.list 1 false) (clip_ok y21 y22 hy W0) (by kernel_rfl) (by kernel_rfl) (by kernel_rfl) ?_
    refine HQ.go' 2 ?_
    refine HQ.go' 1 ?_
    refine HQ.go' 2 ?_
    refine HQ.done (by kernel_rfl) (by kernel_rfl) (by kernel_rfl) ?_
    refine Kseq_norm ?_
    refine H.sg' ?_
    refine HO.go' 2 ?_
    refine HO.wkc 8 36 5 19 [.int .u8 y16.1, .int .u32 y16.2.1, .bool y16.2.2.1, ls 1 false (encI .u8) y16.2.2.2.1, ls 5 false enc36 y16.2.2.2.2, .int .u8 y19.1, .int .u32 y19.2.1, .bool y19.2.2.1, ls 1 false (encI .u8) y19.2.2.2.1, ls 5 false enc36 y19.2.2.2.2, .int .u8 y20.1, .int .u32 y20.2.1, .bool y20.2.2.1, ls 1 false (encI .u8) y20.2.2.2.1, ls 5 false enc36 y20.2.2.2.2, .int .u8 0, .int .u32 4, .bool false, ls 1 false (encI .u8) y22, .slice none 0 0] (.slice none 0 0) (ls 5 false enc36 []) (.list 5 false) (by kernel_rfl) ?_
    refine HO.frzE [64, 67] 8 4 1180591620717411303424 5 36 false ([(S36.mk y16.1 y16.2.1 y16.2.2.1 y16.2.2.2.1 y16.2.2.2.2), (S36.mk y19.1 y19.2.1 y19.2.2.1 y19.2.2.2.1 y19.2.2.2.2), (S36.mk y20.1 y20.2.1 y20.2.2.1 y20.2.2.2.1 y20.2.2.2.2), (S36.mk 0 4 false y22 [])].map enc36).toArray #[.agg #[.int .u8 y16.1, .int .u32 y16.2.1, .bool y16.2.2.1, ls 1 false (encI .u8) y16.2.2.2.1, ls 5 false enc36 y16.2.2.2.2], .agg #[.int .u8 y19.1, .int .u32 y19.2.1, .bool y19.2.2.1, ls 1 false (encI .u8) y19.2.2.2.1, ls 5 false enc36 y19.2.2.2.2], .agg #[.int .u8 y20.1, .int .u32 y20.2.1, .bool y20.2.2.1, ls 1 false (encI .u8) y20.2.2.2.1, ls 5 false enc36 y20.2.2.2.2], .agg #[.int .u8 0, .int .u32 4, .bool false, ls 1 false (encI .u8) y22, ls 5 false enc36 []]] [.int .u8 y16.1, .int .u32 y16.2.1, .bool y16.2.2.1, ls 1 false (encI .u8) y16.2.2.2.1, ls 5 false enc36 y16.2.2.2.2, .int .u8 y19.1, .int .u32 y19.2.1, .bool y19.2.2.1, ls 1 false (encI .u8) y19.2.2.2.1, ls 5 false enc36 y19.2.2.2.2, .int .u8 y20.1, .int .u32 y20.2.1, .bool y20.2.2.1, ls 1 false (encI .u8) y20.2.2.2.1, ls 5 false enc36 y20.2.2.2.2, .int .u8 0, .int .u32 4, .bool false, ls 1 false (encI .u8) y22, ls 5 false enc36 []] (by simp only [List.map_cons, List.map_nil, enc36_eq]) (by kernel_rfl) ?_
    obtain ⟨y23, hy, h⟩ := bindS h
    refine HO.callW hS [.list 5 false] (clipT_ok [(S36.mk y16.1 y16.2.1 y16.2.2.1 y16.2.2.2.1 y16.2.2.2.2), (S36.mk y19.1 y19.2.1 y19.2.2.1 y19.2.2.2.1 y19.2.2.2.2), (S36.mk y20.1 y20.2.1 y20.2.2.1 y20.2.2.2.1 y20.2.2.2.2), (S36.mk 0 4 false y22 [])] y23 hy W0) (by kernel_rfl) (by kernel_rfl) ?_
    refine HO.fin' 2 ?_
    refine H.sr' 2 ?_
    refine H.ret' ?_
    obtain rfl := Option.some.inj h
    exact KEnd.retW (v := .agg #[.int .u8 2, .int .u32 (IntKind.u32.wrap x.1), .bool true, .slice none 0 0, ls 5 true enc36 y23]) (.agg [.keep, .keep, .keep, .list 1 false, .list 5 false]) (by kernel_rfl) (by kernel_rfl) (by kernel_rfl) (by kernel_rfl)
  rw [if_pos (of_decide_eq_true hb)] at h
  refine H.reg' ?_
  refine HO.go' 4 ?_
  refine HO.go' 1 ?_
  refine HO.fin' 2 ?_
  refine H.seq' ?_
  refine H.sr' 3 ?_
  refine H.cS' (decide (x.1 = 5)) (fun hb => ?_) (fun hb => ?_)
  · rw [if_pos (of_decide_eq_true hb)] at h
    refine H.drawQ ?_
    refine HQ.go' 5 ?_
    obtain ⟨y1, hy, h⟩ := bindS h
    refine HQ.callW hS [.keep, .keep, .keep] (numberC_ok (2, 1, (IntKind.i64.wrap x.2.2.2.2.1)) y1 hy W0) (by kernel_rfl) (by kernel_rfl) ?_
    refine HQ.go' 1 ?_
    refine HQ.go' 1 ?_
    refine HQ.go' 2 ?_
    refine HQ.done (by kernel_rfl) (by kernel_rfl) (by kernel_rfl) ?_
    refine Kseq_norm ?_
    refine H.sg' ?_
    refine HO.go' 2 ?_
    refine HO.wkc 6 36 5 3 [.int .u8 0, .int .u32 5, .bool false, .slice none 0 0, .slice none 0 0, .int .u8 y1.1, .int .u32 y1.2.1, .bool y1.2.2.1, ls 1 false (encI .u8) y1.2.2.2.1, ls 5 false enc36 y1.2.2.2.2] (.slice none 0 0) (ls 1 false (encI .u8) []) (.list 1 false) (by kernel_rfl) ?_
    refine HO.wkc 6 36 5 4 [.int .u8 0, .int .u32 5, .bool false, ls 1 false (encI .u8) [], .slice none 0 0, .int .u8 y1.1, .int .u32 y1.2.1, .bool y1.2.2.1, ls 1 false (encI .u8) y1.2.2.2.1, ls 5 false enc36 y1.2.2.2.2] (.slice none 0 0) (ls 5 false enc36 []) (.list 5 false) (by kernel_rfl) ?_
    refine HO.frzE [35, 67] 6 2 1180591620717411303424 5 36 false ([(S36.mk 0 5 false [] []), (S36.mk y1.1 y1.2.1 y1.2.2.1 y1.2.2.2.1 y1.2.2.2.2)].map enc36).toArray #[.agg #[.int .u8 0, .int .u32 5, .bool false, ls 1 false (encI .u8) [], ls 5 false enc36 []], .agg #[.int .u8 y1.1, .int .u32 y1.2.1, .bool y1.2.2.1, ls 1 false (encI .u8) y1.2.2.2.1, ls 5 false enc36 y1.2.2.2.2]] [.int .u8 0, .int .u32 5, .bool false, ls 1 false (encI .u8) [], ls 5 false enc36 [], .int .u8 y1.1, .int .u32 y1.2.1, .bool y1.2.2.1, ls 1 false (encI .u8) y1.2.2.2.1, ls 5 false enc36 y1.2.2.2.2] (by simp only [List.map_cons, List.map_nil, enc36_eq]) (by kernel_rfl) ?_
    obtain ⟨y2, hy, h⟩ := bindS h
    refine HO.callW hS [.list 5 false] (clipT_ok [(S36.mk 0 5 false [] []), (S36.mk y1.1 y1.2.1 y1.2.2.1 y1.2.2.2.1 y1.2.2.2.2)] y2 hy W0) (by kernel_rfl) (by kernel_rfl) ?_
    refine HO.fin' 2 ?_
    refine H.sr' 2 ?_
    refine H.ret' ?_
    obtain rfl := Option.some.inj h
    exact KEnd.retW (v := .agg #[.int .u8 2, .int .u32 (IntKind.u32.wrap x.1), .bool true, .slice none 0 0, ls 5 true enc36 y2]) (.agg [.keep, .keep, .keep, .list 1 false, .list 5 false]) (by kernel_rfl) (by kernel_rfl) (by kernel_rfl) (by kernel_rfl)
  rw [if_neg (of_decide_eq_false hb)] at h
  refine H.seq' ?_
  refine H.sg' ?_
  refine HO.go' 3 ?_
  refine HO.bo' (decide (x.1 = 1)) (fun hb => ?_) (fun hb => ?_)
  rotate_left
  · rw [if_neg (of_decide_eq_false hb)] at h
    refine HO.fin' 4 ?_
    refine H.cF' ?_
    refine H.skp' ?_
    refine Kseq_norm ?_
    refine H.drawQ ?_
    refine HQ.go' 4 ?_
    obtain ⟨y12, hy, h⟩ := bindS h
    refine HQ.callW hS [.keep, .keep, .keep] (numberC_ok (0, 10, x.2.2.2.1) y12 hy W0) (by kernel_rfl) (by kernel_rfl) ?_
    refine HQ.go' 2 ?_
    obtain ⟨y13, hy, h⟩ := bindS h
    refine HQ.callW hS [.list 1 false] (cloneS_ok x.2.2.2.2.2 y13 hy W0) (by kernel_rfl) (by kernel_rfl) ?_
    obtain ⟨y14, hy, h⟩ := bindS h
    refine HQ.callV (v' := ls 1 false (encI .u8) y14) hS [.list 1 false] (.list 1 false) (clip_ok y13 y14 hy W0) (by kernel_rfl) (by kernel_rfl) (by kernel_rfl) ?_
    refine HQ.go' 2 ?_
    refine HQ.go' 1 ?_
    refine HQ.go' 2 ?_
    refine HQ.done (by kernel_rfl) (by kernel_rfl) (by kernel_rfl) ?_
    refine Kseq_norm ?_
    refine H.sg' ?_
    refine HO.go' 2 ?_
    refine HO.wkc 6 36 5 3 [.int .u8 0, .int .u32 5, .bool false, .slice none 0 0, .slice none 0 0, .int .u8 y12.1, .int .u32 y12.2.1, .bool y12.2.2.1, ls 1 false (encI .u8) y12.2.2.2.1, ls 5 false enc36 y12.2.2.2.2, .int .u8 0, .int .u32 4, .bool false, ls 1 false (encI .u8) y14, .slice none 0 0] (.slice none 0 0) (ls 1 false (encI .u8) []) (.list 1 false) (by kernel_rfl) ?_
    refine HO.wkc 6 36 5 4 [.int .u8 0, .int .u32 5, .bool false, ls 1 false (encI .u8) [], .slice none 0 0, .int .u8 y12.1, .int .u32 y12.2.1, .bool y12.2.2.1, ls 1 false (encI .u8) y12.2.2.2.1, ls 5 false enc36 y12.2.2.2.2, .int .u8 0, .int .u32 4, .bool false, ls 1 false (encI .u8) y14, .slice none 0 0] (.slice none 0 0) (ls 5 false enc36 []) (.list 5 false) (by kernel_rfl) ?_
    refine HO.wkc 6 36 5 14 [.int .u8 0, .int .u32 5, .bool false, ls 1 false (encI .u8) [], ls 5 false enc36 [], .int .u8 y12.1, .int .u32 y12.2.1, .bool y12.2.2.1, ls 1 false (encI .u8) y12.2.2.2.1, ls 5 false enc36 y12.2.2.2.2, .int .u8 0, .int .u32 4, .bool false, ls 1 false (encI .u8) y14, .slice none 0 0] (.slice none 0 0) (ls 5 false enc36 []) (.list 5 false) (by kernel_rfl) ?_
    refine HO.frzE [64, 67] 6 3 1180591620717411303424 5 36 false ([(S36.mk 0 5 false [] []), (S36.mk y12.1 y12.2.1 y12.2.2.1 y12.2.2.2.1 y12.2.2.2.2), (S36.mk 0 4 false y14 [])].map enc36).toArray #[.agg #[.int .u8 0, .int .u32 5, .bool false, ls 1 false (encI .u8) [], ls 5 false enc36 []], .agg #[.int .u8 y12.1, .int .u32 y12.2.1, .bool y12.2.2.1, ls 1 false (encI .u8) y12.2.2.2.1, ls 5 false enc36 y12.2.2.2.2], .agg #[.int .u8 0, .int .u32 4, .bool false, ls 1 false (encI .u8) y14, ls 5 false enc36 []]] [.int .u8 0, .int .u32 5, .bool false, ls 1 false (encI .u8) [], ls 5 false enc36 [], .int .u8 y12.1, .int .u32 y12.2.1, .bool y12.2.2.1, ls 1 false (encI .u8) y12.2.2.2.1, ls 5 false enc36 y12.2.2.2.2, .int .u8 0, .int .u32 4, .bool false, ls 1 false (encI .u8) y14, ls 5 false enc36 []] (by simp only [List.map_cons, List.map_nil, enc36_eq]) (by kernel_rfl) ?_
    obtain ⟨y15, hy, h⟩ := bindS h
    refine HO.callW hS [.list 5 false] (clipT_ok [(S36.mk 0 5 false [] []), (S36.mk y12.1 y12.2.1 y12.2.2.1 y12.2.2.2.1 y12.2.2.2.2), (S36.mk 0 4 false y14 [])] y15 hy W0) (by kernel_rfl) (by kernel_rfl) ?_
    refine HO.fin' 2 ?_
    refine H.sr' 2 ?_
    refine H.ret' ?_
    obtain rfl := Option.some.inj h
    exact KEnd.retW (v := .agg #[.int .u8 2, .int .u32 (IntKind.u32.wrap x.1), .bool true, .slice none 0 0, ls 5 true enc36 y15]) (.agg [.keep, .keep, .keep, .list 1 false, .list 5 false]) (by kernel_rfl) (by kernel_rfl) (by kernel_rfl) (by kernel_rfl)
  rw [if_pos (of_decide_eq_true hb)] at h
  refine HO.fin' 4 ?_
  refine H.cS' (decide (0 ≤ x.2.2.1)) (fun hb => ?_) (fun hb => ?_)
  rotate_left
  · rw [if_neg (of_decide_eq_false hb)] at h
    refine H.skp' ?_
    refine Kseq_norm ?_
    refine H.drawQ ?_
    refine HQ.go' 4 ?_
    obtain ⟨y8, hy, h⟩ := bindS h
    refine HQ.callW hS [.keep, .keep, .keep] (numberC_ok (0, 10, x.2.2.2.1) y8 hy W0) (by kernel_rfl) (by kernel_rfl) ?_
    refine HQ.go' 2 ?_
    obtain ⟨y9, hy, h⟩ := bindS h
    refine HQ.callW hS [.list 1 false] (cloneS_ok x.2.2.2.2.2 y9 hy W0) (by kernel_rfl) (by kernel_rfl) ?_
    obtain ⟨y10, hy, h⟩ := bindS h
    refine HQ.callV (v' := ls 1 false (encI .u8) y10) hS [.list 1 false] (.list 1 false) (clip_ok y9 y10 hy W0) (by kernel_rfl) (by kernel_rfl) (by kernel_rfl) ?_
    refine HQ.go' 2 ?_
    refine HQ.go' 1 ?_
    refine HQ.go' 2 ?_
    refine HQ.done (by kernel_rfl) (by kernel_rfl) (by kernel_rfl) ?_
    refine Kseq_norm ?_
    refine H.sg' ?_
    refine HO.go' 2 ?_
    refine HO.wkc 6 36 5 3 [.int .u8 0, .int .u32 5, .bool false, .slice none 0 0, .slice none 0 0, .int .u8 y8.1, .int .u32 y8.2.1, .bool y8.2.2.1, ls 1 false (encI .u8) y8.2.2.2.1, ls 5 false enc36 y8.2.2.2.2, .int .u8 0, .int .u32 4, .bool false, ls 1 false (encI .u8) y10, .slice none 0 0] (.slice none 0 0) (ls 1 false (encI .u8) []) (.list 1 false) (by kernel_rfl) ?_
    refine HO.wkc 6 36 5 4 [.int .u8 0, .int .u32 5, .bool false, ls 1 false (encI .u8) [], .slice none 0 0, .int .u8 y8.1, .int .u32 y8.2.1, .bool y8.2.2.1, ls 1 false (encI .u8) y8.2.2.2.1, ls 5 false enc36 y8.2.2.2.2, .int .u8 0, .int .u32 4, .bool false, ls 1 false (encI .u8) y10, .slice none 0 0] (.slice none 0 0) (ls 5 false enc36 []) (.list 5 false) (by kernel_rfl) ?_
    refine HO.wkc 6 36 5 14 [.int .u8 0, .int .u32 5, .bool false, ls 1 false (encI .u8) [], ls 5 false enc36 [], .int .u8 y8.1, .int .u32 y8.2.1, .bool y8.2.2.1, ls 1 false (encI .u8) y8.2.2.2.1, ls 5 false enc36 y8.2.2.2.2, .int .u8 0, .int .u32 4, .bool false, ls 1 false (encI .u8) y10, .slice none 0 0] (.slice none 0 0) (ls 5 false enc36 []) (.list 5 false) (by kernel_rfl) ?_
    refine HO.frzE [64, 67] 6 3 1180591620717411303424 5 36 false ([(S36.mk 0 5 false [] []), (S36.mk y8.1 y8.2.1 y8.2.2.1 y8.2.2.2.1 y8.2.2.2.2), (S36.mk 0 4 false y10 [])].map enc36).toArray #[.agg #[.int .u8 0, .int .u32 5, .bool false, ls 1 false (encI .u8) [], ls 5 false enc36 []], .agg #[.int .u8 y8.1, .int .u32 y8.2.1, .bool y8.2.2.1, ls 1 false (encI .u8) y8.2.2.2.1, ls 5 false enc36 y8.2.2.2.2], .agg #[.int .u8 0, .int .u32 4, .bool false, ls 1 false (encI .u8) y10, ls 5 false enc36 []]] [.int .u8 0, .int .u32 5, .bool false, ls 1 false (encI .u8) [], ls 5 false enc36 [], .int .u8 y8.1, .int .u32 y8.2.1, .bool y8.2.2.1, ls 1 false (encI .u8) y8.2.2.2.1, ls 5 false enc36 y8.2.2.2.2, .int .u8 0, .int .u32 4, .bool false, ls 1 false (encI .u8) y10, ls 5 false enc36 []] (by simp only [List.map_cons, List.map_nil, enc36_eq]) (by kernel_rfl) ?_
    obtain ⟨y11, hy, h⟩ := bindS h
    refine HO.callW hS [.list 5 false] (clipT_ok [(S36.mk 0 5 false [] []), (S36.mk y8.1 y8.2.1 y8.2.2.1 y8.2.2.2.1 y8.2.2.2.2), (S36.mk 0 4 false y10 [])] y11 hy W0) (by kernel_rfl) (by kernel_rfl) ?_
    refine HO.fin' 2 ?_
    refine H.sr' 2 ?_
    refine H.ret' ?_
    obtain rfl := Option.some.inj h
    exact KEnd.retW (v := .agg #[.int .u8 2, .int .u32 (IntKind.u32.wrap x.1), .bool true, .slice none 0 0, ls 5 true enc36 y11]) (.agg [.keep, .keep, .keep, .list 1 false, .list 5 false]) (by kernel_rfl) (by kernel_rfl) (by kernel_rfl) (by kernel_rfl)
  rw [if_pos (of_decide_eq_true hb)] at h
  refine H.drawQ ?_
  refine HQ.go' 4 ?_
  obtain ⟨y3, hy, h⟩ := bindS h
  refine HQ.callW hS [.keep, .keep, .keep] (numberC_ok (2, 0, x.2.2.1) y3 hy W0) (by kernel_rfl) (by kernel_rfl) ?_
  refine HQ.go' 1 ?_
  refine HQ.go' 1 ?_
  refine HQ.go' 2 ?_
  refine HQ.done (by kernel_rfl) (by kernel_rfl) (by kernel_rfl) ?_
  refine Kseq_norm ?_
  refine H.drawQ ?_
  refine HQ.go' 4 ?_
  obtain ⟨y4, hy, h⟩ := bindS h
  refine HQ.callW hS [.keep, .keep, .keep] (numberC_ok (0, 10, x.2.2.2.1) y4 hy W0) (by kernel_rfl) (by kernel_rfl) ?_
  refine HQ.go' 2 ?_
  obtain ⟨y5, hy, h⟩ := bindS h
  refine HQ.callW hS [.list 1 false] (cloneS_ok x.2.2.2.2.2 y5 hy W0) (by kernel_rfl) (by kernel_rfl) ?_
  obtain ⟨y6, hy, h⟩ := bindS h
  refine HQ.callV (v' := ls 1 false (encI .u8) y6) hS [.list 1 false] (.list 1 false) (clip_ok y5 y6 hy W0) (by kernel_rfl) (by kernel_rfl) (by kernel_rfl) ?_
  refine HQ.go' 2 ?_
  refine HQ.go' 1 ?_
  refine HQ.go' 2 ?_
  refine HQ.done (by kernel_rfl) (by kernel_rfl) (by kernel_rfl) ?_
  refine Kseq_norm ?_
  refine H.sg' ?_
  refine HO.go' 2 ?_
  refine HO.wkc 8 36 5 3 [.int .u8 0, .int .u32 5, .bool false, .slice none 0 0, .slice none 0 0, .int .u8 y3.1, .int .u32 y3.2.1, .bool y3.2.2.1, ls 1 false (encI .u8) y3.2.2.2.1, ls 5 false enc36 y3.2.2.2.2, .int .u8 y4.1, .int .u32 y4.2.1, .bool y4.2.2.1, ls 1 false (encI .u8) y4.2.2.2.1, ls 5 false enc36 y4.2.2.2.2, .int .u8 0, .int .u32 4, .bool false, ls 1 false (encI .u8) y6, .slice none 0 0] (.slice none 0 0) (ls 1 false (encI .u8) []) (.list 1 false) (by kernel_rfl) ?_
  refine HO.wkc 8 36 5 4 [.int .u8 0, .int .u32 5, .bool false, ls 1 false (encI .u8) [], .slice none 0 0, .int .u8 y3.1, .int .u32 y3.2.1, .bool y3.2.2.1, ls 1 false (encI .u8) y3.2.2.2.1, ls 5 false enc36 y3.2.2.2.2, .int .u8 y4.1, .int .u32 y4.2.1, .bool y4.2.2.1, ls 1 false (encI .u8) y4.2.2.2.1, ls 5 false enc36 y4.2.2.2.2, .int .u8 0, .int .u32 4, .bool false, ls 1 false (encI .u8) y6, .slice none 0 0] (.slice none 0 0) (ls 5 false enc36 []) (.list 5 false) (by kernel_rfl) ?_
  refine HO.wkc 8 36 5 19 [.int .u8 0, .int .u32 5, .bool false, ls 1 false (encI .u8) [], ls 5 false enc36 [], .int .u8 y3.1, .int .u32 y3.2.1, .bool y3.2.2.1, ls 1 false (encI .u8) y3.2.2.2.1, ls 5 false enc36 y3.2.2.2.2, .int .u8 y4.1, .int .u32 y4.2.1, .bool y4.2.2.1, ls 1 false (encI .u8) y4.2.2.2.1, ls 5 false enc36 y4.2.2.2.2, .int .u8 0, .int .u32 4, .bool false, ls 1 false (encI .u8) y6, .slice none 0 0] (.slice none 0 0) (ls 5 false enc36 []) (.list 5 false) (by kernel_rfl) ?_
  refine HO.frzE [64, 67] 8 4 1180591620717411303424 5 36 false ([(S36.mk 0 5 false [] []), (S36.mk y3.1 y3.2.1 y3.2.2.1 y3.2.2.2.1 y3.2.2.2.2), (S36.mk y4.1 y4.2.1 y4.2.2.1 y4.2.2.2.1 y4.2.2.2.2), (S36.mk 0 4 false y6 [])].map enc36).toArray #[.agg #[.int .u8 0, .int .u32 5, .bool false, ls 1 false (encI .u8) [], ls 5 false enc36 []], .agg #[.int .u8 y3.1, .int .u32 y3.2.1, .bool y3.2.2.1, ls 1 false (encI .u8) y3.2.2.2.1, ls 5 false enc36 y3.2.2.2.2], .agg #[.int .u8 y4.1, .int .u32 y4.2.1, .bool y4.2.2.1, ls 1 false (encI .u8) y4.2.2.2.1, ls 5 false enc36 y4.2.2.2.2], .agg #[.int .u8 0, .int .u32 4, .bool false, ls 1 false (encI .u8) y6, ls 5 false enc36 []]] [.int .u8 0, .int .u32 5, .bool false, ls 1 false (encI .u8) [], ls 5 false enc36 [], .int .u8 y3.1, .int .u32 y3.2.1, .bool y3.2.2.1, ls 1 false (encI .u8) y3.2.2.2.1, ls 5 false enc36 y3.2.2.2.2, .int .u8 y4.1, .int .u32 y4.2.1, .bool y4.2.2.1, ls 1 false (encI .u8) y4.2.2.2.1, ls 5 false enc36 y4.2.2.2.2, .int .u8 0, .int .u32 4, .bool false, ls 1 false (encI .u8) y6, ls 5 false enc36 []] (by simp only [List.map_cons, List.map_nil, enc36_eq]) (by kernel_rfl) ?_
  obtain ⟨y7, hy, h⟩ := bindS h
  refine HO.callW hS [.list 5 false] (clipT_ok [(S36.mk 0 5 false [] []), (S36.mk y3.1 y3.2.1 y3.2.2.1 y3.2.2.2.1 y3.2.2.2.2), (S36.mk y4.1 y4.2.1 y4.2.2.1 y4.2.2.2.1 y4.2.2.2.2), (S36.mk 0 4 false y6 [])] y7 hy W0) (by kernel_rfl) (by kernel_rfl) ?_
  refine HO.fin' 2 ?_
  refine H.sr' 2 ?_
  refine H.ret' ?_
  obtain rfl := Option.some.inj h
  exact KEnd.retW (v := .agg #[.int .u8 2, .int .u32 (IntKind.u32.wrap x.1), .bool true, .slice none 0 0, ls 5 true enc36 y7]) (.agg [.keep, .keep, .keep, .list 1 false, .list 5 false]) (by kernel_rfl) (by kernel_rfl) (by kernel_rfl) (by kernel_rfl)
def cpTree (x : Int × Int × Int × Int × Int × (List Int)) : Option (Int × Int × Bool × (List Int) × (List S36) × Int) :=
  (cpCheck (x.1, x.2.1, x.2.2.1, x.2.2.2.1, x.2.2.2.2.1, x.2.2.2.2.2)) >>= fun y1 =>
  if (!decide (y1 = 0)) = true then
    some (0, 0, false, [], [], y1)
  else
    (cpTreeI (x.1, x.2.1, x.2.2.1, x.2.2.2.1, x.2.2.2.2.1, x.2.2.2.2.2)) >>= fun y2 =>
    some (y2.1, y2.2.1, y2.2.2.1, y2.2.2.2.1, y2.2.2.2.2, 0)
theorem cpTree_ok : ∀ (x : Int × Int × Int × Int × Int × (List Int)) (r : Int × Int × Bool × (List Int) × (List S36) × Int), cpTree x = some r → ∀ W0 : World, PTo Tryd.prog W0 33 #[.agg #[.int .u8 x.1, .int .i64 x.2.1, .int .i64 x.2.2.1, .int .i64 x.2.2.2.1, .int .u8 x.2.2.2.2.1, ls 1 false (encI .u8) x.2.2.2.2.2]] (.returned (.tuple #[.agg #[.int .u8 r.1, .int .u32 r.2.1, .bool r.2.2.1, ls 1 false (encI .u8) r.2.2.2.1, ls 5 false enc36 r.2.2.2.2.1], .int .i64 r.2.2.2.2.2])) := by
  intro x r h
  unfold cpTree at h
  intro W0
  refine PTo.of_body (fn := Tryd.f33) (code := cB Tryd.f33) Tryd.func33 rfl rfl ?_
  intro w0 S hS
  haveI := hS.noEx Tryd.prog
  refine H.sr' 3 ?_
  refine H.seq' ?_
  refine H.sg' ?_
  refine HO.go' 1 ?_
  obtain ⟨y1, hy, h⟩ := bindS h
  refine HO.callW hS [.agg [.keep, .keep, .keep, .keep, .keep, .list 1 false]] (cpCheck_ok (x.1, x.2.1, x.2.2.1, x.2.2.2.1, x.2.2.2.2.1, x.2.2.2.2.2) y1 hy W0) (by kernel_rfl) (by kernel_rfl) ?_
  refine HO.fin' 1 ?_
  refine H.sr' 2 ?_
  refine H.cS' (!decide (y1 = 0)) (fun hb => ?_) (fun hb => ?_)
  · rw [if_pos hb] at h
    refine H.sr' 4 ?_
    refine H.ret' ?_
    refine Kseq_ret ?_
    obtain rfl := Option.some.inj h
    exact KEnd.retW (v := .tuple #[.agg #[.int .u8 0, .int .u32 0, .bool false, .slice none 0 0, .slice none 0 0], .int .i64 y1]) (.tuple [.agg [.keep, .keep, .keep, .list 1 false, .list 5 false], .keep]) (by kernel_rfl) (by kernel_rfl) (by kernel_rfl) (by kernel_rfl)
  rw [if_neg (ne_true hb)] at h
  refine H.skp' ?_
  refine Kseq_norm ?_
  refine H.sg' ?_
  refine HO.go' 1 ?_
  obtain ⟨y2, hy, h⟩ := bindS h
  refine HO.callW hS [.agg [.keep, .keep, .keep, .keep, .keep, .list 1 false]] (cpTreeI_ok (x.1, x.2.1, x.2.2.1, x.2.2.2.1, x.2.2.2.2.1, x.2.2.2.2.2) y2 hy W0) (by kernel_rfl) (by kernel_rfl) ?_
  refine HO.fin' 2 ?_
  refine H.ret' ?_
  obtain rfl := Option.some.inj h
  exact KEnd.retW (v := .tuple #[.agg #[.int .u8 y2.1, .int .u32 y2.2.1, .bool y2.2.2.1, ls 1 false (encI .u8) y2.2.2.2.1, ls 5 false enc36 y2.2.2.2.2], .int .i64 0]) (.tuple [.agg [.keep, .keep, .keep, .list 1 false, .list 5 false], .keep]) (by kernel_rfl) (by kernel_rfl) (by kernel_rfl) (by kernel_rfl)
def sameC_L1 (x : Bool) : Option (Bool) :=
  some x
theorem sameC_L1_ok : ∀ (x : Bool) (r : Bool), sameC_L1 x = some r → ∀ (W0 w0 : World) (S : Own), Std W0 w0 S 0 → H Tryd.prog w0 S 47 (cR (cR (cB Tryd.f36))) (mkS [(4, .bool x)] [] 0 []) (KEnd Tryd.prog Tryd.f36 (PEnd w0 S (.returned (.bool r)))) := by
  intro x r h
  unfold sameC_L1 at h
  intro W0 w0 S hS
  haveI := hS.noEx Tryd.prog
  refine H.ret' ?_
  obtain rfl := Option.some.inj h
  exact KEnd.r'
def sameC (x : Int × Int × Int × Int × Int × (List Int) × Int × Int × Int × Int × Int × (List Int)) : Option (Bool) :=
  if x.1 = x.2.2.2.2.2.2.1 then
    if x.2.1 = x.2.2.2.2.2.2.2.1 then
      if x.2.2.1 = x.2.2.2.2.2.2.2.2.1 then
        if x.2.2.2.1 = x.2.2.2.2.2.2.2.2.2.1 then
          if x.2.2.2.2.1 = x.2.2.2.2.2.2.2.2.2.2.1 then
            sameC_L1 (strEq (bytesU x.2.2.2.2.2.1) (bytesU x.2.2.2.2.2.2.2.2.2.2.2))
          else
            sameC_L1 false
        else
          sameC_L1 false
      else
        sameC_L1 false
    else
      sameC_L1 false
  else
    sameC_L1 false
theorem sameC_ok : ∀ (x : Int × Int × Int × Int × Int × (List Int) × Int × Int × Int × Int × Int × (List Int)) (r : Bool), sameC x = some r → ∀ W0 : World, PTo Tryd.prog W0 36 #[.agg #[.int .u8 x.1, .int .i64 x.2.1, .int .i64 x.2.2.1, .int .i64 x.2.2.2.1, .int .u8 x.2.2.2.2.1, ls 1 false (encI .u8) x.2.2.2.2.2.1], .agg #[.int .u8 x.2.2.2.2.2.2.1, .int .i64 x.2.2.2.2.2.2.2.1, .int .i64 x.2.2.2.2.2.2.2.2.1, .int .i64 x.2.2.2.2.2.2.2.2.2.1, .int .u8 x.2.2.2.2.2.2.2.2.2.2.1, ls 1 false (encI .u8) x.2.2.2.2.2.2.2.2.2.2.2]] (.returned (.bool r)) := by
  intro x r h
  unfold sameC at h
  intro W0
  refine PTo.of_body (fn := Tryd.f36) (code := cB Tryd.f36) Tryd.func36 rfl rfl ?_
  intro w0 S hS
  haveI := hS.noEx Tryd.prog
  refine H.sr' 3 ?_
  refine H.sg' ?_
  refine HO.go' 5 ?_
  refine HO.bo' (decide (x.1 = x.2.2.2.2.2.2.1)) (fun hb => ?_) (fun hb => ?_)
  rotate_left
  · rw [if_neg (of_decide_eq_false hb)] at h
    refine HO.fin' 37 ?_
    exact H.ren' hS [] (sameC_L1_ok false r h W0 w0 S hS)
  rw [if_pos (of_decide_eq_true hb)] at h
  refine HO.go' 6 ?_
  refine HO.bo' (decide (x.2.1 = x.2.2.2.2.2.2.2.1)) (fun hb => ?_) (fun hb => ?_)
  rotate_left
  · rw [if_neg (of_decide_eq_false hb)] at h
    refine HO.fin' 30 ?_
    exact H.ren' hS [] (sameC_L1_ok false r h W0 w0 S hS)
  rw [if_pos (of_decide_eq_true hb)] at h
  refine HO.go' 6 ?_
  refine HO.bo' (decide (x.2.2.1 = x.2.2.2.2.2.2.2.2.1)) (fun hb => ?_) (fun hb => ?_)
  rotate_left
  · rw [if_neg (of_decide_eq_false hb)] at h
    refine HO.fin' 23 ?_
    exact H.ren' hS [] (sameC_L1_ok false r h W0 w0 S hS)
  rw [if_pos (of_decide_eq_true hb)] at h
  refine HO.go' 6 ?_
  refine HO.bo' (decide (x.2.2.2.1 = x.2.2.2.2.2.2.2.2.2.1)) (fun hb => ?_) (fun hb => ?_)
  rotate_left
  · rw [if_neg (of_decide_eq_false hb)] at h
    refine HO.fin' 16 ?_
    exact H.ren' hS [] (sameC_L1_ok false r h W0 w0 S hS)
  rw [if_pos (of_decide_eq_true hb)] at h
  refine HO.go' 6 ?_
  refine HO.bo' (decide (x.2.2.2.2.1 = x.2.2.2.2.2.2.2.2.2.2.1)) (fun hb => ?_) (fun hb => ?_)
  rotate_left
  · rw [if_neg (of_decide_eq_false hb)] at h
    refine HO.fin' 9 ?_
    exact H.ren' hS [] (sameC_L1_ok false r h W0 w0 S hS)
  rw [if_pos (of_decide_eq_true hb)] at h
  refine HO.go' 2 ?_
  refine HO.valA (str_aop x.2.2.2.2.2.1 (by kernel_rfl)) ?_
  refine HO.go' 2 ?_
  refine HO.valA (str_aop x.2.2.2.2.2.2.2.2.2.2.2 (by kernel_rfl)) ?_
  refine HO.fin' 3 ?_
  exact H.ren' hS [] (sameC_L1_ok (strEq (bytesU x.2.2.2.2.2.1) (bytesU x.2.2.2.2.2.2.2.2.2.2.2)) r h W0 w0 S hS)
def zeroC (x : Int × Int × Int × Int × Int × (List Int)) : Option (Bool) :=
  (sameC (x.1, x.2.1, x.2.2.1, x.2.2.2.1, x.2.2.2.2.1, x.2.2.2.2.2, 0, 0, 0, 0, 0, [])) >>= fun y1 =>
  some y1
theorem zeroC_ok : ∀ (x : Int × Int × Int × Int × Int × (List Int)) (r : Bool), zeroC x = some r → ∀ W0 : World, PTo Tryd.prog W0 34 #[.agg #[.int .u8 x.1, .int .i64 x.2.1, .int .i64 x.2.2.1, .int .i64 x.2.2.2.1, .int .u8 x.2.2.2.2.1, ls 1 false (encI .u8) x.2.2.2.2.2]] (.returned (.bool r)) := by
  intro x r h
  unfold zeroC at h
  intro W0
  refine PTo.of_body (fn := Tryd.f34) (code := cB Tryd.f34) Tryd.func34 rfl rfl ?_
  intro w0 S hS
  haveI := hS.noEx Tryd.prog
  refine H.sr' 2 ?_
  refine H.sg' ?_
  refine HO.go' 2 ?_
  obtain ⟨y1, hy, h⟩ := bindS h
  refine HO.callW hS [.agg [.keep, .keep, .keep, .keep, .keep, .list 1 false], .agg [.keep, .keep, .keep, .keep, .keep, .list 1 false]] (sameC_ok (x.1, x.2.1, x.2.2.1, x.2.2.2.1, x.2.2.2.2.1, x.2.2.2.2.2, 0, 0, 0, 0, 0, []) y1 hy W0) (by kernel_rfl) (by kernel_rfl) ?_
  refine HO.fin' 1 ?_
  refine H.ret' ?_
  obtain rfl := Option.some.inj h
  exact KEnd.r'
def kindsC_L1 (x : Bool) : Option (Bool) :=
  some x
theorem kindsC_L1_ok : ∀ (x : Bool) (r : Bool), kindsC_L1 x = some r → ∀ (W0 w0 : World) (S : Own), Std W0 w0 S 0 → H Tryd.prog w0 S 20 (cR (cR (cB Tryd.f35))) (mkS [(2, .bool x)] [] 0 []) (KEnd Tryd.prog Tryd.f35 (PEnd w0 S (.returned (.bool r)))) := by
  intro x r h
  unfold kindsC_L1 at h
  intro W0 w0 S hS
  haveI := hS.noEx Tryd.prog
  refine H.ret' ?_
  obtain rfl := Option.some.inj h
  exact KEnd.r'
def kindsC (x : Int × Int × Bool × (List Int) × (List S36)) : Option (Bool) :=
  if x.2.2.1 = true then
    if x.1 = 2 then
      if 1 ≤ x.2.1 then
        kindsC_L1 (decide (x.2.1 ≤ 5))
      else
        kindsC_L1 false
    else
      kindsC_L1 false
  else
    kindsC_L1 false
theorem kindsC_ok : ∀ (x : Int × Int × Bool × (List Int) × (List S36)) (r : Bool), kindsC x = some r → ∀ W0 : World, PTo Tryd.prog W0 35 #[.agg #[.int .u8 x.1, .int .u32 x.2.1, .bool x.2.2.1, ls 1 false (encI .u8) x.2.2.2.1, ls 5 false enc36 x.2.2.2.2]] (.returned (.bool r)) := by
  intro x r h
  unfold kindsC at h
  intro W0
  refine PTo.of_body (fn := Tryd.f35) (code := cB Tryd.f35) Tryd.func35 rfl rfl ?_
  intro w0 S hS
  haveI := hS.noEx Tryd.prog
  refine H.sr' 2 ?_
  refine H.sg' ?_
  refine HO.go' 2 ?_
  refine HO.bo' x.2.2.1 (fun hb => ?_) (fun hb => ?_)
  rotate_left
  · rw [if_neg (ne_true hb)] at h
    refine HO.fin' 15 ?_
    exact H.ren' hS [] (kindsC_L1_ok false r h W0 w0 S hS)
  rw [if_pos hb] at h
  refine HO.go' 4 ?_
  refine HO.bo' (decide (x.1 = 2)) (fun hb => ?_) (fun hb => ?_)
  rotate_left
  · rw [if_neg (of_decide_eq_false hb)] at h
    refine HO.fin' 10 ?_
    exact H.ren' hS [] (kindsC_L1_ok false r h W0 w0 S hS)
  rw [if_pos (of_decide_eq_true hb)] at h
  refine HO.go' 4 ?_
  refine HO.bo' (decide (1 ≤ x.2.1)) (fun hb => ?_) (fun hb => ?_)
  · rw [if_pos (of_decide_eq_true hb)] at h
    refine HO.fin' 5 ?_
    exact H.ren' hS [] (kindsC_L1_ok (decide (x.2.1 ≤ 5)) r h W0 w0 S hS)
  rw [if_neg (of_decide_eq_false hb)] at h
  refine HO.fin' 5 ?_
  exact H.ren' hS [] (kindsC_L1_ok false r h W0 w0 S hS)
def lawNumber_L1 (x : Int × Bool) : Option (Int) :=
  if x.2 = true then
    some (-5)
  else
    some x.1
theorem lawNumber_L1_ok : ∀ (x : Int × Bool) (r : Int), lawNumber_L1 x = some r → ∀ (W0 w0 : World) (S : Own), Std W0 w0 S 0 → H Tryd.prog w0 S 22 (cR (cL (cR (cR (cB Tryd.f68))))) (mkS [(3, .int .i64 x.1), (20, .bool x.2)] [] 0 []) (Kseq Tryd.prog w0 S 22 (cR (cR (cR (cB Tryd.f68)))) (KEnd Tryd.prog Tryd.f68 (PEnd w0 S (.returned (.int .i64 r))))) := by
  intro x r h
  unfold lawNumber_L1 at h
  intro W0 w0 S hS
  haveI := hS.noEx Tryd.prog
  refine H.cS' (x.2) (fun hb => ?_) (fun hb => ?_)
  · rw [if_pos hb] at h
    refine H.sr' 1 ?_
    refine H.ret' ?_
    refine Kseq_ret ?_
    obtain rfl := Option.some.inj h
    exact KEnd.r'
  rw [if_neg (ne_true hb)] at h
  refine H.skp' ?_
  refine Kseq_norm ?_
  refine H.sr' 2 ?_
  refine H.ret' ?_
  obtain rfl := Option.some.inj h
  exact KEnd.r'
def lawNumber (x : Int × Int × Bool × (List Int) × (List S36)) : Option (Int) :=
  (toInt x.2.2.2.1) >>= fun y1 =>
  if (!decide (y1.2 = 0)) = true then
    lawNumber_L1 (y1.1, true)
  else
    if y1.1 < 0 then
      lawNumber_L1 (y1.1, true)
    else
      lawNumber_L1 (y1.1, (decide (1000 < y1.1)))
theorem lawNumber_ok : ∀ (x : Int × Int × Bool × (List Int) × (List S36)) (r : Int), lawNumber x = some r → ∀ W0 : World, PTo Tryd.prog W0 68 #[.agg #[.int .u8 x.1, .int .u32 x.2.1, .bool x.2.2.1, ls 1 false (encI .u8) x.2.2.2.1, ls 5 false enc36 x.2.2.2.2]] (.returned (.int .i64 r)) := by
  intro x r h
  unfold lawNumber at h
  intro W0
  refine PTo.of_body (fn := Tryd.f68) (code := cB Tryd.f68) Tryd.func68 rfl rfl ?_
  intro w0 S hS
  haveI := hS.noEx Tryd.prog
  refine H.sr' 2 ?_
  refine H.sg' ?_
  refine HO.go' 2 ?_
  obtain ⟨y1, hy, h⟩ := bindS h
  refine HO.callW hS [.list 1 false] (toInt_ok x.2.2.2.1 y1 hy W0) (by kernel_rfl) (by kernel_rfl) ?_
  refine HO.fin' 5 ?_
  refine H.seq' ?_
  refine H.sg' ?_
  refine HO.go' 2 ?_
  refine HO.bo' (!decide (y1.2 = 0)) (fun hb => ?_) (fun hb => ?_)
  · rw [if_pos hb] at h
    refine HO.fin' 7 ?_
    exact H.ren' hS [] (lawNumber_L1_ok (y1.1, true) r h W0 w0 S hS)
  rw [if_neg (ne_true hb)] at h
  refine HO.go' 3 ?_
  refine HO.bo' (decide (y1.1 < 0)) (fun hb => ?_) (fun hb => ?_)
  · rw [if_pos (of_decide_eq_true hb)] at h
    refine HO.fin' 3 ?_
    exact H.ren' hS [] (lawNumber_L1_ok (y1.1, true) r h W0 w0 S hS)
  rw [if_neg (of_decide_eq_false hb)] at h
  refine HO.fin' 3 ?_
  exact H.ren' hS [] (lawNumber_L1_ok (y1.1, (decide (1000 < y1.1))) r h W0 w0 S hS)
def lawTree (x : Int × Int × Int × Int × Int × (List Int)) : Option (Int × Int × Bool × (List Int) × (List S36)) :=
  if x.2.1 = (-1) then
    if x.1 = 1 then
      if 0 ≤ x.2.2.1 then
        (lawPart (2, 0, x.2.2.1)) >>= fun y1 =>
        if x.1 = 5 then
          (lawPart (2, 1, (IntKind.i64.wrap x.2.2.2.2.1))) >>= fun y2 =>
          some (2, (IntKind.u32.wrap x.1), true, [], [(S36.mk 0 5 false [] []), (S36.mk y1.1 y1.2.1 y1.2.2.1 y1.2.2.2.1 y1.2.2.2.2), (S36.mk y2.1 y2.2.1 y2.2.2.1 y2.2.2.2.1 y2.2.2.2.2)])
        else
          (lawPart (0, 10, x.2.2.2.1)) >>= fun y3 =>
          some (2, (IntKind.u32.wrap x.1), true, [], [(S36.mk 0 5 false [] []), (S36.mk y1.1 y1.2.1 y1.2.2.1 y1.2.2.2.1 y1.2.2.2.2), (S36.mk y3.1 y3.2.1 y3.2.2.1 y3.2.2.2.1 y3.2.2.2.2), (S36.mk 0 4 false x.2.2.2.2.2 [])])
      else
        if x.1 = 5 then
          (lawPart (2, 1, (IntKind.i64.wrap x.2.2.2.2.1))) >>= fun y4 =>
          some (2, (IntKind.u32.wrap x.1), true, [], [(S36.mk 0 5 false [] []), (S36.mk y4.1 y4.2.1 y4.2.2.1 y4.2.2.2.1 y4.2.2.2.2)])
        else
          (lawPart (0, 10, x.2.2.2.1)) >>= fun y5 =>
          some (2, (IntKind.u32.wrap x.1), true, [], [(S36.mk 0 5 false [] []), (S36.mk y5.1 y5.2.1 y5.2.2.1 y5.2.2.2.1 y5.2.2.2.2), (S36.mk 0 4 false x.2.2.2.2.2 [])])
    else
      if x.1 = 5 then
        (lawPart (2, 1, (IntKind.i64.wrap x.2.2.2.2.1))) >>= fun y6 =>
        some (2, (IntKind.u32.wrap x.1), true, [], [(S36.mk 0 5 false [] []), (S36.mk y6.1 y6.2.1 y6.2.2.1 y6.2.2.2.1 y6.2.2.2.2)])
      else
        (lawPart (0, 10, x.2.2.2.1)) >>= fun y7 =>
        some (2, (IntKind.u32.wrap x.1), true, [], [(S36.mk 0 5 false [] []), (S36.mk y7.1 y7.2.1 y7.2.2.1 y7.2.2.2.1 y7.2.2.2.2), (S36.mk 0 4 false x.2.2.2.2.2 [])])
  else
    (lawPart (0, 2, x.2.1)) >>= fun y8 =>
    if x.1 = 1 then
      if 0 ≤ x.2.2.1 then
        (lawPart (2, 0, x.2.2.1)) >>= fun y9 =>
        if x.1 = 5 then
          (lawPart (2, 1, (IntKind.i64.wrap x.2.2.2.2.1))) >>= fun y10 =>
          some (2, (IntKind.u32.wrap x.1), true, [], [(S36.mk y8.1 y8.2.1 y8.2.2.1 y8.2.2.2.1 y8.2.2.2.2), (S36.mk y9.1 y9.2.1 y9.2.2.1 y9.2.2.2.1 y9.2.2.2.2), (S36.mk y10.1 y10.2.1 y10.2.2.1 y10.2.2.2.1 y10.2.2.2.2)])
        else
          (lawPart (0, 10, x.2.2.2.1)) >>= fun y11 =>
          some (2, (IntKind.u32.wrap x.1), true, [], [(S36.mk y8.1 y8.2.1 y8.2.2.1 y8.2.2.2.1 y8.2.2.2.2), (S36.mk y9.1 y9.2.1 y9.2.2.1 y9.2.2.2.1 y9.2.2.2.2), (S36.mk y11.1 y11.2.1 y11.2.2.1 y11.2.2.2.1 y11.2.2.2.2), (S36.mk 0 4 false x.2.2.2.2.2 [])])
      else
        if x.1 = 5 then
          (lawPart (2, 1, (IntKind.i64.wrap x.2.2.2.2.1))) >>= fun y12 =>
          some (2, (IntKind.u32.wrap x.1), true, [], [(S36.mk y8.1 y8.2.1 y8.2.2.1 y8.2.2.2.1 y8.2.2.2.2), (S36.mk y12.1 y12.2.1 y12.2.2.1 y12.2.2.2.1 y12.2.2.2.2)])
        else
          (lawPart (0, 10, x.2.2.2.1)) >>= fun y13 =>
          some (2, (IntKind.u32.wrap x.1), true, [], [(S36.mk y8.1 y8.2.1 y8.2.2.1 y8.2.2.2.1 y8.2.2.2.2), (S36.mk y13.1 y13.2.1 y13.2.2.1 y13.2.2.2.1 y13.2.2.2.2), (S36.mk 0 4 false x.2.2.2.2.2 [])])
    else
      if x.1 = 5 then
        (lawPart (2, 1, (IntKind.i64.wrap x.2.2.2.2.1))) >>= fun y14 =>
        some (2, (IntKind.u32.wrap x.1), true, [], [(S36.mk y8.1 y8.2.1 y8.2.2.1 y8.2.2.2.1 y8.2.2.2.2), (S36.mk y14.1 y14.2.1 y14.2.2.1 y14.2.2.2.1 y14.2.2.2.2)])
      else
        (lawPart (0, 10, x.2.2.2.1)) >>= fun y15 =>
        some (2, (IntKind.u32.wrap x.1), true, [], [(S36.mk y8.1 y8.2.1 y8.2.2.1 y8.2.2.2.1 y8.2.2.2.2), (S36.mk y15.1 y15.2.1 y15.2.2.1 y15.2.2.2.1 y15.2.2.2.2), (S36.mk 0 4 false x.2.2.2.2.2 [])])
theorem lawTree_ok : ∀ (x : Int × Int × Int × Int × Int × (List Int)) (r : Int × Int × Bool × (List Int) × (List S36)), lawTree x = some r → ∀ W0 : World, PTo Tryd.prog W0 30 #[.agg #[.int .u8 x.1, .int .i64 x.2.1, .int .i64 x.2.2.1, .int .i64 x.2.2.2.1, .int .u8 x.2.2.2.2.1, ls 1 false (encI .u8) x.2.2.2.2.2]] (.returned (.agg #[.int .u8 r.1, .int .u32 r.2.1, .bool r.2.2.1, ls 1 false (encI .u8) r.2.2.2.1, ls 5 false enc36 r.2.2.2.2])) := by
  intro x r h
  unfold lawTree at h
  intro W0
  refine PTo.of_body (fn := Tryd.f30) (code := cB Tryd.f30) Tryd.func30 rfl rfl ?_
  intro w0 S hS
  haveI := hS.noEx Tryd.prog
  refine H.sr' 2 ?_
  refine H.sr' 6 ?_
  refine H.seq' ?_
  refine H.sr' 3 ?_
  refine H.cS' (decide (x.2.1 = (-1))) (fun hb => ?_) (fun hb => ?_)
  rotate_left
  · rw [if_neg (of_decide_eq_false hb)] at h
    refine H.drawQ ?_
    refine HQ.go' 4 ?_
    obtain ⟨y8, hy, h⟩ := bindS h
    refine HQ.callW hS [.keep, .keep, .keep] (lawPart_ok (0, 2, x.2.1) y8 hy W0) (by kernel_rfl) (by kernel_rfl) ?_
    refine HQ.go' 1 ?_
    refine HQ.go' 1 ?_
    refine HQ.go' 2 ?_
    refine HQ.done (by kernel_rfl) (by kernel_rfl) (by kernel_rfl) ?_
    refine Kseq_norm ?_
    refine H.seq' ?_
    refine H.sg' ?_
    refine HO.go' 3 ?_
    refine HO.bo' (decide (x.1 = 1)) (fun hb => ?_) (fun hb => ?_)
    rotate_left
    · rw [if_neg (of_decide_eq_false hb)] at h
      refine HO.fin' 4 ?_
      refine H.cF' ?_
      refine H.skp' ?_
      refine Kseq_norm ?_
      refine H.seq' ?_
      refine H.sr' 3 ?_
      refine H.cS' (decide (x.1 = 5)) (fun hb => ?_) (fun hb => ?_)
      · rw [if_pos (of_decide_eq_true hb)] at h
        refine H.drawQ ?_
        refine HQ.go' 5 ?_
        obtain ⟨y14, hy, h⟩ := bindS h
        refine HQ.callW hS [.keep, .keep, .keep] (lawPart_ok (2, 1, (IntKind.i64.wrap x.2.2.2.2.1)) y14 hy W0) (by kernel_rfl) (by kernel_rfl) ?_
        refine HQ.go' 1 ?_
        refine HQ.go' 1 ?_
        refine HQ.go' 2 ?_
        refine HQ.done (by kernel_rfl) (by kernel_rfl) (by kernel_rfl) ?_
        refine Kseq_norm ?_
        refine H.sr' 2 ?_
        refine H.ret' ?_
        obtain rfl := Option.some.inj h
        exact KEnd.of (v := .agg #[.int .u8 2, .int .u32 (IntKind.u32.wrap x.1), .bool true, .slice none 0 0, .slice (some ⟨6, 0, none⟩) 2 1180591620717411303424]) (by kernel_rfl) (by kernel_rfl) (PEnd.frzE 6 2 1180591620717411303424 5 36 false ([(S36.mk y8.1 y8.2.1 y8.2.2.1 y8.2.2.2.1 y8.2.2.2.2), (S36.mk y14.1 y14.2.1 y14.2.2.1 y14.2.2.2.1 y14.2.2.2.2)].map enc36).toArray #[.agg #[.int .u8 y8.1, .int .u32 y8.2.1, .bool y8.2.2.1, ls 1 false (encI .u8) y8.2.2.2.1, ls 5 false enc36 y8.2.2.2.2], .agg #[.int .u8 y14.1, .int .u32 y14.2.1, .bool y14.2.2.1, ls 1 false (encI .u8) y14.2.2.2.1, ls 5 false enc36 y14.2.2.2.2]] [.int .u8 y8.1, .int .u32 y8.2.1, .bool y8.2.2.1, ls 1 false (encI .u8) y8.2.2.2.1, ls 5 false enc36 y8.2.2.2.2, .int .u8 y14.1, .int .u32 y14.2.1, .bool y14.2.2.1, ls 1 false (encI .u8) y14.2.2.2.1, ls 5 false enc36 y14.2.2.2.2] (by simp only [List.map_cons, List.map_nil, enc36_eq]) (by kernel_rfl) (PEnd.wk (v1 := .agg #[.int .u8 2, .int .u32 (IntKind.u32.wrap x.1), .bool true, ls 1 false (encI .u8) [], ls 5 false enc36 [(S36.mk y8.1 y8.2.1 y8.2.2.1 y8.2.2.2.1 y8.2.2.2.2), (S36.mk y14.1 y14.2.1 y14.2.2.1 y14.2.2.2.1 y14.2.2.2.2)]]) (.agg [.keep, .keep, .keep, .list 1 false, .list 5 false]) (by kernel_rfl) (PEnd.fin (by kernel_rfl))))
      rw [if_neg (of_decide_eq_false hb)] at h
      refine H.drawQ ?_
      refine HQ.go' 4 ?_
      obtain ⟨y15, hy, h⟩ := bindS h
      refine HQ.callW hS [.keep, .keep, .keep] (lawPart_ok (0, 10, x.2.2.2.1) y15 hy W0) (by kernel_rfl) (by kernel_rfl) ?_
      refine HQ.go' 4 ?_
      refine HQ.go' 1 ?_
      refine HQ.go' 2 ?_
      refine HQ.done (by kernel_rfl) (by kernel_rfl) (by kernel_rfl) ?_
      refine Kseq_norm ?_
      refine H.sr' 2 ?_
      refine H.wkc 6 36 5 14 [.int .u8 y8.1, .int .u32 y8.2.1, .bool y8.2.2.1, ls 1 false (encI .u8) y8.2.2.2.1, ls 5 false enc36 y8.2.2.2.2, .int .u8 y15.1, .int .u32 y15.2.1, .bool y15.2.2.1, ls 1 false (encI .u8) y15.2.2.2.1, ls 5 false enc36 y15.2.2.2.2, .int .u8 0, .int .u32 4, .bool false, ls 1 false (encI .u8) x.2.2.2.2.2, .slice none 0 0] (.slice none 0 0) (ls 5 false enc36 []) (.list 5 false) (by kernel_rfl) ?_
      refine H.ret' ?_
      obtain rfl := Option.some.inj h
      exact KEnd.of (v := .agg #[.int .u8 2, .int .u32 (IntKind.u32.wrap x.1), .bool true, .slice none 0 0, .slice (some ⟨6, 0, none⟩) 3 1180591620717411303424]) (by kernel_rfl) (by kernel_rfl) (PEnd.frzE 6 3 1180591620717411303424 5 36 false ([(S36.mk y8.1 y8.2.1 y8.2.2.1 y8.2.2.2.1 y8.2.2.2.2), (S36.mk y15.1 y15.2.1 y15.2.2.1 y15.2.2.2.1 y15.2.2.2.2), (S36.mk 0 4 false x.2.2.2.2.2 [])].map enc36).toArray #[.agg #[.int .u8 y8.1, .int .u32 y8.2.1, .bool y8.2.2.1, ls 1 false (encI .u8) y8.2.2.2.1, ls 5 false enc36 y8.2.2.2.2], .agg #[.int .u8 y15.1, .int .u32 y15.2.1, .bool y15.2.2.1, ls 1 false (encI .u8) y15.2.2.2.1, ls 5 false enc36 y15.2.2.2.2], .agg #[.int .u8 0, .int .u32 4, .bool false, ls 1 false (encI .u8) x.2.2.2.2.2, ls 5 false enc36 []]] [.int .u8 y8.1, .int .u32 y8.2.1, .bool y8.2.2.1, ls 1 false (encI .u8) y8.2.2.2.1, ls 5 false enc36 y8.2.2.2.2, .int .u8 y15.1, .int .u32 y15.2.1, .bool y15.2.2.1, ls 1 false (encI .u8) y15.2.2.2.1, ls 5 false enc36 y15.2.2.2.2, .int .u8 0, .int .u32 4, .bool false, ls 1 false (encI .u8) x.2.2.2.2.2, ls 5 false enc36 []] (by simp only [List.map_cons, List.map_nil, enc36_eq]) (by kernel_rfl) (PEnd.wk (v1 := .agg #[.int .u8 2, .int .u32 (IntKind.u32.wrap x.1), .bool true, ls 1 false (encI .u8) [], ls 5 false enc36 [(S36.mk y8.1 y8.2.1 y8.2.2.1 y8.2.2.2.1 y8.2.2.2.2), (S36.mk y15.1 y15.2.1 y15.2.2.1 y15.2.2.2.1 y15.2.2.2.2), (S36.mk 0 4 false x.2.2.2.2.2 [])]]) (.agg [.keep, .keep, .keep, .list 1 false, .list 5 false]) (by kernel_rfl) (PEnd.fin (by kernel_rfl))))
    rw [if_pos (of_decide_eq_true hb)] at h
    refine HO.fin' 4 ?_
    refine H.cS' (decide (0 ≤ x.2.2.1)) (fun hb => ?_) (fun hb => ?_)
    rotate_left
    · rw [if_neg (of_decide_eq_false hb)] at h
      refine H.skp' ?_
      refine Kseq_norm ?_
      refine H.seq' ?_
      refine H.sr' 3 ?_
      refine H.cS' (decide (x.1 = 5)) (fun hb => ?_) (fun hb => ?_)
      · rw [if_pos (of_decide_eq_true hb)] at h
        refine H.drawQ ?_
        refine HQ.go' 5 ?_
        obtain ⟨y12, hy, h⟩ := bindS h
        refine HQ.callW hS [.keep, .keep, .keep] (lawPart_ok (2, 1, (IntKind.i64.wrap x.2.2.2.2.1)) y12 hy W0) (by kernel_rfl) (by kernel_rfl) ?_
        refine HQ.go' 1 ?_
        refine HQ.go' 1 ?_
        refine HQ.go' 2 ?_
        refine HQ.done (by kernel_rfl) (by kernel_rfl) (by kernel_rfl) ?_
        refine Kseq_norm ?_
        refine H.sr' 2 ?_
        refine H.ret' ?_
        obtain rfl := Option.some.inj h
        exact KEnd.of (v := .agg #[.int .u8 2, .int .u32 (IntKind.u32.wrap x.1), .bool true, .slice none 0 0, .slice (some ⟨6, 0, none⟩) 2 1180591620717411303424]) (by kernel_rfl) (by kernel_rfl) (PEnd.frzE 6 2 1180591620717411303424 5 36 false ([(S36.mk y8.1 y8.2.1 y8.2.2.1 y8.2.2.2.1 y8.2.2.2.2), (S36.mk y12.1 y12.2.1 y12.2.2.1 y12.2.2.2.1 y12.2.2.2.2)].map enc36).toArray #[.agg #[.int .u8 y8.1, .int .u32 y8.2.1, .bool y8.2.2.1, ls 1 false (encI .u8) y8.2.2.2.1, ls 5 false enc36 y8.2.2.2.2], .agg #[.int .u8 y12.1, .int .u32 y12.2.1, .bool y12.2.2.1, ls 1 false (encI .u8) y12.2.2.2.1, ls 5 false enc36 y12.2.2.2.2]] [.int .u8 y8.1, .int .u32 y8.2.1, .bool y8.2.2.1, ls 1 false (encI .u8) y8.2.2.2.1, ls 5 false enc36 y8.2.2.2.2, .int .u8 y12.1, .int .u32 y12.2.1, .bool y12.2.2.1, ls 1 false (encI .u8) y12.2.2.2.1, ls 5 false enc36 y12.2.2.2.2] (by simp only [List.map_cons, List.map_nil, enc36_eq]) (by kernel_rfl) (PEnd.wk (v1 := .agg #[.int .u8 2, .int .u32 (IntKind.u32.wrap x.1), .bool true, ls 1 false (encI .u8) [], ls 5 false enc36 [(S36.mk y8.1 y8.2.1 y8.2.2.1 y8.2.2.2.1 y8.2.2.2.2), (S36.mk y12.1 y12.2.1 y12.2.2.1 y12.2.2.2.1 y12.2.2.2.2)]]) (.agg [.keep, .keep, .keep, .list 1 false, .list 5 false]) (by kernel_rfl) (PEnd.fin (by kernel_rfl))))
      rw [if_neg (of_decide_eq_false hb)] at h
      refine H.drawQ ?_
      refine HQ.go' 4 ?_
      obtain ⟨y13, hy, h⟩ := bindS h
      refine HQ.callW hS [.keep, .keep, .keep] (lawPart_ok (0, 10, x.2.2.2.1) y13 hy W0) (by kernel_rfl) (by kernel_rfl) ?_
      refine HQ.go' 4 ?_
      refine HQ.go' 1 ?_
      refine HQ.go' 2 ?_
      refine HQ.done (by kernel_rfl) (by kernel_rfl) (by kernel_rfl) ?_
      refine Kseq_norm ?_
      refine H.sr' 2 ?_
      refine H.wkc 6 36 5 14 [.int .u8 y8.1, .int .u32 y8.2.1, .bool y8.2.2.1, ls 1 false (encI .u8) y8.2.2.2.1, ls 5 false enc36 y8.2.2.2.2, .int .u8 y13.1, .int .u32 y13.2.1, .bool y13.2.2.1, ls 1 false (encI .u8) y13.2.2.2.1, ls 5 false enc36 y13.2.2.2.2, .int .u8 0, .int .u32 4, .bool false, ls 1 false (encI .u8) x.2.2.2.2.2, .slice none 0 0] (.slice none 0 0) (ls 5 false enc36 []) (.list 5 false) (by kernel_rfl) ?_
      refine H.ret' ?_
      obtain rfl := Option.some.inj h
      exact KEnd.of (v := .agg #[.int .u8 2, .int .u32 (IntKind.u32.wrap x.1), .bool true, .slice none 0 0, .slice (some ⟨6, 0, none⟩) 3 1180591620717411303424]) (by kernel_rfl) (by kernel_rfl) (PEnd.frzE 6 3 1180591620717411303424 5 36 false ([(S36.mk y8.1 y8.2.1 y8.2.2.1 y8.2.2.2.1 y8.2.2.2.2), (S36.mk y13.1 y13.2.1 y13.2.2.1 y13.2.2.2.1 y13.2.2.2.2), (S36.mk 0 4 false x.2.2.2.2.2 [])].map enc36).toArray #[.agg #[.int .u8 y8.1, .int .u32 y8.2.1, .bool y8.2.2.1, ls 1 false (encI .u8) y8.2.2.2.1, ls 5 false enc36 y8.2.2.2.2], .agg #[.int .u8 y13.1, .int .u32 y13.2.1, .bool y13.2.2.1, ls 1 false (encI .u8) y13.2.2.2.1, ls 5 false enc36 y13.2.2.2.2], .agg #[.int .u8 0, .int .u32 4, .bool false, ls 1 false (encI .u8) x.2.2.2.2.2, ls 5 false enc36 []]] [.int .u8 y8.1, .int .u32 y8.2.1, .bool y8.2.2.1, ls 1 false (encI .u8) y8.2.2.2.1, ls 5 false enc36 y8.2.2.2.2, .int .u8 y13.1, .int .u32 y13.2.1, .bool y13.2.2.1, ls 1 false (encI .u8) y13.2.2.2.1, ls 5 false enc36 y13.2.2.2.2, .int .u8 0, .int .u32 4, .bool false, ls 1 false (encI .u8) x.2.2.2.2.2, ls 5 false enc36 []] (by simp only [List.map_cons, List.map_nil, enc36_eq]) (by kernel_rfl) (PEnd.wk (v1 := .agg #[.int .u8 2, .int .u32 (IntKind.u32.wrap x.1), .bool true, ls 1 false (encI .u8) [], ls 5 false enc36 [(S36.mk y8.1 y8.2.1 y8.2.2.1 y8.2.2.2.1 y8.2.2.2.2), (S36.mk y13.1 y13.2.1 y13.2.2.1 y13.2.2.2.1 y13.2.2.2.2), (S36.mk 0 4 false x.2.2.2.2.2 [])]]) (.agg [.keep, .keep, .keep, .list 1 false, .list 5 false]) (by kernel_rfl) (PEnd.fin (by kernel_rfl))))
    rw [if_pos (of_decide_eq_true hb)] at h
    refine H.drawQ ?_
    refine HQ.go' 4 ?_
    obtain ⟨y9, hy, h⟩ := bindS h
    refine HQ.callW hS [.keep, .keep, .keep] (lawPart_ok (2, 0, x.2.2.1) y9 hy W0) (by kernel_rfl) (by kernel_rfl) ?_
    refine HQ.go' 1 ?_
    refine HQ.go' 1 ?_
    refine HQ.go' 2 ?_
    refine HQ.done (by kernel_rfl) (by kernel_rfl) (by kernel_rfl) ?_
    refine Kseq_norm ?_
    refine H.seq' ?_
    refine H.sr' 3 ?_
    refine H.cS' (decide (x.1 = 5)) (fun hb => ?_) (fun hb => ?_)
    · rw [if_pos (of_decide_eq_true hb)] at h
      refine H.drawQ ?_
      refine HQ.go' 5 ?_
      obtain ⟨y10, hy, h⟩ := bindS h
      refine HQ.callW hS [.keep, .keep, .keep] (lawPart_ok (2, 1, (IntKind.i64.wrap x.2.2.2.2.1)) y10 hy W0) (by kernel_rfl) (by kernel_rfl) ?_
      refine HQ.go' 1 ?_
      refine HQ.go' 1 ?_
      refine HQ.go' 2 ?_
      refine HQ.done (by kernel_rfl) (by kernel_rfl) (by kernel_rfl) ?_
      refine Kseq_norm ?_
      refine H.sr' 2 ?_
      refine H.ret' ?_
      obtain rfl := Option.some.inj h
      exact KEnd.of (v := .agg #[.int .u8 2, .int .u32 (IntKind.u32.wrap x.1), .bool true, .slice none 0 0, .slice (some ⟨8, 0, none⟩) 3 1180591620717411303424]) (by kernel_rfl) (by kernel_rfl) (PEnd.frzE 8 3 1180591620717411303424 5 36 false ([(S36.mk y8.1 y8.2.1 y8.2.2.1 y8.2.2.2.1 y8.2.2.2.2), (S36.mk y9.1 y9.2.1 y9.2.2.1 y9.2.2.2.1 y9.2.2.2.2), (S36.mk y10.1 y10.2.1 y10.2.2.1 y10.2.2.2.1 y10.2.2.2.2)].map enc36).toArray #[.agg #[.int .u8 y8.1, .int .u32 y8.2.1, .bool y8.2.2.1, ls 1 false (encI .u8) y8.2.2.2.1, ls 5 false enc36 y8.2.2.2.2], .agg #[.int .u8 y9.1, .int .u32 y9.2.1, .bool y9.2.2.1, ls 1 false (encI .u8) y9.2.2.2.1, ls 5 false enc36 y9.2.2.2.2], .agg #[.int .u8 y10.1, .int .u32 y10.2.1, .bool y10.2.2.1, ls 1 false (encI .u8) y10.2.2.2.1, ls 5 false enc36 y10.2.2.2.2]] [.int .u8 y8.1, .int .u32 y8.2.1, .bool y8.2.2.1, ls 1 false (encI .u8) y8.2.2.2.1, ls 5 false enc36 y8.2.2.2.2, .int .u8 y9.1, .int .u32 y9.2.1, .bool y9.2.2.1, ls 1 false (encI .u8) y9.2.2.2.1, ls 5 false enc36 y9.2.2.2.2, .int .u8 y10.1, .int .u32 y10.2.1, .bool y10.2.2.1, ls 1 false (encI .u8) y10.2.2.2.1, ls 5 false enc36 y10.2.2.2.2] (by simp only [List.map_cons, List.map_nil, enc36_eq]) (by kernel_rfl) (PEnd.wk (v1 := .agg #[.int .u8 2, .int .u32 (IntKind.u32.wrap x.1), .bool true, ls 1 false (encI .u8) [], ls 5 false enc36 [(S36.mk y8.1 y8.2.1 y8.2.2.1 y8.2.2.2.1 y8.2.2.2.2), (S36.mk y9.1 y9.2.1 y9.2.2.1 y9.2.2.2.1 y9.2.2.2.2), (S36.mk y10.1 y10.2.1 y10.2.2.1 y10.2.2.2.1 y10.2.2.2.2)]]) (.agg [.keep, .keep, .keep, .list 1 false, .list 5 false]) (by kernel_rfl) (PEnd.fin (by kernel_rfl))))
    rw [if_neg (of_decide_eq_false hb)] at h
    refine H.drawQ ?_
    refine HQ.go' 4 ?_
    obtain ⟨y11, hy, h⟩ := bindS h
    refine HQ.callW hS [.keep, .keep, .keep] (lawPart_ok (0, 10, x.2.2.2.1) y11 hy W0) (by kernel_rfl) (by kernel_rfl) ?_
    refine HQ.go' 4 ?_
    refine HQ.go' 1 ?_
    refine HQ.go' 2 ?_
    refine HQ.done (by kernel_rfl) (by kernel_rfl) (by kernel_rfl) ?_
    refine Kseq_norm ?_
    refine H.sr' 2 ?_
    refine H.wkc 8 36 5 19 [.int .u8 y8.1, .int .u32 y8.2.1, .bool y8.2.2.1, ls 1 false (encI .u8) y8.2.2.2.1, ls 5 false enc36 y8.2.2.2.2, .int .u8 y9.1, .int .u32 y9.2.1, .bool y9.2.2.1, ls 1 false (encI .u8) y9.2.2.2.1, ls 5 false enc36 y9.2.2.2.2, .int .u8 y11.1, .int .u32 y11.2.1, .bool y11.2.2.1, ls 1 false (encI .u8) y11.2.2.2.1, ls 5 false enc36 y11.2.2.2.2, .int .u8 0, .int .u32 4, .bool false, ls 1 false (encI .u8) x.2.2.2.2.2, .slice none 0 0] (.slice none 0 0) (ls 5 false enc36 []) (.list 5 false) (by kernel_rfl) ?_
    refine H.ret' ?_
    obtain rfl := Option.some.inj h
    exact KEnd.of (v := .agg #[.int .u8 2, .int .u32 (IntKind.u32.wrap x.1), .bool true, .slice none 0 0, .slice (some ⟨8, 0, none⟩) 4 1180591620717411303424]) (by kernel_rfl) (by kernel_rfl) (PEnd.frzE 8 4 1180591620717411303424 5 36 false ([(S36.mk y8.1 y8.2.1 y8.2.2.1 y8.2.2.2.1 y8.2.2.2.2), (S36.mk y9.1 y9.2.1 y9.2.2.1 y9.2.2.2.1 y9.2.2.2.2), (S36.mk y11.1 y11.2.1 y11.2.2.1 y11.2.2.2.1 y11.2.2.2.2), (S36.mk 0 4 false x.2.2.2.2.2 [])].map enc36).toArray #[.agg #[.int .u8 y8.1, .int .u32 y8.2.1, .bool y8.2.2.1, ls 1 false (encI .u8) y8.2.2.2.1, ls 5 false enc36 y8.2.2.2.2], .agg #[.int .u8 y9.1, .int .u32 y9.2.1, .bool y9.2.2.1, ls 1 false (encI .u8) y9.2.2.2.1, ls 5 false enc36 y9.2.2.2.2], .agg #[.int .u8 y11.1, .int .u32 y11.2.1, .bool y11.2.2.1, ls 1 false (encI .u8) y11.2.2.2.1, ls 5 false enc36 y11.2.2.2.2], .agg #[.int .u8 0, .int .u32 4, .bool false, ls 1 false (encI .u8) x.2.2.2.2.2, ls 5 false enc36 []]] [.int .u8 y8.1, .int .u32 y8.2.1, .bool y8.2.2.1, ls 1 false (encI .u8) y8.2.2.2.1, ls 5 false enc36 y8.2.2.2.2, .int .u8 y9.1, .int .u32 y9.2.1, .bool y9.2.2.1, ls 1 false (encI .u8) y9.2.2.2.1, ls 5 false enc36 y9.2.2.2.2, .int .u8 y11.1, .int .u32 y11.2.1, .bool y11.2.2.1, ls 1 false (encI .u8) y11.2.2.2.1, ls 5 false enc36 y11.2.2.2.2, .int .u8 0, .int .u32 4, .bool false, ls 1 false (encI .u8) x.2.2.2.2.2, ls 5 false enc36 []] (by simp only [List.map_cons, List.map_nil, enc36_eq]) (by kernel_rfl) (PEnd.wk (v1 := .agg #[.int .u8 2, .int .u32 (IntKind.u32.wrap x.1), .bool true, ls 1 false (encI .u8) [], ls 5 false enc36 [(S36.mk y8.1 y8.2.1 y8.2.2.1 y8.2.2.2.1 y8.2.2.2.2), (S36.mk y9.1 y9.2.1 y9.2.2.1 y9.2.2.2.1 y9.2.2.2.2), (S36.mk y11.1 y11.2.1 y11.2.2.1 y11.2.2.2.1 y11.2.2.2.2), (S36.mk 0 4 false x.2.2.2.2.2 [])]]) (.agg [.keep, .keep, .keep, .list 1 false, .list 5 false]) (by kernel_rfl) (PEnd.fin (by kernel_rfl))))
  rw [if_pos (of_decide_eq_true hb)] at h
  refine H.reg' ?_
  refine HO.go' 4 ?_
  refine HO.go' 1 ?_
  refine HO.fin' 2 ?_
  refine H.seq' ?_
  refine H.sg' ?_
  refine HO.go' 3 ?_
  refine HO.bo' (decide (x.1 = 1)) (fun hb => ?_) (fun hb => ?_)
  rotate_left
  · rw [if_neg (of_decide_eq_false hb)] at h
    refine HO.fin' 4 ?_
    refine H.cF' ?_
    refine H.skp' ?_
    refine Kseq_norm ?_
    refine H.seq' ?_
    refine H.sr' 3 ?_
    refine H.cS' (decide (x.1 = 5)) (fun hb => ?_) (fun hb => ?_)
    · rw [if_pos (of_decide_eq_true hb)] at h
      refine H.drawQ ?_
      refine HQ.go' 5 ?_
      obtain ⟨y6, hy, h⟩ := bindS h
      refine HQ.callW hS [.keep, .keep, .keep] (lawPart_ok (2, 1, (IntKind.i64.wrap x.2.2.2.2.1)) y6 hy W0) (by kernel_rfl) (by kernel_rfl) ?_
      refine HQ.go' 1 ?_
      refine HQ.go' 1 ?_
      refine HQ.go' 2 ?_
      refine HQ.done (by kernel_rfl) (by kernel_rfl) (by kernel_rfl) ?_
      refine Kseq_norm ?_
      refine H.sr' 2 ?_
      refine H.wkc 6 36 5 3 [.int .u8 0, .int .u32 5, .bool false, .slice none 0 0, .slice none 0 0, .int .u8 y6.1, .int .u32 y6.2.1, .bool y6.2.2.1, ls 1 false (encI .u8) y6.2.2.2.1, ls 5 false enc36 y6.2.2.2.2] (.slice none 0 0) (ls 1 false (encI .u8) []) (.list 1 false) (by kernel_rfl) ?_
      refine H.wkc 6 36 5 4 [.int .u8 0, .int .u32 5, .bool false, ls 1 false (encI .u8) [], .slice none 0 0, .int .u8 y6.1, .int .u32 y6.2.1, .bool y6.2.2.1, ls 1 false (encI .u8) y6.2.2.2.1, ls 5 false enc36 y6.2.2.2.2] (.slice none 0 0) (ls 5 false enc36 []) (.list 5 false) (by kernel_rfl) ?_
      refine H.ret' ?_
      obtain rfl := Option.some.inj h
      exact KEnd.of (v := .agg #[.int .u8 2, .int .u32 (IntKind.u32.wrap x.1), .bool true, .slice none 0 0, .slice (some ⟨6, 0, none⟩) 2 1180591620717411303424]) (by kernel_rfl) (by kernel_rfl) (PEnd.frzE 6 2 1180591620717411303424 5 36 false ([(S36.mk 0 5 false [] []), (S36.mk y6.1 y6.2.1 y6.2.2.1 y6.2.2.2.1 y6.2.2.2.2)].map enc36).toArray #[.agg #[.int .u8 0, .int .u32 5, .bool false, ls 1 false (encI .u8) [], ls 5 false enc36 []], .agg #[.int .u8 y6.1, .int .u32 y6.2.1, .bool y6.2.2.1, ls 1 false (encI .u8) y6.2.2.2.1, ls 5 false enc36 y6.2.2.2.2]] [.int .u8 0, .int .u32 5, .bool false, ls 1 false (encI .u8) [], ls 5 false enc36 [], .int .u8 y6.1, .int .u32 y6.2.1, .bool y6.2.2.1, ls 1 false (encI .u8) y6.2.2.2.1, ls 5 false enc36 y6.2.2.2.2] (by simp only [List.map_cons, List.map_nil, enc36_eq]) (by kernel_rfl) (PEnd.wk (v1 := .agg #[.int .u8 2, .int .u32 (IntKind.u32.wrap x.1), .bool true, ls 1 false (encI .u8) [], ls 5 false enc36 [(S36.mk 0 5 false [] []), (S36.mk y6.1 y6.2.1 y6.2.2.1 y6.2.2.2.1 y6.2.2.2.2)]]) (.agg [.keep, .keep, .keep, .list 1 false, .list 5 false]) (by kernel_rfl) (PEnd.fin (by kernel_rfl))))
    rw [if_neg (of_decide_eq_false hb)] at h
    refine H.drawQ ?_
    refine HQ.go' 4 ?_
    obtain ⟨y7, hy, h⟩ := bindS h
    refine HQ.callW hS [.keep, .keep, .keep] (lawPart_ok (0, 10, x.2.2.2.1) y7 hy W0) (by kernel_rfl) (by kernel_rfl) ?_
    refine HQ.go' 4 ?_
    refine HQ.go' 1 ?_
    refine HQ.go' 2 ?_
    refine HQ.done (by kernel_rfl) (by kernel_rfl) (by kernel_rfl) ?_
    refine Kseq_norm ?_
    refine H.sr' 2 ?_
    refine H.wkc 6 36 5 3 [.int .u8 0, .int .u32 5, .bool false, .slice none 0 0, .slice none 0 0, .int .u8 y7.1, .int .u32 y7.2.1, .bool y7.2.2.1, ls 1 false (encI .u8) y7.2.2.2.1, ls 5 false enc36 y7.2.2.2.2, .int .u8 0, .int .u32 4, .bool false, ls 1 false (encI .u8) x.2.2.2.2.2, .slice none 0 0] (.slice none 0 0) (ls 1 false (encI .u8) []) (.list 1 false) (by kernel_rfl) ?_
    refine H.wkc 6 36 5 4 [.int .u8 0, .int .u32 5, .bool false, ls 1 false (encI .u8) [], .slice none 0 0, .int .u8 y7.1, .int .u32 y7.2.1, .bool y7.2.2.1, ls 1 false (encI .u8) y7.2.2.2.1, ls 5 false enc36 y7.2.2.2.2, .int .u8 0, .int .u32 4, .bool false, ls 1 false (encI .u8) x.2.2.2.2.2, .slice none 0 0] (.slice none 0 0) (ls 5 false enc36 []) (.list 5 false) (by kernel_rfl) ?_
    refine H.wkc 6 36 5 14 [.int .u8 0, .int .u32 5, .bool false, ls 1 false (encI .u8) [], ls 5 false enc36 [], .int .u8 y7.1, .int .u32 y7.2.1, .bool y7.2.2.1, ls 1 false (encI .u8) y7.2.2.2.1, ls 5 false enc36 y7.2.2.2.2, .int .u8 0, .int .u32 4, .bool false, ls 1 false (encI .u8) x.2.2.2.2.2, .slice none 0 0] (.slice none 0 0) (ls 5 false enc36 []) (.list 5 false) (by kernel_rfl) ?_
    refine H.ret' ?_
    obtain rfl := Option.some.inj h
    exact KEnd.of (v := .agg #[.int .u8 2, .int .u32 (IntKind.u32.wrap x.1), .bool true, .slice none 0 0, .slice (some ⟨6, 0, none⟩) 3 1180591620717411303424]) (by kernel_rfl) (by kernel_rfl) (PEnd.frzE 6 3 1180591620717411303424 5 36 false ([(S36.mk 0 5 false [] []), (S36.mk y7.1 y7.2.1 y7.2.2.1 y7.2.2.2.1 y7.2.2.2.2), (S36.mk 0 4 false x.2.2.2.2.2 [])].map enc36).toArray #[.agg #[.int .u8 0, .int .u32 5, .bool false, ls 1 false (encI .u8) [], ls 5 false enc36 []], .agg #[.int .u8 y7.1, .int .u32 y7.2.1, .bool y7.2.2.1, ls 1 false (encI .u8) y7.2.2.2.1, ls 5 false enc36 y7.2.2.2.2], .agg #[.int .u8 0, .int .u32 4, .bool false, ls 1 false (encI .u8) x.2.2.2.2.2, ls 5 false enc36 []]] [.int .u8 0, .int .u32 5, .bool false, ls 1 false (encI .u8) [], ls 5 false enc36 [], .int .u8 y7.1, .int .u32 y7.2.1, .bool y7.2.2.1, ls 1 false (encI .u8) y7.2.2.2.1, ls 5 false enc36 y7.2.2.2.2, .int .u8 0, .int .u32 4, .bool false, ls 1 false (encI .u8) x.2.2.2.2.2, ls 5 false enc36 []] (by simp only [List.map_cons, List.map_nil, enc36_eq]) (by kernel_rfl) (PEnd.wk (v1 := .agg #[.int .u8 2, .int .u32 (IntKind.u32.wrap x.1), .bool true, ls 1 false (encI .u8) [], ls 5 false enc36 [(S36.mk 0 5 false [] []), (S36.mk y7.1 y7.2.1 y7.2.2.1 y7.2.2.2.1 y7.2.2.2.2), (S36.mk 0 4 false x.2.2.2.2.2 [])]]) (.agg [.keep, .keep, .keep, .list 1 false, .list 5 false]) (by kernel_rfl) (PEnd.fin (by kernel_rfl))))
  rw [if_pos (of_decide_eq_true hb)] at h
  refine HO.fin' 4 ?_
  refine H.cS' (decide (0 ≤ x.2.2.1)) (fun hb => ?_) (fun hb => ?_)
  rotate_left
  · rw [if_neg (of_decide_eq_false hb)] at h
    refine H.skp' ?_
    refine Kseq_norm ?_
    refine H.seq' ?_
    refine H.sr' 3 ?_
    refine H.cS' (decide (x.1 = 5)) (fun hb => ?_) (fun hb => ?_)
    · rw [if_pos (of_decide_eq_true hb)] at h
      refine H.drawQ ?_
      refine HQ.go' 5 ?_
      obtain ⟨y4, hy, h⟩ := bindS h
      refine HQ.callW hS [.keep, .keep, .keep] (lawPart_ok (2, 1, (IntKind.i64.wrap x.2.2.2.2.1)) y4 hy W0) (by kernel_rfl) (by kernel_rfl) ?_
      refine HQ.go' 1 ?_
      refine HQ.go' 1 ?_
      refine HQ.go' 2 ?_
      refine HQ.done (by kernel_rfl) (by kernel_rfl) (by kernel_rfl) ?_
      refine Kseq_norm ?_
      refine H.sr' 2 ?_
      refine H.wkc 6 36 5 3 [.int .u8 0, .int .u32 5, .bool false, .slice none 0 0, .slice none 0 0, .int .u8 y4.1, .int .u32 y4.2.1, .bool y4.2.2.1, ls 1 false (encI .u8) y4.2.2.2.1, ls 5 false enc36 y4.2.2.2.2] (.slice none 0 0) (ls 1 false (encI .u8) []) (.list 1 false) (by kernel_rfl) ?_
      refine H.wkc 6 36 5 4 [.int .u8 0, .int .u32 5, .bool false, ls 1 false (encI .u8) [], .slice none 0 0, .int .u8 y4.1, .int .u32 y4.2.1, .bool y4.2.2.1, ls 1 false (encI .u8) y4.2.2.2.1, ls 5 false enc36 y4.2.2.2.2] (.slice none 0 0) (ls 5 false enc36 []) (.list 5 false) (by kernel_rfl) ?_
      refine H.ret' ?_
      obtain rfl := Option.some.inj h
      exact KEnd.of (v := .agg #[.int .u8 2, .int .u32 (IntKind.u32.wrap x.1), .bool true, .slice none 0 0, .slice (some ⟨6, 0, none⟩) 2 1180591620717411303424]) (by kernel_rfl) (by kernel_rfl) (PEnd.frzE 6 2 1180591620717411303424 5 36 false ([(S36.mk 0 5 false [] []), (S36.mk y4.1 y4.2.1 y4.2.2.1 y4.2.2.2.1 y4.2.2.2.2)].map enc36).toArray #[.agg #[.int .u8 0, .int .u32 5, .bool false, ls 1 false (encI .u8) [], ls 5 false enc36 []], .agg #[.int .u8 y4.1, .int .u32 y4.2.1, .bool y4.2.2.1, ls 1 false (encI .u8) y4.2.2.2.1, ls 5 false enc36 y4.2.2.2.2]] [.int .u8 0, .int .u32 5, .bool false, ls 1 false (encI .u8) [], ls 5 false enc36 [], .int .u8 y4.1, .int .u32 y4.2.1, .bool y4.2.2.1, ls 1 false (encI .u8) y4.2.2.2.1, ls 5 false enc36 y4.2.2.2.2] (by simp only [List.map_cons, List.map_nil, enc36_eq]) (by kernel_rfl) (PEnd.wk (v1 := .agg #[.int .u8 2, .int .u32 (IntKind.u32.wrap x.1), .bool true, ls 1 false (encI .u8) [], ls 5 false enc36 [(S36.mk 0 5 false [] []), (S36.mk y4.1 y4.2.1 y4.2.2.1 y4.2.2.2.1 y4.2.2.2.2)]]) (.agg [.keep, .keep, .keep, .list 1 false, .list 5 false]) (by kernel_rfl) (PEnd.fin (by kernel_rfl))))
    rw [if_neg (of_decide_eq_false hb)] at h
    refine H.drawQ ?_
    refine HQ.go' 4 ?_
    obtain ⟨y5, hy, h⟩ := bindS h
    refine HQ.callW hS [.keep, .keep, .keep] (lawPart_ok (0, 10, x.2.2.2.1) y5 hy W0) (by kernel_rfl) (by kernel_rfl) ?_
    refine HQ.go' 4 ?_
    refine HQ.go' 1 ?_
    refine HQ.go' 2 ?_
    refine HQ.done (by kernel_rfl) (by kernel_rfl) (by kernel_rfl) ?_
    refine Kseq_norm ?_
    refine H.sr' 2 ?_
    refine H.wkc 6 36 5 3 [.int .u8 0, .int .u32 5, .bool false, .slice none 0 0, .slice none 0 0, .int .u8 y5.1, .int .u32 y5.2.1, .bool y5.2.2.1, ls 1 false (encI .u8) y5.2.2.2.1, ls 5 false enc36 y5.2.2.2.2, .int .u8 0, .int .u32 4, .bool false, ls 1 false (encI .u8) x.2.2.2.2.2, .slice none 0 0] (.slice none 0 0) (ls 1 false (encI .u8) []) (.list 1 false) (by kernel_rfl) ?_
    refine H.wkc 6 36 5 4 [.int .u8 0, .int .u32 5, .bool false, ls 1 false (encI .u8) [], .slice none 0 0, .int .u8 y5.1, .int .u32 y5.2.1, .bool y5.2.2.1, ls 1 false (encI .u8) y5.2.2.2.1, ls 5 false enc36 y5.2.2.2.2, .int .u8 0, .int .u32 4, .bool false, ls 1 false (encI .u8) x.2.2.2.2.2, .slice none 0 0] (.slice none 0 0) (ls 5 false enc36 []) (.list 5 false) (by kernel_rfl) ?_
    refine H.wkc 6 36 5 14 [.int .u8 0, .int .u32 5, .bool false, ls 1 false (encI .u8) [], ls 5 false enc36 [], .int .u8 y5.1, .int .u32 y5.2.1, .bool y5.2.2.1, ls 1 false (encI .u8) y5.2.2.2.1, ls 5 false enc36 y5.2.2.2.2, .int .u8 0, .int .u32 4, .bool false, ls 1 false (encI .u8) x.2.2.2.2.2, .slice none 0 0] (.slice none 0 0) (ls 5 false enc36 []) (.list 5 false) (by kernel_rfl) ?_
    refine H.ret' ?_
    obtain rfl := Option.some.inj h
    exact KEnd.of (v := .agg #[.int .u8 2, .int .u32 (IntKind.u32.wrap x.1), .bool true, .slice none 0 0, .slice (some ⟨6, 0, none⟩) 3 1180591620717411303424]) (by kernel_rfl) (by kernel_rfl) (PEnd.frzE 6 3 1180591620717411303424 5 36 false ([(S36.mk 0 5 false [] []), (S36.mk y5.1 y5.2.1 y5.2.2.1 y5.2.2.2.1 y5.2.2.2.2), (S36.mk 0 4 false x.2.2.2.2.2 [])].map enc36).toArray #[.agg #[.int .u8 0, .int .u32 5, .bool false, ls 1 false (encI .u8) [], ls 5 false enc36 []], .agg #[.int .u8 y5.1, .int .u32 y5.2.1, .bool y5.2.2.1, ls 1 false (encI .u8) y5.2.2.2.1, ls 5 false enc36 y5.2.2.2.2], .agg #[.int .u8 0, .int .u32 4, .bool false, ls 1 false (encI .u8) x.2.2.2.2.2, ls 5 false enc36 []]] [.int .u8 0, .int .u32 5, .bool false, ls 1 false (encI .u8) [], ls 5 false enc36 [], .int .u8 y5.1, .int .u32 y5.2.1, .bool y5.2.2.1, ls 1 false (encI .u8) y5.2.2.2.1, ls 5 false enc36 y5.2.2.2.2, .int .u8 0, .int .u32 4, .bool false, ls 1 false (encI .u8) x.2.2.2.2.2, ls 5 false enc36 []] (by simp only [List.map_cons, List.map_nil, enc36_eq]) (by kernel_rfl) (PEnd.wk (v1 := .agg #[.int .u8 2, .int .u32 (IntKind.u32.wrap x.1), .bool true, ls 1 false (encI .u8) [], ls 5 false enc36 [(S36.mk 0 5 false [] []), (S36.mk y5.1 y5.2.1 y5.2.2.1 y5.2.2.2.1 y5.2.2.2.2), (S36.mk 0 4 false x.2.2.2.2.2 [])]]) (.agg [.keep, .keep, .keep, .list 1 false, .list 5 false]) (by kernel_rfl) (PEnd.fin (by kernel_rfl))))
  rw [if_pos (of_decide_eq_true hb)] at h
  refine H.drawQ ?_
  refine HQ.go' 4 ?_
  obtain ⟨y1, hy, h⟩ := bindS h
  refine HQ.callW hS [.keep, .keep, .keep] (lawPart_ok (2, 0, x.2.2.1) y1 hy W0) (by kernel_rfl) (by kernel_rfl) ?_
  refine HQ.go' 1 ?_
  refine HQ.go' 1 ?_
  refine HQ.go' 2 ?_
  refine HQ.done (by kernel_rfl) (by kernel_rfl) (by kernel_rfl) ?_
  refine Kseq_norm ?_
  refine H.seq' ?_
  refine H.sr' 3 ?_
  refine H.cS' (decide (x.1 = 5)) (fun hb => ?_) (fun hb => ?_)
  · rw [if_pos (of_decide_eq_true hb)] at h
    refine H.drawQ ?_
    refine HQ.go' 5 ?_
    obtain ⟨y2, hy, h⟩ := bindS h
    refine HQ.callW hS [.keep, .keep, .keep] (lawPart_ok (2, 1, (IntKind.i64.wrap x.2.2.2.2.1)) y2 hy W0) (by kernel_rfl) (by kernel_rfl) ?_
    refine HQ.go' 1 ?_
    refine HQ.go' 1 ?_
    refine HQ.go' 2 ?_
    refine HQ.done (by kernel_rfl) (by kernel_rfl) (by kernel_rfl) ?_
    refine Kseq_norm ?_
    refine H.sr' 2 ?_
    refine H.wkc 8 36 5 3 [.int .u8 0, .int .u32 5, .bool false, .slice none 0 0, .slice none 0 0, .int .u8 y1.1, .int .u32 y1.2.1, .bool y1.2.2.1, ls 1 false (encI .u8) y1.2.2.2.1, ls 5 false enc36 y1.2.2.2.2, .int .u8 y2.1, .int .u32 y2.2.1, .bool y2.2.2.1, ls 1 false (encI .u8) y2.2.2.2.1, ls 5 false enc36 y2.2.2.2.2] (.slice none 0 0) (ls 1 false (encI .u8) []) (.list 1 false) (by kernel_rfl) ?_
    refine H.wkc 8 36 5 4 [.int .u8 0, .int .u32 5, .bool false, ls 1 false (encI .u8) [], .slice none 0 0, .int .u8 y1.1, .int .u32 y1.2.1, .bool y1.2.2.1, ls 1 false (encI .u8) y1.2.2.2.1, ls 5 false enc36 y1.2.2.2.2, .int .u8 y2.1, .int .u32 y2.2.1, .bool y2.2.2.1, ls 1 false (encI .u8) y2.2.2.2.1, ls 5 false enc36 y2.2.2.2.2] (.slice none 0 0) (ls 5 false enc36 []) (.list 5 false) (by kernel_rfl) ?_
    refine H.ret' ?_
    obtain rfl := Option.some.inj h
    exact KEnd.of (v := .agg #[.int .u8 2, .int .u32 (IntKind.u32.wrap x.1), .bool true, .slice none 0 0, .slice (some ⟨8, 0, none⟩) 3 1180591620717411303424]) (by kernel_rfl) (by kernel_rfl) (PEnd.frzE 8 3 1180591620717411303424 5 36 false ([(S36.mk 0 5 false [] []), (S36.mk y1.1 y1.2.1 y1.2.2.1 y1.2.2.2.1 y1.2.2.2.2), (S36.mk y2.1 y2.2.1 y2.2.2.1 y2.2.2.2.1 y2.2.2.2.2)].map enc36).toArray #[.agg #[.int .u8 0, .int .u32 5, .bool false, ls 1 false (encI .u8) [], ls 5 false enc36 []], .agg #[.int .u8 y1.1, .int .u32 y1.2.1, .bool y1.2.2.1, ls 1 false (encI .u8) y1.2.2.2.1, ls 5 false enc36 y1.2.2.2.2], .agg #[.int .u8 y2.1, .int .u32 y2.2.1, .bool y2.2.2.1, ls 1 false (encI .u8) y2.2.2.2.1, ls 5 false enc36 y2.2.2.2.2]] [.int .u8 0, .int .u32 5, .bool false, ls 1 false (encI .u8) [], ls 5 false enc36 [], .int .u8 y1.1, .int .u32 y1.2.1, .bool y1.2.2.1, ls 1 false (encI .u8) y1.2.2.2.1, ls 5 false enc36 y1.2.2.2.2, .int .u8 y2.1, .int .u32 y2.2.1, .bool y2.2.2.1, ls 1 false (encI .u8) y2.2.2.2.1, ls 5 false enc36 y2.2.2.2.2] (by simp only [List.map_cons, List.map_nil, enc36_eq]) (by kernel_rfl) (PEnd.wk (v1 := .agg #[.int .u8 2, .int .u32 (IntKind.u32.wrap x.1), .bool true, ls 1 false (encI .u8) [], ls 5 false enc36 [(S36.mk 0 5 false [] []), (S36.mk y1.1 y1.2.1 y1.2.2.1 y1.2.2.2.1 y1.2.2.2.2), (S36.mk y2.1 y2.2.1 y2.2.2.1 y2.2.2.2.1 y2.2.2.2.2)]]) (.agg [.keep, .keep, .keep, .list 1 false, .list 5 false]) (by kernel_rfl) (PEnd.fin (by kernel_rfl))))
  rw [if_neg (of_decide_eq_false hb)] at h
  refine H.drawQ ?_
  refine HQ.go' 4 ?_
  obtain ⟨y3, hy, h⟩ := bindS h
  refine HQ.callW hS [.keep, .keep, .keep] (lawPart_ok (0, 10, x.2.2.2.1) y3 hy W0) (by kernel_rfl) (by kernel_rfl) ?_
  refine HQ.go' 4 ?_
  refine HQ.go' 1 ?_
  refine HQ.go' 2 ?_
  refine HQ.done (by kernel_rfl) (by kernel_rfl) (by kernel_rfl) ?_
  refine Kseq_norm ?_
  refine H.sr' 2 ?_
  refine H.wkc 8 36 5 3 [.int .u8 0, .int .u32 5, .bool false, .slice none 0 0, .slice none 0 0, .int .u8 y1.1, .int .u32 y1.2.1, .bool y1.2.2.1, ls 1 false (encI .u8) y1.2.2.2.1, ls 5 false enc36 y1.2.2.2.2, .int .u8 y3.1, .int .u32 y3.2.1, .bool y3.2.2.1, ls 1 false (encI .u8) y3.2.2.2.1, ls 5 false enc36 y3.2.2.2.2, .int .u8 0, .int .u32 4, .bool false, ls 1 false (encI .u8) x.2.2.2.2.2, .slice none 0 0] (.slice none 0 0) (ls 1 false (encI .u8) []) (.list 1 false) (by kernel_rfl) ?_
  refine H.wkc 8 36 5 4 [.int .u8 0, .int .u32 5, .bool false, ls 1 false (encI .u8) [], .slice none 0 0, .int .u8 y1.1, .int .u32 y1.2.1, .bool y1.2.2.1, ls 1 false (encI .u8) y1.2.2.2.1, ls 5 false enc36 y1.2.2.2.2, .int .u8 y3.1, .int .u32 y3.2.1, .bool y3.2.2.1, ls 1 false (encI .u8) y3.2.2.2.1, ls 5 false enc36 y3.2.2.2.2, .int .u8 0, .int .u32 4, .bool false, ls 1 false (encI .u8) x.2.2.2.2.2, .slice none 0 0] (.slice none 0 0) (ls 5 false enc36 []) (.list 5 false) (by kernel_rfl) ?_
  refine H.wkc 8 36 5 19 [.int .u8 0, .int .u32 5, .bool false, ls 1 false (encI .u8) [], ls 5 false enc36 [], .int .u8 y1.1, .int .u32 y1.2.1, .bool y1.2.2.1, ls 1 false (encI .u8) y1.2.2.2.1, ls 5 false enc36 y1.2.2.2.2, .int .u8 y3.1, .int .u32 y3.2.1, .bool y3.2.2.1, ls 1 false (encI .u8) y3.2.2.2.1, ls 5 false enc36 y3.2.2.2.2, .int .u8 0, .int .u32 4, .bool false, ls 1 false (encI .u8) x.2.2.2.2.2, .slice none 0 0] (.slice none 0 0) (ls 5 false enc36 []) (.list 5 false) (by kernel_rfl) ?_
  refine H.ret' ?_
  obtain rfl := Option.some.inj h
  exact KEnd.of (v := .agg #[.int .u8 2, .int .u32 (IntKind.u32.wrap x.1), .bool true, .slice none 0 0, .slice (some ⟨8, 0, none⟩) 4 1180591620717411303424]) (by kernel_rfl) (by kernel_rfl) (PEnd.frzE 8 4 1180591620717411303424 5 36 false ([(S36.mk 0 5 false [] []), (S36.mk y1.1 y1.2.1 y1.2.2.1 y1.2.2.2.1 y1.2.2.2.2), (S36.mk y3.1 y3.2.1 y3.2.2.1 y3.2.2.2.1 y3.2.2.2.2), (S36.mk 0 4 false x.2.2.2.2.2 [])].map enc36).toArray #[.agg #[.int .u8 0, .int .u32 5, .bool false, ls 1 false (encI .u8) [], ls 5 false enc36 []], .agg #[.int .u8 y1.1, .int .u32 y1.2.1, .bool y1.2.2.1, ls 1 false (encI .u8) y1.2.2.2.1, ls 5 false enc36 y1.2.2.2.2], .agg #[.int .u8 y3.1, .int .u32 y3.2.1, .bool y3.2.2.1, ls 1 false (encI .u8) y3.2.2.2.1, ls 5 false enc36 y3.2.2.2.2], .agg #[.int .u8 0, .int .u32 4, .bool false, ls 1 false (encI .u8) x.2.2.2.2.2, ls 5 false enc36 []]] [.int .u8 0, .int .u32 5, .bool false, ls 1 false (encI .u8) [], ls 5 false enc36 [], .int .u8 y1.1, .int .u32 y1.2.1, .bool y1.2.2.1, ls 1 false (encI .u8) y1.2.2.2.1, ls 5 false enc36 y1.2.2.2.2, .int .u8 y3.1, .int .u32 y3.2.1, .bool y3.2.2.1, ls 1 false (encI .u8) y3.2.2.2.1, ls 5 false enc36 y3.2.2.2.2, .int .u8 0, .int .u32 4, .bool false, ls 1 false (encI .u8) x.2.2.2.2.2, ls 5 false enc36 []] (by simp only [List.map_cons, List.map_nil, enc36_eq]) (by kernel_rfl) (PEnd.wk (v1 := .agg #[.int .u8 2, .int .u32 (IntKind.u32.wrap x.1), .bool true, ls 1 false (encI .u8) [], ls 5 false enc36 [(S36.mk 0 5 false [] []), (S36.mk y1.1 y1.2.1 y1.2.2.1 y1.2.2.2.1 y1.2.2.2.2), (S36.mk y3.1 y3.2.1 y3.2.2.1 y3.2.2.2.1 y3.2.2.2.2), (S36.mk 0 4 false x.2.2.2.2.2 [])]]) (.agg [.keep, .keep, .keep, .list 1 false, .list 5 false]) (by kernel_rfl) (PEnd.fin (by kernel_rfl))))
def isC_L3 (x : Bool) : Option (Bool) :=
  some x
theorem isC_L3_ok : ∀ (x : Bool) (r : Bool), isC_L3 x = some r → ∀ (W0 w0 : World) (S : Own), Std W0 w0 S 0 → H Tryd.prog w0 S 101 (cR (cR (cL (cR (cL (cR (cR (cR (cR (cB Tryd.f38)))))))))) (mkS [(2, .bool x)] [] 0 []) (Kseq Tryd.prog w0 S 101 (cR (cR (cR (cR (cR (cB Tryd.f38)))))) (KEnd Tryd.prog Tryd.f38 (PEnd w0 S (.returned (.bool r))))) := by
  intro x r h
  unfold isC_L3 at h
  intro W0 w0 S hS
  haveI := hS.noEx Tryd.prog
  refine H.ret' ?_
  refine Kseq_ret ?_
  obtain rfl := Option.some.inj h
  exact KEnd.r'
def isC_L5 (x : Bool) : Option (Bool) :=
  some x
theorem isC_L5_ok : ∀ (x : Bool) (r : Bool), isC_L5 x = some r → ∀ (W0 w0 : World) (S : Own), Std W0 w0 S 0 → H Tryd.prog w0 S 101 (cR (cR (cR (cR (cR (cR (cR (cR (cR (cR (cR (cB Tryd.f38)))))))))))) (mkS [(2, .bool x)] [] 0 []) (KEnd Tryd.prog Tryd.f38 (PEnd w0 S (.returned (.bool r)))) := by
  intro x r h
  unfold isC_L5 at h
  intro W0 w0 S hS
  haveI := hS.noEx Tryd.prog
  refine H.ret' ?_
  obtain rfl := Option.some.inj h
  exact KEnd.r'
def isC_L4 (x : Int × Int × Int × Bool × (List Int) × (List S36) × Int × Int × Int) : Option (Bool) :=
  if (x.2.2.2.2.2.1.length : Int) ≤ (IntKind.i64.wrap (x.1 + 1)) then
    some false
  else
    (at' x.2.2.2.2.2.1 x.1) >>= fun y12 =>
    (lawNumber (y12.c0, y12.c1, y12.c2, y12.c3, y12.c4)) >>= fun y13 =>
    (at' x.2.2.2.2.2.1 (IntKind.i64.wrap (x.1 + 1))) >>= fun y14 =>
    (cpCheck (x.2.2.2.2.2.2.1, x.2.2.2.2.2.2.2.1, x.2.2.2.2.2.2.2.2, y13, 0, y14.c3)) >>= fun y15 =>
    if y15 = 0 then
      (lawTree (x.2.2.2.2.2.2.1, x.2.2.2.2.2.2.2.1, x.2.2.2.2.2.2.2.2, y13, 0, y14.c3)) >>= fun y16 =>
      (sameT (y16.1, y16.2.1, y16.2.2.1, y16.2.2.2.1, y16.2.2.2.2, x.2.1, x.2.2.1, x.2.2.2.1, x.2.2.2.2.1, x.2.2.2.2.2.1)) >>= fun y17 =>
      isC_L5 y17
    else
      isC_L5 false
theorem isC_L4_ok : ∀ (x : Int × Int × Int × Bool × (List Int) × (List S36) × Int × Int × Int) (r : Bool), isC_L4 x = some r → ∀ (W0 w0 : World) (S : Own), Std W0 w0 S 0 → H Tryd.prog w0 S 101 (cR (cR (cR (cR (cR (cR (cR (cB Tryd.f38)))))))) (mkS [(1, .pointer (some ⟨0, 0, none⟩)), (3, .pointer (some ⟨1, 0, none⟩)), (4, .int .i64 x.1)] [(0, .cells [.int .u8 x.2.1, .int .u32 x.2.2.1, .bool x.2.2.2.1, ls 1 false (encI .u8) x.2.2.2.2.1, ls 5 false enc36 x.2.2.2.2.2.1] 36 5), (1, .cells [.int .u8 x.2.2.2.2.2.2.1, .int .i64 x.2.2.2.2.2.2.2.1, .int .i64 x.2.2.2.2.2.2.2.2, .int .i64 0, .int .u8 0, .slice none 0 0] 70 6)] 2 []) (KEnd Tryd.prog Tryd.f38 (PEnd w0 S (.returned (.bool r)))) := by
  intro x r h
  unfold isC_L4 at h
  intro W0 w0 S hS
  haveI := hS.noEx Tryd.prog
  refine H.seq' ?_
  refine H.sg' ?_
  refine HO.go' 4 ?_
  refine HO.len (by kernel_rfl) (by kernel_rfl) (ls_size enc36 x.2.2.2.2.2.1) ?_
  refine HO.fin' 1 ?_
  refine H.cS' (decide ((x.2.2.2.2.2.1.length : Int) ≤ (IntKind.i64.wrap (x.1 + 1)))) (fun hb => ?_) (fun hb => ?_)
  · rw [if_pos (of_decide_eq_true hb)] at h
    refine H.sr' 1 ?_
    refine H.ret' ?_
    refine Kseq_ret ?_
    obtain rfl := Option.some.inj h
    exact KEnd.r'
  rw [if_neg (of_decide_eq_false hb)] at h
  refine H.skp' ?_
  refine Kseq_norm ?_
  refine H.sg' ?_
  refine HO.go' 3 ?_
  obtain ⟨y12, hy, h⟩ := bindS h
  refine HO.idx (.agg #[.int .u8 y12.c0, .int .u32 y12.c1, .bool y12.c2, ls 1 false (encI .u8) y12.c3, ls 5 false enc36 y12.c4]) hy (enc36_eq y12) (by kernel_rfl) ?_
  refine HO.go' 1 ?_
  obtain ⟨y13, hy, h⟩ := bindS h
  refine HO.callW hS [.agg [.keep, .keep, .keep, .list 1 false, .list 5 false]] (lawNumber_ok (y12.c0, y12.c1, y12.c2, y12.c3, y12.c4) y13 hy W0) (by kernel_rfl) (by kernel_rfl) ?_
  refine HO.fin' 2 ?_
  refine H.sg' ?_
  refine HO.go' 4 ?_
  obtain ⟨y14, hy, h⟩ := bindS h
  refine HO.idx (.agg #[.int .u8 y14.c0, .int .u32 y14.c1, .bool y14.c2, ls 1 false (encI .u8) y14.c3, ls 5 false enc36 y14.c4]) hy (enc36_eq y14) (by kernel_rfl) ?_
  refine HO.fin' 4 ?_
  refine H.seq' ?_
  refine H.drawQ ?_
  refine HQ.go' 1 ?_
  obtain ⟨y15, hy, h⟩ := bindS h
  refine HQ.callW hS [.agg [.keep, .keep, .keep, .keep, .keep, .list 1 false]] (cpCheck_ok (x.2.2.2.2.2.2.1, x.2.2.2.2.2.2.2.1, x.2.2.2.2.2.2.2.2, y13, 0, y14.c3) y15 hy W0) (by kernel_rfl) (by kernel_rfl) ?_
  refine HQ.go' 1 ?_
  refine HQ.boolP (decide (y15 = 0)) (by kernel_rfl) (by kernel_rfl) (fun hb => ?_) (fun hb => ?_)
  rotate_left
  · rw [if_neg (of_decide_eq_false hb)] at h
    refine HQ.go' 6 ?_
    refine HQ.calm (by kernel_rfl) (by kernel_rfl) (by kernel_rfl) (by kernel_rfl) ?_
    refine Kseq_norm ?_
    exact H.ren' hS [] (isC_L5_ok false r h W0 w0 S hS)
  rw [if_pos (of_decide_eq_true hb)] at h
  refine HQ.go' 1 ?_
  obtain ⟨y16, hy, h⟩ := bindS h
  refine HQ.callW hS [.agg [.keep, .keep, .keep, .keep, .keep, .list 1 false]] (lawTree_ok (x.2.2.2.2.2.2.1, x.2.2.2.2.2.2.2.1, x.2.2.2.2.2.2.2.2, y13, 0, y14.c3) y16 hy W0) (by kernel_rfl) (by kernel_rfl) ?_
  refine HQ.go' 1 ?_
  obtain ⟨y17, hy, h⟩ := bindS h
  refine HQ.callW hS [.agg [.keep, .keep, .keep, .list 1 false, .list 5 false], .agg [.keep, .keep, .keep, .list 1 false, .list 5 false]] (sameT_ok (y16.1, y16.2.1, y16.2.2.1, y16.2.2.2.1, y16.2.2.2.2, x.2.1, x.2.2.1, x.2.2.2.1, x.2.2.2.2.1, x.2.2.2.2.2.1) y17 hy W0) (by kernel_rfl) (by kernel_rfl) ?_
  refine HQ.go' 2 ?_
  refine HQ.calm (by kernel_rfl) (by kernel_rfl) (by kernel_rfl) (by kernel_rfl) ?_
  refine Kseq_norm ?_
  exact H.ren' hS [] (isC_L5_ok y17 r h W0 w0 S hS)
def isC_L2 (x : Int × Int × Bool × (List Int) × (List S36) × Int × Int) : Option (Bool) :=
  if x.2.2.2.2.2.1 = 5 then
    (at' x.2.2.2.2.1 1) >>= fun y5 =>
    (lawNumber (y5.c0, y5.c1, y5.c2, y5.c3, y5.c4)) >>= fun y6 =>
    (cpCheck (x.2.2.2.2.2.1, x.2.2.2.2.2.2, 0, 0, (IntKind.u8.wrap (minI (maxI y6 0) 9)), [])) >>= fun y7 =>
    if y7 = 0 then
      (lawTree (x.2.2.2.2.2.1, x.2.2.2.2.2.2, 0, 0, (IntKind.u8.wrap (minI (maxI y6 0) 9)), [])) >>= fun y8 =>
      (sameT (y8.1, y8.2.1, y8.2.2.1, y8.2.2.2.1, y8.2.2.2.2, x.1, x.2.1, x.2.2.1, x.2.2.2.1, x.2.2.2.2.1)) >>= fun y9 =>
      isC_L3 y9
    else
      isC_L3 false
  else
    if x.2.2.2.2.2.1 = 1 then
      if (x.2.2.2.2.1.length : Int) = 4 then
        (at' x.2.2.2.2.1 1) >>= fun y10 =>
        (lawNumber (y10.c0, y10.c1, y10.c2, y10.c3, y10.c4)) >>= fun y11 =>
        isC_L4 (2, x.1, x.2.1, x.2.2.1, x.2.2.2.1, x.2.2.2.2.1, x.2.2.2.2.2.1, x.2.2.2.2.2.2, y11)
      else
        isC_L4 (1, x.1, x.2.1, x.2.2.1, x.2.2.2.1, x.2.2.2.2.1, x.2.2.2.2.2.1, x.2.2.2.2.2.2, (-1))
    else
      isC_L4 (1, x.1, x.2.1, x.2.2.1, x.2.2.2.1, x.2.2.2.2.1, x.2.2.2.2.2.1, x.2.2.2.2.2.2, 0)
theorem isC_L2_ok : ∀ (x : Int × Int × Bool × (List Int) × (List S36) × Int × Int) (r : Bool), isC_L2 x = some r → ∀ (W0 w0 : World) (S : Own), Std W0 w0 S 0 → H Tryd.prog w0 S 101 (cR (cR (cR (cR (cB Tryd.f38))))) (mkS [(1, .pointer (some ⟨0, 0, none⟩)), (3, .pointer (some ⟨1, 0, none⟩))] [(0, .cells [.int .u8 x.1, .int .u32 x.2.1, .bool x.2.2.1, ls 1 false (encI .u8) x.2.2.2.1, ls 5 false enc36 x.2.2.2.2.1] 36 5), (1, .cells [.int .u8 x.2.2.2.2.2.1, .int .i64 x.2.2.2.2.2.2, .int .i64 0, .int .i64 0, .int .u8 0, .slice none 0 0] 70 6)] 2 []) (KEnd Tryd.prog Tryd.f38 (PEnd w0 S (.returned (.bool r)))) := by
  intro x r h
  unfold isC_L2 at h
  intro W0 w0 S hS
  haveI := hS.noEx Tryd.prog
  refine H.seq' ?_
  refine H.sr' 3 ?_
  refine H.cS' (decide (x.2.2.2.2.2.1 = 5)) (fun hb => ?_) (fun hb => ?_)
  · rw [if_pos (of_decide_eq_true hb)] at h
    refine H.sg' ?_
    refine HO.go' 2 ?_
    obtain ⟨y5, hy, h⟩ := bindS h
    refine HO.idx (.agg #[.int .u8 y5.c0, .int .u32 y5.c1, .bool y5.c2, ls 1 false (encI .u8) y5.c3, ls 5 false enc36 y5.c4]) hy (enc36_eq y5) (by kernel_rfl) ?_
    refine HO.go' 1 ?_
    obtain ⟨y6, hy, h⟩ := bindS h
    refine HO.callW hS [.agg [.keep, .keep, .keep, .list 1 false, .list 5 false]] (lawNumber_ok (y5.c0, y5.c1, y5.c2, y5.c3, y5.c4) y6 hy W0) (by kernel_rfl) (by kernel_rfl) ?_
    refine HO.fin' 5 ?_
    refine H.seq' ?_
    refine H.drawQ ?_
    refine HQ.go' 1 ?_
    obtain ⟨y7, hy, h⟩ := bindS h
    refine HQ.callW hS [.agg [.keep, .keep, .keep, .keep, .keep, .list 1 false]] (cpCheck_ok (x.2.2.2.2.2.1, x.2.2.2.2.2.2, 0, 0, (IntKind.u8.wrap (minI (maxI y6 0) 9)), []) y7 hy W0) (by kernel_rfl) (by kernel_rfl) ?_
    refine HQ.go' 1 ?_
    refine HQ.boolP (decide (y7 = 0)) (by kernel_rfl) (by kernel_rfl) (fun hb => ?_) (fun hb => ?_)
    rotate_left
    · rw [if_neg (of_decide_eq_false hb)] at h
      refine HQ.go' 6 ?_
      refine HQ.calm (by kernel_rfl) (by kernel_rfl) (by kernel_rfl) (by kernel_rfl) ?_
      refine Kseq_norm ?_
      exact H.ren' hS [] (isC_L3_ok false r h W0 w0 S hS)
    rw [if_pos (of_decide_eq_true hb)] at h
    refine HQ.go' 1 ?_
    obtain ⟨y8, hy, h⟩ := bindS h
    refine HQ.callW hS [.agg [.keep, .keep, .keep, .keep, .keep, .list 1 false]] (lawTree_ok (x.2.2.2.2.2.1, x.2.2.2.2.2.2, 0, 0, (IntKind.u8.wrap (minI (maxI y6 0) 9)), []) y8 hy W0) (by kernel_rfl) (by kernel_rfl) ?_
    refine HQ.go' 1 ?_
    obtain ⟨y9, hy, h⟩ := bindS h
    refine HQ.callW hS [.agg [.keep, .keep, .keep, .list 1 false, .list 5 false], .agg [.keep, .keep, .keep, .list 1 false, .list 5 false]] (sameT_ok (y8.1, y8.2.1, y8.2.2.1, y8.2.2.2.1, y8.2.2.2.2, x.1, x.2.1, x.2.2.1, x.2.2.2.1, x.2.2.2.2.1) y9 hy W0) (by kernel_rfl) (by kernel_rfl) ?_
    refine HQ.go' 2 ?_
    refine HQ.calm (by kernel_rfl) (by kernel_rfl) (by kernel_rfl) (by kernel_rfl) ?_
    refine Kseq_norm ?_
    exact H.ren' hS [] (isC_L3_ok y9 r h W0 w0 S hS)
  rw [if_neg (of_decide_eq_false hb)] at h
  refine H.skp' ?_
  refine Kseq_norm ?_
  refine H.sr' 1 ?_
  refine H.seq' ?_
  refine H.sr' 3 ?_
  refine H.cS' (decide (x.2.2.2.2.2.1 = 1)) (fun hb => ?_) (fun hb => ?_)
  rotate_left
  · rw [if_neg (of_decide_eq_false hb)] at h
    refine H.skp' ?_
    refine Kseq_norm ?_
    exact H.ren' hS [0, 1] (isC_L4_ok (1, x.1, x.2.1, x.2.2.1, x.2.2.2.1, x.2.2.2.2.1, x.2.2.2.2.2.1, x.2.2.2.2.2.2, 0) r h W0 w0 S hS)
  rw [if_pos (of_decide_eq_true hb)] at h
  refine H.sr' 2 ?_
  refine H.sg' ?_
  refine HO.go' 2 ?_
  refine HO.len (by kernel_rfl) (by kernel_rfl) (ls_size enc36 x.2.2.2.2.1) ?_
  refine HO.fin' 1 ?_
  refine H.cS' (decide ((x.2.2.2.2.1.length : Int) = 4)) (fun hb => ?_) (fun hb => ?_)
  rotate_left
  · rw [if_neg (of_decide_eq_false hb)] at h
    refine H.skp' ?_
    refine Kseq_norm ?_
    exact H.ren' hS [0, 1] (isC_L4_ok (1, x.1, x.2.1, x.2.2.1, x.2.2.2.1, x.2.2.2.2.1, x.2.2.2.2.2.1, x.2.2.2.2.2.2, (-1)) r h W0 w0 S hS)
  rw [if_pos (of_decide_eq_true hb)] at h
  refine H.sg' ?_
  refine HO.go' 2 ?_
  obtain ⟨y10, hy, h⟩ := bindS h
  refine HO.idx (.agg #[.int .u8 y10.c0, .int .u32 y10.c1, .bool y10.c2, ls 1 false (encI .u8) y10.c3, ls 5 false enc36 y10.c4]) hy (enc36_eq y10) (by kernel_rfl) ?_
  refine HO.go' 1 ?_
  obtain ⟨y11, hy, h⟩ := bindS h
  refine HO.callW hS [.agg [.keep, .keep, .keep, .list 1 false, .list 5 false]] (lawNumber_ok (y10.c0, y10.c1, y10.c2, y10.c3, y10.c4) y11 hy W0) (by kernel_rfl) (by kernel_rfl) ?_
  refine HO.fin' 2 ?_
  refine H.reg' ?_
  refine HO.fin' 1 ?_
  exact H.ren' hS [0, 1] (isC_L4_ok (2, x.1, x.2.1, x.2.2.1, x.2.2.2.1, x.2.2.2.2.1, x.2.2.2.2.2.1, x.2.2.2.2.2.2, y11) r h W0 w0 S hS)
def isC_L1 (x : Bool × Int × Int × Bool × (List Int) × (List S36)) : Option (Bool) :=
  if x.1 = true then
    some false
  else
    (at' x.2.2.2.2.2 0) >>= fun y2 =>
    if y2.c1 = 2 then
      (at' x.2.2.2.2.2 0) >>= fun y3 =>
      (lawNumber (y3.c0, y3.c1, y3.c2, y3.c3, y3.c4)) >>= fun y4 =>
      isC_L2 (x.2.1, x.2.2.1, x.2.2.2.1, x.2.2.2.2.1, x.2.2.2.2.2, (IntKind.u8.wrap x.2.2.1), y4)
    else
      isC_L2 (x.2.1, x.2.2.1, x.2.2.2.1, x.2.2.2.2.1, x.2.2.2.2.2, (IntKind.u8.wrap x.2.2.1), (-1))
theorem isC_L1_ok : ∀ (x : Bool × Int × Int × Bool × (List Int) × (List S36)) (r : Bool), isC_L1 x = some r → ∀ (W0 w0 : World) (S : Own), Std W0 w0 S 0 → H Tryd.prog w0 S 101 (cR (cL (cR (cB Tryd.f38)))) (mkS [(1, .pointer (some ⟨0, 0, none⟩)), (19, .bool x.1)] [(0, .cells [.int .u8 x.2.1, .int .u32 x.2.2.1, .bool x.2.2.2.1, ls 1 false (encI .u8) x.2.2.2.2.1, ls 5 false enc36 x.2.2.2.2.2] 36 5)] 1 []) (Kseq Tryd.prog w0 S 101 (cR (cR (cB Tryd.f38))) (KEnd Tryd.prog Tryd.f38 (PEnd w0 S (.returned (.bool r))))) := by
  intro x r h
  unfold isC_L1 at h
  intro W0 w0 S hS
  haveI := hS.noEx Tryd.prog
  refine H.cS' (x.1) (fun hb => ?_) (fun hb => ?_)
  · rw [if_pos hb] at h
    refine H.sr' 1 ?_
    refine H.ret' ?_
    refine Kseq_ret ?_
    obtain rfl := Option.some.inj h
    exact KEnd.r'
  rw [if_neg (ne_true hb)] at h
  refine H.skp' ?_
  refine Kseq_norm ?_
  refine H.sr' 6 ?_
  refine H.seq' ?_
  refine H.sg' ?_
  refine HO.go' 2 ?_
  obtain ⟨y2, hy, h⟩ := bindS h
  refine HO.idx (.agg #[.int .u8 y2.c0, .int .u32 y2.c1, .bool y2.c2, ls 1 false (encI .u8) y2.c3, ls 5 false enc36 y2.c4]) hy (enc36_eq y2) (by kernel_rfl) ?_
  refine HO.fin' 3 ?_
  refine H.cS' (decide (y2.c1 = 2)) (fun hb => ?_) (fun hb => ?_)
  rotate_left
  · rw [if_neg (of_decide_eq_false hb)] at h
    refine H.skp' ?_
    refine Kseq_norm ?_
    exact H.ren' hS [0, 1] (isC_L2_ok (x.2.1, x.2.2.1, x.2.2.2.1, x.2.2.2.2.1, x.2.2.2.2.2, (IntKind.u8.wrap x.2.2.1), (-1)) r h W0 w0 S hS)
  rw [if_pos (of_decide_eq_true hb)] at h
  refine H.reg' ?_
  refine HO.go' 2 ?_
  obtain ⟨y3, hy, h⟩ := bindS h
  refine HO.idx (.agg #[.int .u8 y3.c0, .int .u32 y3.c1, .bool y3.c2, ls 1 false (encI .u8) y3.c3, ls 5 false enc36 y3.c4]) hy (enc36_eq y3) (by kernel_rfl) ?_
  refine HO.go' 1 ?_
  obtain ⟨y4, hy, h⟩ := bindS h
  refine HO.callW hS [.agg [.keep, .keep, .keep, .list 1 false, .list 5 false]] (lawNumber_ok (y3.c0, y3.c1, y3.c2, y3.c3, y3.c4) y4 hy W0) (by kernel_rfl) (by kernel_rfl) ?_
  refine HO.fin' 2 ?_
  exact H.ren' hS [0, 1] (isC_L2_ok (x.2.1, x.2.2.1, x.2.2.2.1, x.2.2.2.2.1, x.2.2.2.2.2, (IntKind.u8.wrap x.2.2.1), y4) r h W0 w0 S hS)
def isC (x : Int × Int × Bool × (List Int) × (List S36)) : Option (Bool) :=
  (kindsC (x.1, x.2.1, x.2.2.1, x.2.2.2.1, x.2.2.2.2)) >>= fun y1 =>
  if (!y1) = true then
    isC_L1 (true, x.1, x.2.1, x.2.2.1, x.2.2.2.1, x.2.2.2.2)
  else
    if (x.2.2.2.2.length : Int) < 2 then
      isC_L1 (true, x.1, x.2.1, x.2.2.1, x.2.2.2.1, x.2.2.2.2)
    else
      isC_L1 ((decide (4 < (x.2.2.2.2.length : Int))), x.1, x.2.1, x.2.2.1, x.2.2.2.1, x.2.2.2.2)
theorem isC_ok : ∀ (x : Int × Int × Bool × (List Int) × (List S36)) (r : Bool), isC x = some r → ∀ W0 : World, PTo Tryd.prog W0 38 #[.agg #[.int .u8 x.1, .int .u32 x.2.1, .bool x.2.2.1, ls 1 false (encI .u8) x.2.2.2.1, ls 5 false enc36 x.2.2.2.2]] (.returned (.bool r)) := by
  intro x r h
  unfold isC at h
  intro W0
  refine PTo.of_body (fn := Tryd.f38) (code := cB Tryd.f38) Tryd.func38 rfl rfl ?_
  intro w0 S hS
  haveI := hS.noEx Tryd.prog
  refine H.sr' 2 ?_
  refine H.seq' ?_
  refine H.sg' ?_
  refine HO.go' 1 ?_
  obtain ⟨y1, hy, h⟩ := bindS h
  refine HO.callW hS [.agg [.keep, .keep, .keep, .list 1 false, .list 5 false]] (kindsC_ok (x.1, x.2.1, x.2.2.1, x.2.2.2.1, x.2.2.2.2) y1 hy W0) (by kernel_rfl) (by kernel_rfl) ?_
  refine HO.go' 1 ?_
  refine HO.bo' (!y1) (fun hb => ?_) (fun hb => ?_)
  · rw [if_pos hb] at h
    refine HO.fin' 11 ?_
    exact H.ren' hS [0] (isC_L1_ok (true, x.1, x.2.1, x.2.2.1, x.2.2.2.1, x.2.2.2.2) r h W0 w0 S hS)
  rw [if_neg (ne_true hb)] at h
  refine HO.go' 2 ?_
  refine HO.len (by kernel_rfl) (by kernel_rfl) (ls_size enc36 x.2.2.2.2) ?_
  refine HO.go' 2 ?_
  refine HO.bo' (decide ((x.2.2.2.2.length : Int) < 2)) (fun hb => ?_) (fun hb => ?_)
  · rw [if_pos (of_decide_eq_true hb)] at h
    refine HO.fin' 5 ?_
    exact H.ren' hS [0] (isC_L1_ok (true, x.1, x.2.1, x.2.2.1, x.2.2.2.1, x.2.2.2.2) r h W0 w0 S hS)
  rw [if_neg (of_decide_eq_false hb)] at h
  refine HO.go' 2 ?_
  refine HO.len (by kernel_rfl) (by kernel_rfl) (ls_size enc36 x.2.2.2.2) ?_
  refine HO.fin' 2 ?_
  exact H.ren' hS [0] (isC_L1_ok ((decide (4 < (x.2.2.2.2.length : Int))), x.1, x.2.1, x.2.2.1, x.2.2.2.1, x.2.2.2.2) r h W0 w0 S hS)
def law_L16 (x : Bool) : Option (Bool) :=
  some x
theorem law_L16_ok : ∀ (x : Bool) (r : Bool), law_L16 x = some r → ∀ (W0 w0 : World) (S : Own), Std W0 w0 S 0 → PTo Tryd.prog W0 29 #[] (.returned (.bool true)) → H Tryd.prog w0 S 234 (cR (cR (cL (cR (cL (cR (cR (cR (cR (cR (cR (cR (cB Tryd.f7))))))))))))) (mkS [(6, .bool x)] [] 0 []) (Kseq Tryd.prog w0 S 234 (cR (cR (cR (cR (cR (cR (cR (cR (cB Tryd.f7))))))))) (KEnd Tryd.prog Tryd.f7 (PEnd w0 S (.returned (.bool r))))) := by
  intro x r h
  unfold law_L16 at h
  intro W0 w0 S hS
  intro HLV
  haveI := hS.noEx Tryd.prog
  refine H.ret' ?_
  refine Kseq_ret ?_
  obtain rfl := Option.some.inj h
  exact KEnd.r'
def law_L19 (x : Bool) : Option (Bool) :=
  some x
theorem law_L19_ok : ∀ (x : Bool) (r : Bool), law_L19 x = some r → ∀ (W0 w0 : World) (S : Own), Std W0 w0 S 0 → PTo Tryd.prog W0 29 #[] (.returned (.bool true)) → H Tryd.prog w0 S 234 (cR (cL (cR (cL (cR (cR (cR (cR (cR (cR (cR (cR (cR (cB Tryd.f7)))))))))))))) (mkS [(6, .bool x)] [] 0 []) (Kseq Tryd.prog w0 S 234 (cR (cR (cR (cR (cR (cR (cR (cR (cR (cR (cB Tryd.f7))))))))))) (KEnd Tryd.prog Tryd.f7 (PEnd w0 S (.returned (.bool r))))) := by
  intro x r h
  unfold law_L19 at h
  intro W0 w0 S hS
  intro HLV
  haveI := hS.noEx Tryd.prog
  refine H.ret' ?_
  refine Kseq_ret ?_
  obtain rfl := Option.some.inj h
  exact KEnd.r'
def law_L23 (x : Bool) : Option (Bool) :=
  some x
theorem law_L23_ok : ∀ (x : Bool) (r : Bool), law_L23 x = some r → ∀ (W0 w0 : World) (S : Own), Std W0 w0 S 0 → PTo Tryd.prog W0 29 #[] (.returned (.bool true)) → H Tryd.prog w0 S 234 (cR (cR (cR (cR (cR (cR (cR (cR (cR (cR (cR (cR (cR (cR (cB Tryd.f7))))))))))))))) (mkS [(6, .bool x)] [] 0 []) (KEnd Tryd.prog Tryd.f7 (PEnd w0 S (.returned (.bool r)))) := by
  intro x r h
  unfold law_L23 at h
  intro W0 w0 S hS
  intro HLV
  haveI := hS.noEx Tryd.prog
  refine H.ret' ?_
  obtain rfl := Option.some.inj h
  exact KEnd.r'
def law_L22 (x : Int × Int × Bool × (List Int) × (List S36) × Int × Int × Int × Int × Int × (List Int) × Int × Int) : Option (Bool) :=
  (sameC (x.2.2.2.2.2.1, x.2.2.2.2.2.2.1, x.2.2.2.2.2.2.2.1, x.2.2.2.2.2.2.2.2.1, x.2.2.2.2.2.2.2.2.2.1, x.2.2.2.2.2.2.2.2.2.2.1, 5, x.2.2.2.2.2.2.2.2.2.2.2.1, 0, 0, x.2.2.2.2.2.2.2.2.2.2.2.2, [])) >>= fun y38 =>
  if y38 = true then
    (cpCheck (x.2.2.2.2.2.1, x.2.2.2.2.2.2.1, x.2.2.2.2.2.2.2.1, x.2.2.2.2.2.2.2.2.1, x.2.2.2.2.2.2.2.2.2.1, x.2.2.2.2.2.2.2.2.2.2.1)) >>= fun y39 =>
    if y39 = 0 then
      (isC (x.1, x.2.1, x.2.2.1, x.2.2.2.1, x.2.2.2.2.1)) >>= fun y40 =>
      if (!y40) = true then
        law_L23 true
      else
        law_L23 false
    else
      law_L23 false
  else
    law_L23 false
theorem law_L22_ok : ∀ (x : Int × Int × Bool × (List Int) × (List S36) × Int × Int × Int × Int × Int × (List Int) × Int × Int) (r : Bool), law_L22 x = some r → ∀ (W0 w0 : World) (S : Own), Std W0 w0 S 0 → PTo Tryd.prog W0 29 #[] (.returned (.bool true)) → H Tryd.prog w0 S 234 (cR (cR (cR (cR (cR (cR (cR (cR (cR (cR (cR (cR (cR (cB Tryd.f7)))))))))))))) (mkS [(9, .pointer (some ⟨0, 0, none⟩)), (13, .pointer (some ⟨1, 0, none⟩)), (17, .pointer (some ⟨2, 0, none⟩))] [(0, .cells [.int .u8 x.1, .int .u32 x.2.1, .bool x.2.2.1, ls 1 false (encI .u8) x.2.2.2.1, ls 5 false enc36 x.2.2.2.2.1] 36 5), (1, .cells [.int .u8 x.2.2.2.2.2.1, .int .i64 x.2.2.2.2.2.2.1, .int .i64 x.2.2.2.2.2.2.2.1, .int .i64 x.2.2.2.2.2.2.2.2.1, .int .u8 x.2.2.2.2.2.2.2.2.2.1, ls 1 false (encI .u8) x.2.2.2.2.2.2.2.2.2.2.1] 70 6), (2, .cells [.int .u8 5, .int .i64 x.2.2.2.2.2.2.2.2.2.2.2.1, .int .i64 0, .int .i64 0, .int .u8 x.2.2.2.2.2.2.2.2.2.2.2.2, .slice none 0 0] 70 6)] 3 []) (KEnd Tryd.prog Tryd.f7 (PEnd w0 S (.returned (.bool r)))) := by
  intro x r h
  unfold law_L22 at h
  intro W0 w0 S hS
  intro HLV
  haveI := hS.noEx Tryd.prog
  refine H.sg' ?_
  refine HO.go' 2 ?_
  obtain ⟨y38, hy, h⟩ := bindS h
  refine HO.callW hS [.agg [.keep, .keep, .keep, .keep, .keep, .list 1 false], .agg [.keep, .keep, .keep, .keep, .keep, .list 1 false]] (sameC_ok (x.2.2.2.2.2.1, x.2.2.2.2.2.2.1, x.2.2.2.2.2.2.2.1, x.2.2.2.2.2.2.2.2.1, x.2.2.2.2.2.2.2.2.2.1, x.2.2.2.2.2.2.2.2.2.2.1, 5, x.2.2.2.2.2.2.2.2.2.2.2.1, 0, 0, x.2.2.2.2.2.2.2.2.2.2.2.2, []) y38 hy W0) (by kernel_rfl) (by kernel_rfl) ?_
  refine HO.bo' y38 (fun hb => ?_) (fun hb => ?_)
  rotate_left
  · rw [if_neg (ne_true hb)] at h
    refine HO.fin' 13 ?_
    exact H.ren' hS [] (law_L23_ok false r h W0 w0 S hS HLV)
  rw [if_pos hb] at h
  refine HO.go' 1 ?_
  obtain ⟨y39, hy, h⟩ := bindS h
  refine HO.callW hS [.agg [.keep, .keep, .keep, .keep, .keep, .list 1 false]] (cpCheck_ok (x.2.2.2.2.2.1, x.2.2.2.2.2.2.1, x.2.2.2.2.2.2.2.1, x.2.2.2.2.2.2.2.2.1, x.2.2.2.2.2.2.2.2.2.1, x.2.2.2.2.2.2.2.2.2.2.1) y39 hy W0) (by kernel_rfl) (by kernel_rfl) ?_
  refine HO.go' 2 ?_
  refine HO.bo' (decide (y39 = 0)) (fun hb => ?_) (fun hb => ?_)
  rotate_left
  · rw [if_neg (of_decide_eq_false hb)] at h
    refine HO.fin' 8 ?_
    exact H.ren' hS [] (law_L23_ok false r h W0 w0 S hS HLV)
  rw [if_pos (of_decide_eq_true hb)] at h
  refine HO.go' 1 ?_
  obtain ⟨y40, hy, h⟩ := bindS h
  refine HO.callW hS [.agg [.keep, .keep, .keep, .list 1 false, .list 5 false]] (isC_ok (x.1, x.2.1, x.2.2.1, x.2.2.2.1, x.2.2.2.2.1) y40 hy W0) (by kernel_rfl) (by kernel_rfl) ?_
  refine HO.go' 2 ?_
  refine HO.bo' (!y40) (fun hb => ?_) (fun hb => ?_)
  rotate_left
  · rw [if_neg (ne_true hb)] at h
    refine HO.fin' 3 ?_
    exact H.ren' hS [] (law_L23_ok false r h W0 w0 S hS HLV)
  rw [if_pos hb] at h
  refine HO.callW hS [] HLV (by kernel_rfl) (by kernel_rfl) ?_
  refine HO.fin' 2 ?_
  exact H.ren' hS [] (law_L23_ok true r h W0 w0 S hS HLV)
def law_L21 (x : Bool × Int × Int × Bool × (List Int) × (List S36) × Int × Int × Int × Int × Int × (List Int) × Int) : Option (Bool) :=
  if x.1 = true then
    (at' x.2.2.2.2.2.1 0) >>= fun y36 =>
    (at' y36.c3 0) >>= fun y37 =>
    law_L22 (x.2.1, x.2.2.1, x.2.2.2.1, x.2.2.2.2.1, x.2.2.2.2.2.1, x.2.2.2.2.2.2.1, x.2.2.2.2.2.2.2.1, x.2.2.2.2.2.2.2.2.1, x.2.2.2.2.2.2.2.2.2.1, x.2.2.2.2.2.2.2.2.2.2.1, x.2.2.2.2.2.2.2.2.2.2.2.1, (IntKind.i64.wrap y37), x.2.2.2.2.2.2.2.2.2.2.2.2)
  else
    law_L22 (x.2.1, x.2.2.1, x.2.2.2.1, x.2.2.2.2.1, x.2.2.2.2.2.1, x.2.2.2.2.2.2.1, x.2.2.2.2.2.2.2.1, x.2.2.2.2.2.2.2.2.1, x.2.2.2.2.2.2.2.2.2.1, x.2.2.2.2.2.2.2.2.2.2.1, x.2.2.2.2.2.2.2.2.2.2.2.1, (-1), x.2.2.2.2.2.2.2.2.2.2.2.2)
theorem law_L21_ok : ∀ (x : Bool × Int × Int × Bool × (List Int) × (List S36) × Int × Int × Int × Int × Int × (List Int) × Int) (r : Bool), law_L21 x = some r → ∀ (W0 w0 : World) (S : Own), Std W0 w0 S 0 → PTo Tryd.prog W0 29 #[] (.returned (.bool true)) → H Tryd.prog w0 S 234 (cR (cL (cR (cR (cR (cR (cR (cR (cR (cR (cR (cR (cR (cR (cB Tryd.f7))))))))))))))) (mkS [(9, .pointer (some ⟨0, 0, none⟩)), (13, .pointer (some ⟨1, 0, none⟩)), (17, .pointer (some ⟨2, 0, none⟩)), (208, .bool x.1)] [(0, .cells [.int .u8 x.2.1, .int .u32 x.2.2.1, .bool x.2.2.2.1, ls 1 false (encI .u8) x.2.2.2.2.1, ls 5 false enc36 x.2.2.2.2.2.1] 36 5), (1, .cells [.int .u8 x.2.2.2.2.2.2.1, .int .i64 x.2.2.2.2.2.2.2.1, .int .i64 x.2.2.2.2.2.2.2.2.1, .int .i64 x.2.2.2.2.2.2.2.2.2.1, .int .u8 x.2.2.2.2.2.2.2.2.2.2.1, ls 1 false (encI .u8) x.2.2.2.2.2.2.2.2.2.2.2.1] 70 6), (2, .cells [.int .u8 5, .int .i64 (-1), .int .i64 0, .int .i64 0, .int .u8 x.2.2.2.2.2.2.2.2.2.2.2.2, .slice none 0 0] 70 6)] 3 []) (Kseq Tryd.prog w0 S 234 (cR (cR (cR (cR (cR (cR (cR (cR (cR (cR (cR (cR (cR (cB Tryd.f7)))))))))))))) (KEnd Tryd.prog Tryd.f7 (PEnd w0 S (.returned (.bool r))))) := by
  intro x r h
  unfold law_L21 at h
  intro W0 w0 S hS
  intro HLV
  haveI := hS.noEx Tryd.prog
  refine H.cS' (x.1) (fun hb => ?_) (fun hb => ?_)
  rotate_left
  · rw [if_neg (ne_true hb)] at h
    refine H.skp' ?_
    refine Kseq_norm ?_
    exact H.ren' hS [0, 1, 2] (law_L22_ok (x.2.1, x.2.2.1, x.2.2.2.1, x.2.2.2.2.1, x.2.2.2.2.2.1, x.2.2.2.2.2.2.1, x.2.2.2.2.2.2.2.1, x.2.2.2.2.2.2.2.2.1, x.2.2.2.2.2.2.2.2.2.1, x.2.2.2.2.2.2.2.2.2.2.1, x.2.2.2.2.2.2.2.2.2.2.2.1, (-1), x.2.2.2.2.2.2.2.2.2.2.2.2) r h W0 w0 S hS HLV)
  rw [if_pos hb] at h
  refine H.reg' ?_
  refine HO.go' 2 ?_
  obtain ⟨y36, hy, h⟩ := bindS h
  refine HO.idx (.agg #[.int .u8 y36.c0, .int .u32 y36.c1, .bool y36.c2, ls 1 false (encI .u8) y36.c3, ls 5 false enc36 y36.c4]) hy (enc36_eq y36) (by kernel_rfl) ?_
  refine HO.go' 2 ?_
  obtain ⟨y37, hy, h⟩ := bindS h
  refine HO.idx (.int .u8 y37) hy rfl (by kernel_rfl) ?_
  refine HO.fin' 4 ?_
  exact H.ren' hS [0, 1, 2] (law_L22_ok (x.2.1, x.2.2.1, x.2.2.2.1, x.2.2.2.2.1, x.2.2.2.2.2.1, x.2.2.2.2.2.2.1, x.2.2.2.2.2.2.2.1, x.2.2.2.2.2.2.2.2.1, x.2.2.2.2.2.2.2.2.2.1, x.2.2.2.2.2.2.2.2.2.2.1, x.2.2.2.2.2.2.2.2.2.2.2.1, (IntKind.i64.wrap y37), x.2.2.2.2.2.2.2.2.2.2.2.2) r h W0 w0 S hS HLV)
def law_L20 (x : Int × Int × Bool × (List Int) × (List S36) × Int × Int × Int × Int × Int × (List Int) × Int) : Option (Bool) :=
  if 0 < (x.2.2.2.2.1.length : Int) then
    (at' x.2.2.2.2.1 0) >>= fun y30 =>
    if y30.c0 = 0 then
      (at' x.2.2.2.2.1 0) >>= fun y31 =>
      if y31.c1 = 2 then
        (at' x.2.2.2.2.1 0) >>= fun y32 =>
        if (!y32.c2) = true then
          (at' x.2.2.2.2.1 0) >>= fun y33 =>
          if (y33.c3.length : Int) = 1 then
            (at' x.2.2.2.2.1 0) >>= fun y34 =>
            (at' y34.c3 0) >>= fun y35 =>
            law_L21 ((decide (y35 < 128)), x.1, x.2.1, x.2.2.1, x.2.2.2.1, x.2.2.2.2.1, x.2.2.2.2.2.1, x.2.2.2.2.2.2.1, x.2.2.2.2.2.2.2.1, x.2.2.2.2.2.2.2.2.1, x.2.2.2.2.2.2.2.2.2.1, x.2.2.2.2.2.2.2.2.2.2.1, x.2.2.2.2.2.2.2.2.2.2.2)
          else
            law_L21 (false, x.1, x.2.1, x.2.2.1, x.2.2.2.1, x.2.2.2.2.1, x.2.2.2.2.2.1, x.2.2.2.2.2.2.1, x.2.2.2.2.2.2.2.1, x.2.2.2.2.2.2.2.2.1, x.2.2.2.2.2.2.2.2.2.1, x.2.2.2.2.2.2.2.2.2.2.1, x.2.2.2.2.2.2.2.2.2.2.2)
        else
          law_L21 (false, x.1, x.2.1, x.2.2.1, x.2.2.2.1, x.2.2.2.2.1, x.2.2.2.2.2.1, x.2.2.2.2.2.2.1, x.2.2.2.2.2.2.2.1, x.2.2.2.2.2.2.2.2.1, x.2.2.2.2.2.2.2.2.2.1, x.2.2.2.2.2.2.2.2.2.2.1, x.2.2.2.2.2.2.2.2.2.2.2)
      else
        law_L21 (false, x.1, x.2.1, x.2.2.1, x.2.2.2.1, x.2.2.2.2.1, x.2.2.2.2.2.1, x.2.2.2.2.2.2.1, x.2.2.2.2.2.2.2.1, x.2.2.2.2.2.2.2.2.1, x.2.2.2.2.2.2.2.2.2.1, x.2.2.2.2.2.2.2.2.2.2.1, x.2.2.2.2.2.2.2.2.2.2.2)
    else
      law_L21 (false, x.1, x.2.1, x.2.2.1, x.2.2.2.1, x.2.2.2.2.1, x.2.2.2.2.2.1, x.2.2.2.2.2.2.1, x.2.2.2.2.2.2.2.1, x.2.2.2.2.2.2.2.2.1, x.2.2.2.2.2.2.2.2.2.1, x.2.2.2.2.2.2.2.2.2.2.1, x.2.2.2.2.2.2.2.2.2.2.2)
  else
    law_L21 (false, x.1, x.2.1, x.2.2.1, x.2.2.2.1, x.2.2.2.2.1, x.2.2.2.2.2.1, x.2.2.2.2.2.2.1, x.2.2.2.2.2.2.2.1, x.2.2.2.2.2.2.2.2.1, x.2.2.2.2.2.2.2.2.2.1, x.2.2.2.2.2.2.2.2.2.2.1, x.2.2.2.2.2.2.2.2.2.2.2)
theorem law_L20_ok : ∀ (x : Int × Int × Bool × (List Int) × (List S36) × Int × Int × Int × Int × Int × (List Int) × Int) (r : Bool), law_L20 x = some r → ∀ (W0 w0 : World) (S : Own), Std W0 w0 S 0 → PTo Tryd.prog W0 29 #[] (.returned (.bool true)) → H Tryd.prog w0 S 234 (cR (cR (cR (cR (cR (cR (cR (cR (cR (cR (cR (cR (cB Tryd.f7))))))))))))) (mkS [(9, .pointer (some ⟨0, 0, none⟩)), (13, .pointer (some ⟨1, 0, none⟩)), (17, .pointer (some ⟨2, 0, none⟩))] [(0, .cells [.int .u8 x.1, .int .u32 x.2.1, .bool x.2.2.1, ls 1 false (encI .u8) x.2.2.2.1, ls 5 false enc36 x.2.2.2.2.1] 36 5), (1, .cells [.int .u8 x.2.2.2.2.2.1, .int .i64 x.2.2.2.2.2.2.1, .int .i64 x.2.2.2.2.2.2.2.1, .int .i64 x.2.2.2.2.2.2.2.2.1, .int .u8 x.2.2.2.2.2.2.2.2.2.1, ls 1 false (encI .u8) x.2.2.2.2.2.2.2.2.2.2.1] 70 6), (2, .cells [.int .u8 5, .int .i64 (-1), .int .i64 0, .int .i64 0, .int .u8 x.2.2.2.2.2.2.2.2.2.2.2, .slice none 0 0] 70 6)] 3 []) (KEnd Tryd.prog Tryd.f7 (PEnd w0 S (.returned (.bool r)))) := by
  intro x r h
  unfold law_L20 at h
  intro W0 w0 S hS
  intro HLV
  haveI := hS.noEx Tryd.prog
  refine H.seq' ?_
  refine H.sg' ?_
  refine HO.go' 2 ?_
  refine HO.len (by kernel_rfl) (by kernel_rfl) (ls_size enc36 x.2.2.2.2.1) ?_
  refine HO.go' 1 ?_
  refine HO.bo' (decide (0 < (x.2.2.2.2.1.length : Int))) (fun hb => ?_) (fun hb => ?_)
  rotate_left
  · rw [if_neg (of_decide_eq_false hb)] at h
    refine HO.fin' 42 ?_
    exact H.ren' hS [0, 1, 2] (law_L21_ok (false, x.1, x.2.1, x.2.2.1, x.2.2.2.1, x.2.2.2.2.1, x.2.2.2.2.2.1, x.2.2.2.2.2.2.1, x.2.2.2.2.2.2.2.1, x.2.2.2.2.2.2.2.2.1, x.2.2.2.2.2.2.2.2.2.1, x.2.2.2.2.2.2.2.2.2.2.1, x.2.2.2.2.2.2.2.2.2.2.2) r h W0 w0 S hS HLV)
  rw [if_pos (of_decide_eq_true hb)] at h
  refine HO.go' 2 ?_
  obtain ⟨y30, hy, h⟩ := bindS h
  refine HO.idx (.agg #[.int .u8 y30.c0, .int .u32 y30.c1, .bool y30.c2, ls 1 false (encI .u8) y30.c3, ls 5 false enc36 y30.c4]) hy (enc36_eq y30) (by kernel_rfl) ?_
  refine HO.go' 4 ?_
  refine HO.bo' (decide (y30.c0 = 0)) (fun hb => ?_) (fun hb => ?_)
  rotate_left
  · rw [if_neg (of_decide_eq_false hb)] at h
    refine HO.fin' 34 ?_
    exact H.ren' hS [0, 1, 2] (law_L21_ok (false, x.1, x.2.1, x.2.2.1, x.2.2.2.1, x.2.2.2.2.1, x.2.2.2.2.2.1, x.2.2.2.2.2.2.1, x.2.2.2.2.2.2.2.1, x.2.2.2.2.2.2.2.2.1, x.2.2.2.2.2.2.2.2.2.1, x.2.2.2.2.2.2.2.2.2.2.1, x.2.2.2.2.2.2.2.2.2.2.2) r h W0 w0 S hS HLV)
  rw [if_pos (of_decide_eq_true hb)] at h
  refine HO.go' 2 ?_
  obtain ⟨y31, hy, h⟩ := bindS h
  refine HO.idx (.agg #[.int .u8 y31.c0, .int .u32 y31.c1, .bool y31.c2, ls 1 false (encI .u8) y31.c3, ls 5 false enc36 y31.c4]) hy (enc36_eq y31) (by kernel_rfl) ?_
  refine HO.go' 4 ?_
  refine HO.bo' (decide (y31.c1 = 2)) (fun hb => ?_) (fun hb => ?_)
  rotate_left
  · rw [if_neg (of_decide_eq_false hb)] at h
    refine HO.fin' 26 ?_
    exact H.ren' hS [0, 1, 2] (law_L21_ok (false, x.1, x.2.1, x.2.2.1, x.2.2.2.1, x.2.2.2.2.1, x.2.2.2.2.2.1, x.2.2.2.2.2.2.1, x.2.2.2.2.2.2.2.1, x.2.2.2.2.2.2.2.2.1, x.2.2.2.2.2.2.2.2.2.1, x.2.2.2.2.2.2.2.2.2.2.1, x.2.2.2.2.2.2.2.2.2.2.2) r h W0 w0 S hS HLV)
  rw [if_pos (of_decide_eq_true hb)] at h
  refine HO.go' 2 ?_
  obtain ⟨y32, hy, h⟩ := bindS h
  refine HO.idx (.agg #[.int .u8 y32.c0, .int .u32 y32.c1, .bool y32.c2, ls 1 false (encI .u8) y32.c3, ls 5 false enc36 y32.c4]) hy (enc36_eq y32) (by kernel_rfl) ?_
  refine HO.go' 4 ?_
  refine HO.bo' (!y32.c2) (fun hb => ?_) (fun hb => ?_)
  rotate_left
  · rw [if_neg (ne_true hb)] at h
    refine HO.fin' 18 ?_
    exact H.ren' hS [0, 1, 2] (law_L21_ok (false, x.1, x.2.1, x.2.2.1, x.2.2.2.1, x.2.2.2.2.1, x.2.2.2.2.2.1, x.2.2.2.2.2.2.1, x.2.2.2.2.2.2.2.1, x.2.2.2.2.2.2.2.2.1, x.2.2.2.2.2.2.2.2.2.1, x.2.2.2.2.2.2.2.2.2.2.1, x.2.2.2.2.2.2.2.2.2.2.2) r h W0 w0 S hS HLV)
  rw [if_pos hb] at h
  refine HO.go' 2 ?_
  obtain ⟨y33, hy, h⟩ := bindS h
  refine HO.idx (.agg #[.int .u8 y33.c0, .int .u32 y33.c1, .bool y33.c2, ls 1 false (encI .u8) y33.c3, ls 5 false enc36 y33.c4]) hy (enc36_eq y33) (by kernel_rfl) ?_
  refine HO.go' 2 ?_
  refine HO.len (by kernel_rfl) (by kernel_rfl) (ls_size (encI .u8) y33.c3) ?_
  refine HO.go' 2 ?_
  refine HO.bo' (decide ((y33.c3.length : Int) = 1)) (fun hb => ?_) (fun hb => ?_)
  rotate_left
  · rw [if_neg (of_decide_eq_false hb)] at h
    refine HO.fin' 9 ?_
    exact H.ren' hS [0, 1, 2] (law_L21_ok (false, x.1, x.2.1, x.2.2.1, x.2.2.2.1, x.2.2.2.2.1, x.2.2.2.2.2.1, x.2.2.2.2.2.2.1, x.2.2.2.2.2.2.2.1, x.2.2.2.2.2.2.2.2.1, x.2.2.2.2.2.2.2.2.2.1, x.2.2.2.2.2.2.2.2.2.2.1, x.2.2.2.2.2.2.2.2.2.2.2) r h W0 w0 S hS HLV)
  rw [if_pos (of_decide_eq_true hb)] at h
  refine HO.go' 2 ?_
  obtain ⟨y34, hy, h⟩ := bindS h
  refine HO.idx (.agg #[.int .u8 y34.c0, .int .u32 y34.c1, .bool y34.c2, ls 1 false (encI .u8) y34.c3, ls 5 false enc36 y34.c4]) hy (enc36_eq y34) (by kernel_rfl) ?_
  refine HO.go' 2 ?_
  obtain ⟨y35, hy, h⟩ := bindS h
  refine HO.idx (.int .u8 y35) hy rfl (by kernel_rfl) ?_
  refine HO.fin' 3 ?_
  exact H.ren' hS [0, 1, 2] (law_L21_ok ((decide (y35 < 128)), x.1, x.2.1, x.2.2.1, x.2.2.2.1, x.2.2.2.2.1, x.2.2.2.2.2.1, x.2.2.2.2.2.2.1, x.2.2.2.2.2.2.2.1, x.2.2.2.2.2.2.2.2.1, x.2.2.2.2.2.2.2.2.2.1, x.2.2.2.2.2.2.2.2.2.2.1, x.2.2.2.2.2.2.2.2.2.2.2) r h W0 w0 S hS HLV)
def law_L18 (x : Bool × Int × Int × Bool × (List Int) × (List S36) × Int × Int × Int × Int × Int × (List Int)) : Option (Bool) :=
  if x.1 = true then
    (zeroC (x.2.2.2.2.2.2.1, x.2.2.2.2.2.2.2.1, x.2.2.2.2.2.2.2.2.1, x.2.2.2.2.2.2.2.2.2.1, x.2.2.2.2.2.2.2.2.2.2.1, x.2.2.2.2.2.2.2.2.2.2.2)) >>= fun y28 =>
    if y28 = true then
      law_L19 true
    else
      law_L19 false
  else
    (kindsC (x.2.1, x.2.2.1, x.2.2.2.1, x.2.2.2.2.1, x.2.2.2.2.2.1)) >>= fun y29 =>
    if (!y29) = true then
      law_L20 (x.2.1, x.2.2.1, x.2.2.2.1, x.2.2.2.2.1, x.2.2.2.2.2.1, x.2.2.2.2.2.2.1, x.2.2.2.2.2.2.2.1, x.2.2.2.2.2.2.2.2.1, x.2.2.2.2.2.2.2.2.2.1, x.2.2.2.2.2.2.2.2.2.2.1, x.2.2.2.2.2.2.2.2.2.2.2, 1)
    else
      law_L20 (x.2.1, x.2.2.1, x.2.2.2.1, x.2.2.2.2.1, x.2.2.2.2.2.1, x.2.2.2.2.2.2.1, x.2.2.2.2.2.2.2.1, x.2.2.2.2.2.2.2.2.1, x.2.2.2.2.2.2.2.2.2.1, x.2.2.2.2.2.2.2.2.2.2.1, x.2.2.2.2.2.2.2.2.2.2.2, 2)
theorem law_L18_ok : ∀ (x : Bool × Int × Int × Bool × (List Int) × (List S36) × Int × Int × Int × Int × Int × (List Int)) (r : Bool), law_L18 x = some r → ∀ (W0 w0 : World) (S : Own), Std W0 w0 S 0 → PTo Tryd.prog W0 29 #[] (.returned (.bool true)) → H Tryd.prog w0 S 234 (cR (cL (cR (cR (cR (cR (cR (cR (cR (cR (cR (cB Tryd.f7)))))))))))) (mkS [(9, .pointer (some ⟨0, 0, none⟩)), (13, .pointer (some ⟨1, 0, none⟩)), (151, .bool x.1)] [(0, .cells [.int .u8 x.2.1, .int .u32 x.2.2.1, .bool x.2.2.2.1, ls 1 false (encI .u8) x.2.2.2.2.1, ls 5 false enc36 x.2.2.2.2.2.1] 36 5), (1, .cells [.int .u8 x.2.2.2.2.2.2.1, .int .i64 x.2.2.2.2.2.2.2.1, .int .i64 x.2.2.2.2.2.2.2.2.1, .int .i64 x.2.2.2.2.2.2.2.2.2.1, .int .u8 x.2.2.2.2.2.2.2.2.2.2.1, ls 1 false (encI .u8) x.2.2.2.2.2.2.2.2.2.2.2] 70 6)] 2 []) (Kseq Tryd.prog w0 S 234 (cR (cR (cR (cR (cR (cR (cR (cR (cR (cR (cB Tryd.f7))))))))))) (KEnd Tryd.prog Tryd.f7 (PEnd w0 S (.returned (.bool r))))) := by
  intro x r h
  unfold law_L18 at h
  intro W0 w0 S hS
  intro HLV
  haveI := hS.noEx Tryd.prog
  refine H.cS' (x.1) (fun hb => ?_) (fun hb => ?_)
  · rw [if_pos hb] at h
    refine H.sg' ?_
    refine HO.go' 1 ?_
    obtain ⟨y28, hy, h⟩ := bindS h
    refine HO.callW hS [.agg [.keep, .keep, .keep, .keep, .keep, .list 1 false]] (zeroC_ok (x.2.2.2.2.2.2.1, x.2.2.2.2.2.2.2.1, x.2.2.2.2.2.2.2.2.1, x.2.2.2.2.2.2.2.2.2.1, x.2.2.2.2.2.2.2.2.2.2.1, x.2.2.2.2.2.2.2.2.2.2.2) y28 hy W0) (by kernel_rfl) (by kernel_rfl) ?_
    refine HO.bo' y28 (fun hb => ?_) (fun hb => ?_)
    rotate_left
    · rw [if_neg (ne_true hb)] at h
      refine HO.fin' 3 ?_
      exact H.ren' hS [] (law_L19_ok false r h W0 w0 S hS HLV)
    rw [if_pos hb] at h
    refine HO.callW hS [] HLV (by kernel_rfl) (by kernel_rfl) ?_
    refine HO.fin' 2 ?_
    exact H.ren' hS [] (law_L19_ok true r h W0 w0 S hS HLV)
  rw [if_neg (ne_true hb)] at h
  refine H.skp' ?_
  refine Kseq_norm ?_
  refine H.sr' 3 ?_
  refine H.seq' ?_
  refine H.sg' ?_
  refine HO.go' 1 ?_
  obtain ⟨y29, hy, h⟩ := bindS h
  refine HO.callW hS [.agg [.keep, .keep, .keep, .list 1 false, .list 5 false]] (kindsC_ok (x.2.1, x.2.2.1, x.2.2.2.1, x.2.2.2.2.1, x.2.2.2.2.2.1) y29 hy W0) (by kernel_rfl) (by kernel_rfl) ?_
  refine HO.fin' 1 ?_
  refine H.cS' (!y29) (fun hb => ?_) (fun hb => ?_)
  rotate_left
  · rw [if_neg (ne_true hb)] at h
    refine H.skp' ?_
    refine Kseq_norm ?_
    exact H.ren' hS [0, 1, 2] (law_L20_ok (x.2.1, x.2.2.1, x.2.2.2.1, x.2.2.2.2.1, x.2.2.2.2.2.1, x.2.2.2.2.2.2.1, x.2.2.2.2.2.2.2.1, x.2.2.2.2.2.2.2.2.1, x.2.2.2.2.2.2.2.2.2.1, x.2.2.2.2.2.2.2.2.2.2.1, x.2.2.2.2.2.2.2.2.2.2.2, 2) r h W0 w0 S hS HLV)
  rw [if_pos hb] at h
  refine H.reg' ?_
  refine HO.fin' 2 ?_
  exact H.ren' hS [0, 1, 2] (law_L20_ok (x.2.1, x.2.2.1, x.2.2.2.1, x.2.2.2.2.1, x.2.2.2.2.2.1, x.2.2.2.2.2.2.1, x.2.2.2.2.2.2.2.1, x.2.2.2.2.2.2.2.2.1, x.2.2.2.2.2.2.2.2.2.1, x.2.2.2.2.2.2.2.2.2.2.1, x.2.2.2.2.2.2.2.2.2.2.2, 1) r h W0 w0 S hS HLV)
def law_L17 (x : Bool × Int × Int × Bool × (List Int) × (List S36) × Int × Int × Int × Int × Int × (List Int)) : Option (Bool) :=
  if x.1 = true then
    some false
  else
    (kindsC (x.2.1, x.2.2.1, x.2.2.2.1, x.2.2.2.2.1, x.2.2.2.2.2.1)) >>= fun y27 =>
    if y27 = true then
      law_L18 ((decide (x.2.2.1 = 5)), x.2.1, x.2.2.1, x.2.2.2.1, x.2.2.2.2.1, x.2.2.2.2.2.1, x.2.2.2.2.2.2.1, x.2.2.2.2.2.2.2.1, x.2.2.2.2.2.2.2.2.1, x.2.2.2.2.2.2.2.2.2.1, x.2.2.2.2.2.2.2.2.2.2.1, x.2.2.2.2.2.2.2.2.2.2.2)
    else
      law_L18 (false, x.2.1, x.2.2.1, x.2.2.2.1, x.2.2.2.2.1, x.2.2.2.2.2.1, x.2.2.2.2.2.2.1, x.2.2.2.2.2.2.2.1, x.2.2.2.2.2.2.2.2.1, x.2.2.2.2.2.2.2.2.2.1, x.2.2.2.2.2.2.2.2.2.2.1, x.2.2.2.2.2.2.2.2.2.2.2)
theorem law_L17_ok : ∀ (x : Bool × Int × Int × Bool × (List Int) × (List S36) × Int × Int × Int × Int × Int × (List Int)) (r : Bool), law_L17 x = some r → ∀ (W0 w0 : World) (S : Own), Std W0 w0 S 0 → PTo Tryd.prog W0 29 #[] (.returned (.bool true)) → H Tryd.prog w0 S 234 (cR (cL (cR (cR (cR (cR (cR (cR (cR (cR (cB Tryd.f7))))))))))) (mkS [(9, .pointer (some ⟨0, 0, none⟩)), (13, .pointer (some ⟨1, 0, none⟩)), (144, .bool x.1)] [(0, .cells [.int .u8 x.2.1, .int .u32 x.2.2.1, .bool x.2.2.2.1, ls 1 false (encI .u8) x.2.2.2.2.1, ls 5 false enc36 x.2.2.2.2.2.1] 36 5), (1, .cells [.int .u8 x.2.2.2.2.2.2.1, .int .i64 x.2.2.2.2.2.2.2.1, .int .i64 x.2.2.2.2.2.2.2.2.1, .int .i64 x.2.2.2.2.2.2.2.2.2.1, .int .u8 x.2.2.2.2.2.2.2.2.2.2.1, ls 1 false (encI .u8) x.2.2.2.2.2.2.2.2.2.2.2] 70 6)] 2 []) (Kseq Tryd.prog w0 S 234 (cR (cR (cR (cR (cR (cR (cR (cR (cR (cB Tryd.f7)))))))))) (KEnd Tryd.prog Tryd.f7 (PEnd w0 S (.returned (.bool r))))) := by
  intro x r h
  unfold law_L17 at h
  intro W0 w0 S hS
  intro HLV
  haveI := hS.noEx Tryd.prog
  refine H.cS' (x.1) (fun hb => ?_) (fun hb => ?_)
  · rw [if_pos hb] at h
    refine H.sr' 1 ?_
    refine H.ret' ?_
    refine Kseq_ret ?_
    obtain rfl := Option.some.inj h
    exact KEnd.r'
  rw [if_neg (ne_true hb)] at h
  refine H.skp' ?_
  refine Kseq_norm ?_
  refine H.seq' ?_
  refine H.sg' ?_
  refine HO.go' 1 ?_
  obtain ⟨y27, hy, h⟩ := bindS h
  refine HO.callW hS [.agg [.keep, .keep, .keep, .list 1 false, .list 5 false]] (kindsC_ok (x.2.1, x.2.2.1, x.2.2.2.1, x.2.2.2.2.1, x.2.2.2.2.2.1) y27 hy W0) (by kernel_rfl) (by kernel_rfl) ?_
  refine HO.bo' y27 (fun hb => ?_) (fun hb => ?_)
  · rw [if_pos hb] at h
    refine HO.fin' 4 ?_
    exact H.ren' hS [0, 1] (law_L18_ok ((decide (x.2.2.1 = 5)), x.2.1, x.2.2.1, x.2.2.2.1, x.2.2.2.2.1, x.2.2.2.2.2.1, x.2.2.2.2.2.2.1, x.2.2.2.2.2.2.2.1, x.2.2.2.2.2.2.2.2.1, x.2.2.2.2.2.2.2.2.2.1, x.2.2.2.2.2.2.2.2.2.2.1, x.2.2.2.2.2.2.2.2.2.2.2) r h W0 w0 S hS HLV)
  rw [if_neg (ne_true hb)] at h
  refine HO.fin' 4 ?_
  exact H.ren' hS [0, 1] (law_L18_ok (false, x.2.1, x.2.2.1, x.2.2.2.1, x.2.2.2.2.1, x.2.2.2.2.2.1, x.2.2.2.2.2.2.1, x.2.2.2.2.2.2.2.1, x.2.2.2.2.2.2.2.2.1, x.2.2.2.2.2.2.2.2.2.1, x.2.2.2.2.2.2.2.2.2.2.1, x.2.2.2.2.2.2.2.2.2.2.2) r h W0 w0 S hS HLV)
def law_L15 (x : Int × Int × Bool × (List Int) × (List S36)) : Option (Bool) :=
  (cpOf (x.1, x.2.1, x.2.2.1, x.2.2.2.1, x.2.2.2.2)) >>= fun y22 =>
  if y22.2.2.2.2.2.2.2.2.2.2.2.2 = 0 then
    (cpTree (y22.1, y22.2.1, y22.2.2.1, y22.2.2.2.1, y22.2.2.2.2.1, y22.2.2.2.2.2.1)) >>= fun y23 =>
    if y23.2.2.2.2.2 = 0 then
      (sameT (y23.1, y23.2.1, y23.2.2.1, y23.2.2.2.1, y23.2.2.2.2.1, x.1, x.2.1, x.2.2.1, x.2.2.2.1, x.2.2.2.2)) >>= fun y24 =>
      if y24 = true then
        (zeroC (y22.2.2.2.2.2.2.1, y22.2.2.2.2.2.2.2.1, y22.2.2.2.2.2.2.2.2.1, y22.2.2.2.2.2.2.2.2.2.1, y22.2.2.2.2.2.2.2.2.2.2.1, y22.2.2.2.2.2.2.2.2.2.2.2.1)) >>= fun y25 =>
        if y25 = true then
          law_L16 true
        else
          law_L16 false
      else
        law_L16 false
    else
      law_L16 false
  else
    if (!decide (y22.2.2.2.2.2.2.2.2.2.2.2.2 = 4)) = true then
      law_L17 (true, x.1, x.2.1, x.2.2.1, x.2.2.2.1, x.2.2.2.2, y22.2.2.2.2.2.2.1, y22.2.2.2.2.2.2.2.1, y22.2.2.2.2.2.2.2.2.1, y22.2.2.2.2.2.2.2.2.2.1, y22.2.2.2.2.2.2.2.2.2.2.1, y22.2.2.2.2.2.2.2.2.2.2.2.1)
    else
      (zeroC (y22.1, y22.2.1, y22.2.2.1, y22.2.2.2.1, y22.2.2.2.2.1, y22.2.2.2.2.2.1)) >>= fun y26 =>
      law_L17 ((!y26), x.1, x.2.1, x.2.2.1, x.2.2.2.1, x.2.2.2.2, y22.2.2.2.2.2.2.1, y22.2.2.2.2.2.2.2.1, y22.2.2.2.2.2.2.2.2.1, y22.2.2.2.2.2.2.2.2.2.1, y22.2.2.2.2.2.2.2.2.2.2.1, y22.2.2.2.2.2.2.2.2.2.2.2.1)
theorem law_L15_ok : ∀ (x : Int × Int × Bool × (List Int) × (List S36)) (r : Bool), law_L15 x = some r → ∀ (W0 w0 : World) (S : Own), Std W0 w0 S 0 → PTo Tryd.prog W0 29 #[] (.returned (.bool true)) → H Tryd.prog w0 S 234 (cR (cR (cR (cR (cR (cR (cB Tryd.f7))))))) (mkS [(9, .pointer (some ⟨0, 0, none⟩))] [(0, .cells [.int .u8 x.1, .int .u32 x.2.1, .bool x.2.2.1, ls 1 false (encI .u8) x.2.2.2.1, ls 5 false enc36 x.2.2.2.2] 36 5)] 1 []) (KEnd Tryd.prog Tryd.f7 (PEnd w0 S (.returned (.bool r)))) := by
  intro x r h
  unfold law_L15 at h
  intro W0 w0 S hS
  intro HLV
  haveI := hS.noEx Tryd.prog
  refine H.sg' ?_
  refine HO.go' 1 ?_
  obtain ⟨y22, hy, h⟩ := bindS h
  refine HO.callW hS [.agg [.keep, .keep, .keep, .list 1 false, .list 5 false]] (cpOf_ok (x.1, x.2.1, x.2.2.1, x.2.2.2.1, x.2.2.2.2) y22 hy W0) (by kernel_rfl) (by kernel_rfl) ?_
  refine HO.fin' 9 ?_
  refine H.seq' ?_
  refine H.sr' 2 ?_
  refine H.cS' (decide (y22.2.2.2.2.2.2.2.2.2.2.2.2 = 0)) (fun hb => ?_) (fun hb => ?_)
  rotate_left
  · rw [if_neg (of_decide_eq_false hb)] at h
    refine H.skp' ?_
    refine Kseq_norm ?_
    refine H.seq' ?_
    refine H.sg' ?_
    refine HO.go' 2 ?_
    refine HO.bo' (!decide (y22.2.2.2.2.2.2.2.2.2.2.2.2 = 4)) (fun hb => ?_) (fun hb => ?_)
    · rw [if_pos hb] at h
      refine HO.fin' 4 ?_
      exact H.ren' hS [0, 2] (law_L17_ok (true, x.1, x.2.1, x.2.2.1, x.2.2.2.1, x.2.2.2.2, y22.2.2.2.2.2.2.1, y22.2.2.2.2.2.2.2.1, y22.2.2.2.2.2.2.2.2.1, y22.2.2.2.2.2.2.2.2.2.1, y22.2.2.2.2.2.2.2.2.2.2.1, y22.2.2.2.2.2.2.2.2.2.2.2.1) r h W0 w0 S hS HLV)
    rw [if_neg (ne_true hb)] at h
    refine HO.go' 1 ?_
    obtain ⟨y26, hy, h⟩ := bindS h
    refine HO.callW hS [.agg [.keep, .keep, .keep, .keep, .keep, .list 1 false]] (zeroC_ok (y22.1, y22.2.1, y22.2.2.1, y22.2.2.2.1, y22.2.2.2.2.1, y22.2.2.2.2.2.1) y26 hy W0) (by kernel_rfl) (by kernel_rfl) ?_
    refine HO.fin' 2 ?_
    exact H.ren' hS [0, 2] (law_L17_ok ((!y26), x.1, x.2.1, x.2.2.1, x.2.2.2.1, x.2.2.2.2, y22.2.2.2.2.2.2.1, y22.2.2.2.2.2.2.2.1, y22.2.2.2.2.2.2.2.2.1, y22.2.2.2.2.2.2.2.2.2.1, y22.2.2.2.2.2.2.2.2.2.2.1, y22.2.2.2.2.2.2.2.2.2.2.2.1) r h W0 w0 S hS HLV)
  rw [if_pos (of_decide_eq_true hb)] at h
  refine H.sg' ?_
  refine HO.go' 1 ?_
  obtain ⟨y23, hy, h⟩ := bindS h
  refine HO.callW hS [.agg [.keep, .keep, .keep, .keep, .keep, .list 1 false]] (cpTree_ok (y22.1, y22.2.1, y22.2.2.1, y22.2.2.2.1, y22.2.2.2.2.1, y22.2.2.2.2.2.1) y23 hy W0) (by kernel_rfl) (by kernel_rfl) ?_
  refine HO.fin' 6 ?_
  refine H.sg' ?_
  refine HO.go' 2 ?_
  refine HO.bo' (decide (y23.2.2.2.2.2 = 0)) (fun hb => ?_) (fun hb => ?_)
  rotate_left
  · rw [if_neg (of_decide_eq_false hb)] at h
    refine HO.fin' 12 ?_
    exact H.ren' hS [] (law_L16_ok false r h W0 w0 S hS HLV)
  rw [if_pos (of_decide_eq_true hb)] at h
  refine HO.go' 2 ?_
  obtain ⟨y24, hy, h⟩ := bindS h
  refine HO.callW hS [.agg [.keep, .keep, .keep, .list 1 false, .list 5 false], .agg [.keep, .keep, .keep, .list 1 false, .list 5 false]] (sameT_ok (y23.1, y23.2.1, y23.2.2.1, y23.2.2.2.1, y23.2.2.2.2.1, x.1, x.2.1, x.2.2.1, x.2.2.2.1, x.2.2.2.2) y24 hy W0) (by kernel_rfl) (by kernel_rfl) ?_
  refine HO.go' 1 ?_
  refine HO.bo' y24 (fun hb => ?_) (fun hb => ?_)
  rotate_left
  · rw [if_neg (ne_true hb)] at h
    refine HO.fin' 7 ?_
    exact H.ren' hS [] (law_L16_ok false r h W0 w0 S hS HLV)
  rw [if_pos hb] at h
  refine HO.go' 1 ?_
  obtain ⟨y25, hy, h⟩ := bindS h
  refine HO.callW hS [.agg [.keep, .keep, .keep, .keep, .keep, .list 1 false]] (zeroC_ok (y22.2.2.2.2.2.2.1, y22.2.2.2.2.2.2.2.1, y22.2.2.2.2.2.2.2.2.1, y22.2.2.2.2.2.2.2.2.2.1, y22.2.2.2.2.2.2.2.2.2.2.1, y22.2.2.2.2.2.2.2.2.2.2.2.1) y25 hy W0) (by kernel_rfl) (by kernel_rfl) ?_
  refine HO.go' 1 ?_
  refine HO.bo' y25 (fun hb => ?_) (fun hb => ?_)
  rotate_left
  · rw [if_neg (ne_true hb)] at h
    refine HO.fin' 3 ?_
    exact H.ren' hS [] (law_L16_ok false r h W0 w0 S hS HLV)
  rw [if_pos hb] at h
  refine HO.callW hS [] HLV (by kernel_rfl) (by kernel_rfl) ?_
  refine HO.fin' 2 ?_
  exact H.ren' hS [] (law_L16_ok true r h W0 w0 S hS HLV)
def law_L12 (x : Int × Int × Bool × (List Int) × (List S36) × Int × Int × Int × Bool × (List Int) × (List S36) × Int × Int × Bool × (List Int) × (List S36) × Int × Int × Bool × (List Int) × (List S36)) : Option (Bool) :=
  law_L15 (2, x.2.2.2.2.2.1, true, [], [(S36.mk x.2.2.2.2.2.2.1 x.2.2.2.2.2.2.2.1 x.2.2.2.2.2.2.2.2.1 x.2.2.2.2.2.2.2.2.2.1 x.2.2.2.2.2.2.2.2.2.2.1), (S36.mk x.2.2.2.2.2.2.2.2.2.2.2.1 x.2.2.2.2.2.2.2.2.2.2.2.2.1 x.2.2.2.2.2.2.2.2.2.2.2.2.2.1 x.2.2.2.2.2.2.2.2.2.2.2.2.2.2.1 x.2.2.2.2.2.2.2.2.2.2.2.2.2.2.2.1), (S36.mk x.2.2.2.2.2.2.2.2.2.2.2.2.2.2.2.2.1 x.2.2.2.2.2.2.2.2.2.2.2.2.2.2.2.2.2.1 x.2.2.2.2.2.2.2.2.2.2.2.2.2.2.2.2.2.2.1 x.2.2.2.2.2.2.2.2.2.2.2.2.2.2.2.2.2.2.2.1 x.2.2.2.2.2.2.2.2.2.2.2.2.2.2.2.2.2.2.2.2)])
theorem law_L12_ok : ∀ (x : Int × Int × Bool × (List Int) × (List S36) × Int × Int × Int × Bool × (List Int) × (List S36) × Int × Int × Bool × (List Int) × (List S36) × Int × Int × Bool × (List Int) × (List S36)) (r : Bool), law_L12 x = some r → ∀ (W0 w0 : World) (S : Own), Std W0 w0 S 0 → PTo Tryd.prog W0 29 #[] (.returned (.bool true)) → H Tryd.prog w0 S 234 (cR (cR (cR (cL (cR (cL (cR (cR (cR (cR (cR (cB Tryd.f7)))))))))))) (mkS [(9, .pointer (some ⟨0, 0, none⟩)), (10, .pointer (some ⟨1, 0, none⟩))] [(0, .cells [.int .u8 x.1, .int .u32 x.2.1, .bool x.2.2.1, ls 1 false (encI .u8) x.2.2.2.1, ls 5 false enc36 x.2.2.2.2.1] 36 5), (1, .cells [.int .u8 2, .int .u32 x.2.2.2.2.2.1, .bool true, .slice none 0 0, .slice (some ⟨2, 0, none⟩) 3 1180591620717411303424] 36 5), (2, .cells [.int .u8 x.2.2.2.2.2.2.1, .int .u32 x.2.2.2.2.2.2.2.1, .bool x.2.2.2.2.2.2.2.2.1, ls 1 false (encI .u8) x.2.2.2.2.2.2.2.2.2.1, ls 5 false enc36 x.2.2.2.2.2.2.2.2.2.2.1, .int .u8 x.2.2.2.2.2.2.2.2.2.2.2.1, .int .u32 x.2.2.2.2.2.2.2.2.2.2.2.2.1, .bool x.2.2.2.2.2.2.2.2.2.2.2.2.2.1, ls 1 false (encI .u8) x.2.2.2.2.2.2.2.2.2.2.2.2.2.2.1, ls 5 false enc36 x.2.2.2.2.2.2.2.2.2.2.2.2.2.2.2.1, .int .u8 x.2.2.2.2.2.2.2.2.2.2.2.2.2.2.2.2.1, .int .u32 x.2.2.2.2.2.2.2.2.2.2.2.2.2.2.2.2.2.1, .bool x.2.2.2.2.2.2.2.2.2.2.2.2.2.2.2.2.2.2.1, ls 1 false (encI .u8) x.2.2.2.2.2.2.2.2.2.2.2.2.2.2.2.2.2.2.2.1, ls 5 false enc36 x.2.2.2.2.2.2.2.2.2.2.2.2.2.2.2.2.2.2.2.2] 36 5)] 3 []) (Kseq Tryd.prog w0 S 234 (cR (cR (cR (cR (cR (cR (cB Tryd.f7))))))) (KEnd Tryd.prog Tryd.f7 (PEnd w0 S (.returned (.bool r))))) := by
  intro x r h
  unfold law_L12 at h
  intro W0 w0 S hS
  intro HLV
  haveI := hS.noEx Tryd.prog
  refine H.reg' ?_
  refine HO.fin' 2 ?_
  refine H.wkc 0 36 5 3 [.int .u8 2, .int .u32 x.2.2.2.2.2.1, .bool true, .slice none 0 0, .slice (some ⟨2, 0, none⟩) 3 1180591620717411303424] (.slice none 0 0) (ls 1 false (encI .u8) []) (.list 1 false) (by kernel_rfl) ?_
  refine H.frcE 0 36 5 4 [.int .u8 2, .int .u32 x.2.2.2.2.2.1, .bool true, ls 1 false (encI .u8) [], .slice (some ⟨2, 0, none⟩) 3 1180591620717411303424] 2 3 1180591620717411303424 5 36 false ([(S36.mk x.2.2.2.2.2.2.1 x.2.2.2.2.2.2.2.1 x.2.2.2.2.2.2.2.2.1 x.2.2.2.2.2.2.2.2.2.1 x.2.2.2.2.2.2.2.2.2.2.1), (S36.mk x.2.2.2.2.2.2.2.2.2.2.2.1 x.2.2.2.2.2.2.2.2.2.2.2.2.1 x.2.2.2.2.2.2.2.2.2.2.2.2.2.1 x.2.2.2.2.2.2.2.2.2.2.2.2.2.2.1 x.2.2.2.2.2.2.2.2.2.2.2.2.2.2.2.1), (S36.mk x.2.2.2.2.2.2.2.2.2.2.2.2.2.2.2.2.1 x.2.2.2.2.2.2.2.2.2.2.2.2.2.2.2.2.2.1 x.2.2.2.2.2.2.2.2.2.2.2.2.2.2.2.2.2.2.1 x.2.2.2.2.2.2.2.2.2.2.2.2.2.2.2.2.2.2.2.1 x.2.2.2.2.2.2.2.2.2.2.2.2.2.2.2.2.2.2.2.2)].map enc36).toArray #[.agg #[.int .u8 x.2.2.2.2.2.2.1, .int .u32 x.2.2.2.2.2.2.2.1, .bool x.2.2.2.2.2.2.2.2.1, ls 1 false (encI .u8) x.2.2.2.2.2.2.2.2.2.1, ls 5 false enc36 x.2.2.2.2.2.2.2.2.2.2.1], .agg #[.int .u8 x.2.2.2.2.2.2.2.2.2.2.2.1, .int .u32 x.2.2.2.2.2.2.2.2.2.2.2.2.1, .bool x.2.2.2.2.2.2.2.2.2.2.2.2.2.1, ls 1 false (encI .u8) x.2.2.2.2.2.2.2.2.2.2.2.2.2.2.1, ls 5 false enc36 x.2.2.2.2.2.2.2.2.2.2.2.2.2.2.2.1], .agg #[.int .u8 x.2.2.2.2.2.2.2.2.2.2.2.2.2.2.2.2.1, .int .u32 x.2.2.2.2.2.2.2.2.2.2.2.2.2.2.2.2.2.1, .bool x.2.2.2.2.2.2.2.2.2.2.2.2.2.2.2.2.2.2.1, ls 1 false (encI .u8) x.2.2.2.2.2.2.2.2.2.2.2.2.2.2.2.2.2.2.2.1, ls 5 false enc36 x.2.2.2.2.2.2.2.2.2.2.2.2.2.2.2.2.2.2.2.2]] [.int .u8 x.2.2.2.2.2.2.1, .int .u32 x.2.2.2.2.2.2.2.1, .bool x.2.2.2.2.2.2.2.2.1, ls 1 false (encI .u8) x.2.2.2.2.2.2.2.2.2.1, ls 5 false enc36 x.2.2.2.2.2.2.2.2.2.2.1, .int .u8 x.2.2.2.2.2.2.2.2.2.2.2.1, .int .u32 x.2.2.2.2.2.2.2.2.2.2.2.2.1, .bool x.2.2.2.2.2.2.2.2.2.2.2.2.2.1, ls 1 false (encI .u8) x.2.2.2.2.2.2.2.2.2.2.2.2.2.2.1, ls 5 false enc36 x.2.2.2.2.2.2.2.2.2.2.2.2.2.2.2.1, .int .u8 x.2.2.2.2.2.2.2.2.2.2.2.2.2.2.2.2.1, .int .u32 x.2.2.2.2.2.2.2.2.2.2.2.2.2.2.2.2.2.1, .bool x.2.2.2.2.2.2.2.2.2.2.2.2.2.2.2.2.2.2.1, ls 1 false (encI .u8) x.2.2.2.2.2.2.2.2.2.2.2.2.2.2.2.2.2.2.2.1, ls 5 false enc36 x.2.2.2.2.2.2.2.2.2.2.2.2.2.2.2.2.2.2.2.2] (by simp only [List.map_cons, List.map_nil, enc36_eq]) (by kernel_rfl) ?_
  exact H.ren' hS [0] (law_L15_ok (2, x.2.2.2.2.2.1, true, [], [(S36.mk x.2.2.2.2.2.2.1 x.2.2.2.2.2.2.2.1 x.2.2.2.2.2.2.2.2.1 x.2.2.2.2.2.2.2.2.2.1 x.2.2.2.2.2.2.2.2.2.2.1), (S36.mk x.2.2.2.2.2.2.2.2.2.2.2.1 x.2.2.2.2.2.2.2.2.2.2.2.2.1 x.2.2.2.2.2.2.2.2.2.2.2.2.2.1 x.2.2.2.2.2.2.2.2.2.2.2.2.2.2.1 x.2.2.2.2.2.2.2.2.2.2.2.2.2.2.2.1), (S36.mk x.2.2.2.2.2.2.2.2.2.2.2.2.2.2.2.2.1 x.2.2.2.2.2.2.2.2.2.2.2.2.2.2.2.2.2.1 x.2.2.2.2.2.2.2.2.2.2.2.2.2.2.2.2.2.2.1 x.2.2.2.2.2.2.2.2.2.2.2.2.2.2.2.2.2.2.2.1 x.2.2.2.2.2.2.2.2.2.2.2.2.2.2.2.2.2.2.2.2)]) r h W0 w0 S hS HLV)
end Vf
