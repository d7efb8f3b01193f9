import Derived.Test.YtcokmnpgeokfpaaDoorVfWb
set_option linter.unusedVariables false
set_option linter.unusedSimpArgs false
set_option maxHeartbeats 4000000
namespace Vf
open Go Go.Vx Go.Proofs
def cpOf_L6 (x : Int × Int × Bool × (List Int) × (List S36) × Int) : Option (Int × Int × Int × Int × Int × (List Int) × Int × Int × Int × Int × Int × (List Int) × Int) :=
  if 0 < (x.2.2.2.2.1.length : Int) then
    (at' x.2.2.2.2.1 0) >>= fun y4 =>
    (valueC (y4.c0, y4.c1, y4.c2, y4.c3, y4.c4, 0, 2, 0, 127)) >>= fun y5 =>
    if y5.2 = true then
      cpOf_L7 (y5.1, x.2.2.2.2.2)
    else
      cpOf_L7 ((-1), x.2.2.2.2.2)
  else
    cpOf_L7 ((-1), x.2.2.2.2.2)
theorem cpOf_L6_ok : ∀ (x : Int × Int × Bool × (List Int) × (List S36) × Int) (r : Int × Int × Int × Int × Int × (List Int) × Int × Int × Int × Int × Int × (List Int) × Int), cpOf_L6 x = some r → ∀ (W0 w0 : World) (S : Own), Std W0 w0 S 0 → H Tryd.prog w0 S 75 (cR (cR (cR (cR (cR (cR (cB Tryd.f32))))))) (mkS [(1, .pointer (some ⟨0, 0, none⟩)), (2, .pointer (some ⟨1, 0, none⟩)), (3, .pointer (some ⟨2, 0, none⟩))] [(0, .cells [.int .u8 x.1, .int .u32 x.2.1, .bool x.2.2.1, ls 1 false (encI .u8) x.2.2.2.1, ls 5 false enc36 x.2.2.2.2.1] 36 5), (1, .cells [.int .u8 0, .int .i64 0, .int .i64 0, .int .i64 0, .int .u8 0, .slice none 0 0] 70 6), (2, .cells [.int .u8 5, .int .i64 (-1), .int .i64 0, .int .i64 0, .int .u8 x.2.2.2.2.2, .slice none 0 0] 70 6)] 3 []) (KEnd Tryd.prog Tryd.f32 (PEnd w0 S (.returned (.tuple #[.agg #[.int .u8 r.1, .int .i64 r.2.1, .int .i64 r.2.2.1, .int .i64 r.2.2.2.1, .int .u8 r.2.2.2.2.1, ls 1 false (encI .u8) r.2.2.2.2.2.1], .agg #[.int .u8 r.2.2.2.2.2.2.1, .int .i64 r.2.2.2.2.2.2.2.1, .int .i64 r.2.2.2.2.2.2.2.2.1, .int .i64 r.2.2.2.2.2.2.2.2.2.1, .int .u8 r.2.2.2.2.2.2.2.2.2.2.1, ls 1 false (encI .u8) r.2.2.2.2.2.2.2.2.2.2.2.1], .int .i64 r.2.2.2.2.2.2.2.2.2.2.2.2])))) := by
  intro x r h
  unfold cpOf_L6 at h
  intro W0 w0 S hS
  haveI := hS.noEx Tryd.prog
  refine H.seqP (by kernel_rfl) ?_
  refine H.sg (by kernel_rfl) ?_
  refine HO.goP 2 (by kernel_rfl) ?_
  refine HO.len (by kernel_rfl) (by kernel_rfl) (ls_size enc36 x.2.2.2.2.1) ?_
  refine HO.fin 1 (by kernel_rfl) ?_
  refine H.condS (b := decide (0 < (x.2.2.2.2.1.length : Int))) (by kernel_rfl) (by kernel_rfl) (fun hb => ?_) (fun hb => ?_)
  rotate_left
  · rw [if_neg (of_decide_eq_false hb)] at h
    refine H.skipP (by kernel_rfl) ?_
    refine Kseq_norm ?_
    exact H.ren hS [1, 2] _ _ _ (by kernel_rfl) (cpOf_L7_ok ((-1), x.2.2.2.2.2) r h W0 w0 S hS)
  rw [if_pos (of_decide_eq_true hb)] at h
  refine H.sg (by kernel_rfl) ?_
  refine HO.goP 2 (by kernel_rfl) ?_
  obtain ⟨y4, hy, h⟩ := bindS h
  refine HO.idx (.agg #[.int .u8 y4.c0, .int .u32 y4.c1, .bool y4.c2, ls 1 false (encI .u8) y4.c3, ls 5 false enc36 y4.c4]) hy (enc36_eq y4) (by kernel_rfl) ?_
  refine HO.goP 1 (by kernel_rfl) ?_
  obtain ⟨y5, hy, h⟩ := bindS h
  refine HO.callW hS [.agg [.keep, .keep, .keep, .list 1 false, .list 5 false], .keep, .keep, .keep, .keep] (valueC_ok (y4.c0, y4.c1, y4.c2, y4.c3, y4.c4, 0, 2, 0, 127) y5 hy W0) (by kernel_rfl) (by kernel_rfl) ?_
  refine HO.fin 5 (by kernel_rfl) ?_
  refine H.sr 1 (by kernel_rfl) ?_
  refine H.condS (b := y5.2) (by kernel_rfl) (by kernel_rfl) (fun hb => ?_) (fun hb => ?_)
  rotate_left
  · rw [if_neg (ne_true hb)] at h
    refine H.skipP (by kernel_rfl) ?_
    refine Kseq_norm ?_
    exact H.ren hS [1, 2] _ _ _ (by kernel_rfl) (cpOf_L7_ok ((-1), x.2.2.2.2.2) r h W0 w0 S hS)
  rw [if_pos hb] at h
  refine H.regP (by kernel_rfl) ?_
  refine HO.fin 3 (by kernel_rfl) ?_
  exact H.ren hS [1, 2] _ _ _ (by kernel_rfl) (cpOf_L7_ok (y5.1, x.2.2.2.2.2) r h W0 w0 S hS)
def cpOf_L5 (x : Bool × Bool × Int × Int × Bool × (List Int) × (List S36)) : Option (Int × Int × Int × Int × Int × (List Int) × Int × Int × Int × Int × Int × (List Int) × Int) :=
  if x.2.1 = true then
    some (0, 0, 0, 0, 0, [], 0, 0, 0, 0, 0, [], 4)
  else
    if (!x.1) = true then
      cpOf_L6 (x.2.2.1, x.2.2.2.1, x.2.2.2.2.1, x.2.2.2.2.2.1, x.2.2.2.2.2.2, 1)
    else
      cpOf_L6 (x.2.2.1, x.2.2.2.1, x.2.2.2.2.1, x.2.2.2.2.2.1, x.2.2.2.2.2.2, 2)
theorem cpOf_L5_ok : ∀ (x : Bool × Bool × Int × Int × Bool × (List Int) × (List S36)) (r : Int × Int × Int × Int × Int × (List Int) × Int × Int × Int × Int × Int × (List Int) × Int), cpOf_L5 x = some r → ∀ (W0 w0 : World) (S : Own), Std W0 w0 S 0 → H Tryd.prog w0 S 75 (cR (cL (cR (cR (cR (cB Tryd.f32)))))) (mkS [(1, .pointer (some ⟨0, 0, none⟩)), (2, .pointer (some ⟨1, 0, none⟩)), (3, .pointer (some ⟨2, 0, none⟩)), (5, .bool x.1), (51, .bool x.2.1)] [(0, .cells [.int .u8 x.2.2.1, .int .u32 x.2.2.2.1, .bool x.2.2.2.2.1, ls 1 false (encI .u8) x.2.2.2.2.2.1, ls 5 false enc36 x.2.2.2.2.2.2] 36 5), (1, .cells [.int .u8 0, .int .i64 0, .int .i64 0, .int .i64 0, .int .u8 0, .slice none 0 0] 70 6), (2, .cells [.int .u8 0, .int .i64 0, .int .i64 0, .int .i64 0, .int .u8 0, .slice none 0 0] 70 6)] 3 []) (Kseq Tryd.prog w0 S 75 (cR (cR (cR (cR (cB Tryd.f32))))) (KEnd Tryd.prog Tryd.f32 (PEnd w0 S (.returned (.tuple #[.agg #[.int .u8 r.1, .int .i64 r.2.1, .int .i64 r.2.2.1, .int .i64 r.2.2.2.1, .int .u8 r.2.2.2.2.1, ls 1 false (encI .u8) r.2.2.2.2.2.1], .agg #[.int .u8 r.2.2.2.2.2.2.1, .int .i64 r.2.2.2.2.2.2.2.1, .int .i64 r.2.2.2.2.2.2.2.2.1, .int .i64 r.2.2.2.2.2.2.2.2.2.1, .int .u8 r.2.2.2.2.2.2.2.2.2.2.1, ls 1 false (encI .u8) r.2.2.2.2.2.2.2.2.2.2.2.1], .int .i64 r.2.2.2.2.2.2.2.2.2.2.2.2]))))) := by
  intro x r h
  unfold cpOf_L5 at h
  intro W0 w0 S hS
  haveI := hS.noEx Tryd.prog
  refine H.condS (b := x.2.1) (by kernel_rfl) (by kernel_rfl) (fun hb => ?_) (fun hb => ?_)
  · rw [if_pos hb] at h
    refine H.sr 5 (by kernel_rfl) ?_
    refine H.retP (by kernel_rfl) ?_
    refine Kseq_ret ?_
    obtain rfl := Option.some.inj h
    exact KEnd.retW (v := .tuple #[.agg #[.int .u8 0, .int .i64 0, .int .i64 0, .int .i64 0, .int .u8 0, .slice none 0 0], .agg #[.int .u8 0, .int .i64 0, .int .i64 0, .int .i64 0, .int .u8 0, .slice none 0 0], .int .i64 4]) (.tuple [.agg [.keep, .keep, .keep, .keep, .keep, .list 1 false], .agg [.keep, .keep, .keep, .keep, .keep, .list 1 false], .keep]) (by kernel_rfl) (by kernel_rfl) (by kernel_rfl) (by kernel_rfl)
  rw [if_neg (ne_true hb)] at h
  refine H.skipP (by kernel_rfl) ?_
  refine Kseq_norm ?_
  refine H.sr 2 (by kernel_rfl) ?_
  refine H.seqP (by kernel_rfl) ?_
  refine H.sr 2 (by kernel_rfl) ?_
  refine H.condS (b := !x.1) (by kernel_rfl) (by kernel_rfl) (fun hb => ?_) (fun hb => ?_)
  rotate_left
  · rw [if_neg (ne_true hb)] at h
    refine H.skipP (by kernel_rfl) ?_
    refine Kseq_norm ?_
    exact H.ren hS [0, 1, 2] _ _ _ (by kernel_rfl) (cpOf_L6_ok (x.2.2.1, x.2.2.2.1, x.2.2.2.2.1, x.2.2.2.2.2.1, x.2.2.2.2.2.2, 2) r h W0 w0 S hS)
  rw [if_pos hb] at h
  refine H.regP (by kernel_rfl) ?_
  refine HO.fin 2 (by kernel_rfl) ?_
  exact H.ren hS [0, 1, 2] _ _ _ (by kernel_rfl) (cpOf_L6_ok (x.2.2.1, x.2.2.2.1, x.2.2.2.2.1, x.2.2.2.2.2.1, x.2.2.2.2.2.2, 1) r h W0 w0 S hS)
def cpOf_L4 (x : Bool × Int × Int × Bool × (List Int) × (List S36)) : Option (Int × Int × Int × Int × Int × (List Int) × Int × Int × Int × Int × Int × (List Int) × Int) :=
  if x.1 = true then
    cpOf_L5 (x.1, (decide (x.2.2.1 = 5)), x.2.1, x.2.2.1, x.2.2.2.1, x.2.2.2.2.1, x.2.2.2.2.2)
  else
    cpOf_L5 (x.1, false, x.2.1, x.2.2.1, x.2.2.2.1, x.2.2.2.2.1, x.2.2.2.2.2)
theorem cpOf_L4_ok : ∀ (x : Bool × Int × Int × Bool × (List Int) × (List S36)) (r : Int × Int × Int × Int × Int × (List Int) × Int × Int × Int × Int × Int × (List Int) × Int), cpOf_L4 x = some r → ∀ (W0 w0 : World) (S : Own), Std W0 w0 S 0 → H Tryd.prog w0 S 75 (cR (cR (cR (cB Tryd.f32)))) (mkS [(1, .pointer (some ⟨0, 0, none⟩)), (2, .pointer (some ⟨1, 0, none⟩)), (3, .pointer (some ⟨2, 0, none⟩)), (5, .bool x.1)] [(0, .cells [.int .u8 x.2.1, .int .u32 x.2.2.1, .bool x.2.2.2.1, ls 1 false (encI .u8) x.2.2.2.2.1, ls 5 false enc36 x.2.2.2.2.2] 36 5), (1, .cells [.int .u8 0, .int .i64 0, .int .i64 0, .int .i64 0, .int .u8 0, .slice none 0 0] 70 6), (2, .cells [.int .u8 0, .int .i64 0, .int .i64 0, .int .i64 0, .int .u8 0, .slice none 0 0] 70 6)] 3 []) (KEnd Tryd.prog Tryd.f32 (PEnd w0 S (.returned (.tuple #[.agg #[.int .u8 r.1, .int .i64 r.2.1, .int .i64 r.2.2.1, .int .i64 r.2.2.2.1, .int .u8 r.2.2.2.2.1, ls 1 false (encI .u8) r.2.2.2.2.2.1], .agg #[.int .u8 r.2.2.2.2.2.2.1, .int .i64 r.2.2.2.2.2.2.2.1, .int .i64 r.2.2.2.2.2.2.2.2.1, .int .i64 r.2.2.2.2.2.2.2.2.2.1, .int .u8 r.2.2.2.2.2.2.2.2.2.2.1, ls 1 false (encI .u8) r.2.2.2.2.2.2.2.2.2.2.2.1], .int .i64 r.2.2.2.2.2.2.2.2.2.2.2.2])))) := by
  intro x r h
  unfold cpOf_L4 at h
  intro W0 w0 S hS
  haveI := hS.noEx Tryd.prog
  refine H.seqP (by kernel_rfl) ?_
  refine H.sg (by kernel_rfl) ?_
  refine HO.goP 1 (by kernel_rfl) ?_
  refine HO.boolP x.1 (by kernel_rfl) (by kernel_rfl) (fun hb => ?_) (fun hb => ?_)
  · rw [if_pos hb] at h
    refine HO.fin 4 (by kernel_rfl) ?_
    exact H.ren hS [0, 1, 2] _ _ _ (by kernel_rfl) (cpOf_L5_ok (x.1, (decide (x.2.2.1 = 5)), x.2.1, x.2.2.1, x.2.2.2.1, x.2.2.2.2.1, x.2.2.2.2.2) r h W0 w0 S hS)
  rw [if_neg (ne_true hb)] at h
  refine HO.fin 4 (by kernel_rfl) ?_
  exact H.ren hS [0, 1, 2] _ _ _ (by kernel_rfl) (cpOf_L5_ok (x.1, false, x.2.1, x.2.2.1, x.2.2.2.1, x.2.2.2.2.1, x.2.2.2.2.2) r h W0 w0 S hS)
def cpOf_L3 (x : Bool × Bool × Int × Int × Bool × (List Int) × (List S36) × Int × Int × Int × Int × Int × (List Int)) : Option (Int × Int × Int × Int × Int × (List Int) × Int × Int × Int × Int × Int × (List Int) × Int) :=
  if x.2.1 = true then
    some (x.2.2.2.2.2.2.2.1, x.2.2.2.2.2.2.2.2.1, x.2.2.2.2.2.2.2.2.2.1, x.2.2.2.2.2.2.2.2.2.2.1, x.2.2.2.2.2.2.2.2.2.2.2.1, x.2.2.2.2.2.2.2.2.2.2.2.2, 0, 0, 0, 0, 0, [], 0)
  else
    cpOf_L4 (x.1, x.2.2.1, x.2.2.2.1, x.2.2.2.2.1, x.2.2.2.2.2.1, x.2.2.2.2.2.2.1)
theorem cpOf_L3_ok : ∀ (x : Bool × Bool × Int × Int × Bool × (List Int) × (List S36) × Int × Int × Int × Int × Int × (List Int)) (r : Int × Int × Int × Int × Int × (List Int) × Int × Int × Int × Int × Int × (List Int) × Int), cpOf_L3 x = some r → ∀ (W0 w0 : World) (S : Own), Std W0 w0 S 0 → H Tryd.prog w0 S 75 (cR (cR (cL (cR (cL (cR (cR (cB Tryd.f32)))))))) (mkS [(1, .pointer (some ⟨0, 0, none⟩)), (2, .pointer (some ⟨1, 0, none⟩)), (3, .pointer (some ⟨2, 0, none⟩)), (5, .bool x.1), (6, .pointer (some ⟨3, 0, none⟩)), (43, .bool x.2.1)] [(0, .cells [.int .u8 x.2.2.1, .int .u32 x.2.2.2.1, .bool x.2.2.2.2.1, ls 1 false (encI .u8) x.2.2.2.2.2.1, ls 5 false enc36 x.2.2.2.2.2.2.1] 36 5), (1, .cells [.int .u8 0, .int .i64 0, .int .i64 0, .int .i64 0, .int .u8 0, .slice none 0 0] 70 6), (2, .cells [.int .u8 0, .int .i64 0, .int .i64 0, .int .i64 0, .int .u8 0, .slice none 0 0] 70 6), (3, .cells [.int .u8 x.2.2.2.2.2.2.2.1, .int .i64 x.2.2.2.2.2.2.2.2.1, .int .i64 x.2.2.2.2.2.2.2.2.2.1, .int .i64 x.2.2.2.2.2.2.2.2.2.2.1, .int .u8 x.2.2.2.2.2.2.2.2.2.2.2.1, ls 1 false (encI .u8) x.2.2.2.2.2.2.2.2.2.2.2.2] 70 6)] 4 []) (Kseq Tryd.prog w0 S 75 (cR (cR (cR (cB Tryd.f32)))) (KEnd Tryd.prog Tryd.f32 (PEnd w0 S (.returned (.tuple #[.agg #[.int .u8 r.1, .int .i64 r.2.1, .int .i64 r.2.2.1, .int .i64 r.2.2.2.1, .int .u8 r.2.2.2.2.1, ls 1 false (encI .u8) r.2.2.2.2.2.1], .agg #[.int .u8 r.2.2.2.2.2.2.1, .int .i64 r.2.2.2.2.2.2.2.1, .int .i64 r.2.2.2.2.2.2.2.2.1, .int .i64 r.2.2.2.2.2.2.2.2.2.1, .int .u8 r.2.2.2.2.2.2.2.2.2.2.1, ls 1 false (encI .u8) r.2.2.2.2.2.2.2.2.2.2.2.1], .int .i64 r.2.2.2.2.2.2.2.2.2.2.2.2]))))) := by
  intro x r h
  unfold cpOf_L3 at h
  intro W0 w0 S hS
  haveI := hS.noEx Tryd.prog
  refine H.condS (b := x.2.1) (by kernel_rfl) (by kernel_rfl) (fun hb => ?_) (fun hb => ?_)
  rotate_left
  · rw [if_neg (ne_true hb)] at h
    refine H.skipP (by kernel_rfl) ?_
    refine Kseq_norm ?_
    exact H.ren hS [0, 1, 2] _ _ _ (by kernel_rfl) (cpOf_L4_ok (x.1, x.2.2.1, x.2.2.2.1, x.2.2.2.2.1, x.2.2.2.2.2.1, x.2.2.2.2.2.2.1) r h W0 w0 S hS)
  rw [if_pos hb] at h
  refine H.sr 5 (by kernel_rfl) ?_
  refine H.retP (by kernel_rfl) ?_
  refine Kseq_ret ?_
  obtain rfl := Option.some.inj h
  exact KEnd.retW (v := .tuple #[.agg #[.int .u8 x.2.2.2.2.2.2.2.1, .int .i64 x.2.2.2.2.2.2.2.2.1, .int .i64 x.2.2.2.2.2.2.2.2.2.1, .int .i64 x.2.2.2.2.2.2.2.2.2.2.1, .int .u8 x.2.2.2.2.2.2.2.2.2.2.2.1, ls 1 false (encI .u8) x.2.2.2.2.2.2.2.2.2.2.2.2], .agg #[.int .u8 0, .int .i64 0, .int .i64 0, .int .i64 0, .int .u8 0, .slice none 0 0], .int .i64 0]) (.tuple [.agg [.keep, .keep, .keep, .keep, .keep, .list 1 false], .agg [.keep, .keep, .keep, .keep, .keep, .list 1 false], .keep]) (by kernel_rfl) (by kernel_rfl) (by kernel_rfl) (by kernel_rfl)
def cpOf_L2 (x : Bool × Bool × Int × Int × Bool × (List Int) × (List S36)) : Option (Int × Int × Int × Int × Int × (List Int) × Int × Int × Int × Int × Int × (List Int) × Int) :=
  if x.2.1 = true then
    (fieldsC (x.2.2.1, x.2.2.2.1, x.2.2.2.2.1, x.2.2.2.2.2.1, x.2.2.2.2.2.2)) >>= fun y2 =>
    if y2.2.2.2.2.2.2 = true then
      (cpCheck (y2.1, y2.2.1, y2.2.2.1, y2.2.2.2.1, y2.2.2.2.2.1, y2.2.2.2.2.2.1)) >>= fun y3 =>
      cpOf_L3 (x.1, (decide (y3 = 0)), x.2.2.1, x.2.2.2.1, x.2.2.2.2.1, x.2.2.2.2.2.1, x.2.2.2.2.2.2, y2.1, y2.2.1, y2.2.2.1, y2.2.2.2.1, y2.2.2.2.2.1, y2.2.2.2.2.2.1)
    else
      cpOf_L3 (x.1, false, x.2.2.1, x.2.2.2.1, x.2.2.2.2.1, x.2.2.2.2.2.1, x.2.2.2.2.2.2, y2.1, y2.2.1, y2.2.2.1, y2.2.2.2.1, y2.2.2.2.2.1, y2.2.2.2.2.2.1)
  else
    cpOf_L4 (x.1, x.2.2.1, x.2.2.2.1, x.2.2.2.2.1, x.2.2.2.2.2.1, x.2.2.2.2.2.2)
theorem cpOf_L2_ok : ∀ (x : Bool × Bool × Int × Int × Bool × (List Int) × (List S36)) (r : Int × Int × Int × Int × Int × (List Int) × Int × Int × Int × Int × Int × (List Int) × Int), cpOf_L2 x = some r → ∀ (W0 w0 : World) (S : Own), Std W0 w0 S 0 → H Tryd.prog w0 S 75 (cR (cL (cR (cR (cB Tryd.f32))))) (mkS [(1, .pointer (some ⟨0, 0, none⟩)), (2, .pointer (some ⟨1, 0, none⟩)), (3, .pointer (some ⟨2, 0, none⟩)), (5, .bool x.1), (32, .bool x.2.1)] [(0, .cells [.int .u8 x.2.2.1, .int .u32 x.2.2.2.1, .bool x.2.2.2.2.1, ls 1 false (encI .u8) x.2.2.2.2.2.1, ls 5 false enc36 x.2.2.2.2.2.2] 36 5), (1, .cells [.int .u8 0, .int .i64 0, .int .i64 0, .int .i64 0, .int .u8 0, .slice none 0 0] 70 6), (2, .cells [.int .u8 0, .int .i64 0, .int .i64 0, .int .i64 0, .int .u8 0, .slice none 0 0] 70 6)] 3 []) (Kseq Tryd.prog w0 S 75 (cR (cR (cR (cB Tryd.f32)))) (KEnd Tryd.prog Tryd.f32 (PEnd w0 S (.returned (.tuple #[.agg #[.int .u8 r.1, .int .i64 r.2.1, .int .i64 r.2.2.1, .int .i64 r.2.2.2.1, .int .u8 r.2.2.2.2.1, ls 1 false (encI .u8) r.2.2.2.2.2.1], .agg #[.int .u8 r.2.2.2.2.2.2.1, .int .i64 r.2.2.2.2.2.2.2.1, .int .i64 r.2.2.2.2.2.2.2.2.1, .int .i64 r.2.2.2.2.2.2.2.2.2.1, .int .u8 r.2.2.2.2.2.2.2.2.2.2.1, ls 1 false (encI .u8) r.2.2.2.2.2.2.2.2.2.2.2.1], .int .i64 r.2.2.2.2.2.2.2.2.2.2.2.2]))))) := by
  intro x r h
  unfold cpOf_L2 at h
  intro W0 w0 S hS
  haveI := hS.noEx Tryd.prog
  refine H.condS (b := x.2.1) (by kernel_rfl) (by kernel_rfl) (fun hb => ?_) (fun hb => ?_)
  rotate_left
  · rw [if_neg (ne_true hb)] at h
    refine H.skipP (by kernel_rfl) ?_
    refine Kseq_norm ?_
    exact H.ren hS [0, 1, 2] _ _ _ (by kernel_rfl) (cpOf_L4_ok (x.1, x.2.2.1, x.2.2.2.1, x.2.2.2.2.1, x.2.2.2.2.2.1, x.2.2.2.2.2.2) r h W0 w0 S hS)
  rw [if_pos hb] at h
  refine H.sg (by kernel_rfl) ?_
  refine HO.goP 1 (by kernel_rfl) ?_
  obtain ⟨y2, hy, h⟩ := bindS h
  refine HO.callW hS [.agg [.keep, .keep, .keep, .list 1 false, .list 5 false]] (fieldsC_ok (x.2.2.1, x.2.2.2.1, x.2.2.2.2.1, x.2.2.2.2.2.1, x.2.2.2.2.2.2) y2 hy W0) (by kernel_rfl) (by kernel_rfl) ?_
  refine HO.fin 6 (by kernel_rfl) ?_
  refine H.sg (by kernel_rfl) ?_
  refine HO.goP 1 (by kernel_rfl) ?_
  refine HO.boolP y2.2.2.2.2.2.2 (by kernel_rfl) (by kernel_rfl) (fun hb => ?_) (fun hb => ?_)
  rotate_left
  · rw [if_neg (ne_true hb)] at h
    refine HO.fin 4 (by kernel_rfl) ?_
    exact H.ren hS [0, 1, 2, 3] _ _ _ (by kernel_rfl) (cpOf_L3_ok (x.1, false, x.2.2.1, x.2.2.2.1, x.2.2.2.2.1, x.2.2.2.2.2.1, x.2.2.2.2.2.2, y2.1, y2.2.1, y2.2.2.1, y2.2.2.2.1, y2.2.2.2.2.1, y2.2.2.2.2.2.1) r h W0 w0 S hS)
  rw [if_pos hb] at h
  refine HO.goP 1 (by kernel_rfl) ?_
  obtain ⟨y3, hy, h⟩ := bindS h
  refine HO.callW hS [.agg [.keep, .keep, .keep, .keep, .keep, .list 1 false]] (cpCheck_ok (y2.1, y2.2.1, y2.2.2.1, y2.2.2.2.1, y2.2.2.2.2.1, y2.2.2.2.2.2.1) y3 hy W0) (by kernel_rfl) (by kernel_rfl) ?_
  refine HO.fin 2 (by kernel_rfl) ?_
  exact H.ren hS [0, 1, 2, 3] _ _ _ (by kernel_rfl) (cpOf_L3_ok (x.1, (decide (y3 = 0)), x.2.2.1, x.2.2.2.1, x.2.2.2.2.1, x.2.2.2.2.2.1, x.2.2.2.2.2.2, y2.1, y2.2.1, y2.2.2.1, y2.2.2.2.1, y2.2.2.2.2.1, y2.2.2.2.2.2.1) r h W0 w0 S hS)
def cpOf_L1 (x : Bool × Int × Int × Bool × (List Int) × (List S36)) : Option (Int × Int × Int × Int × Int × (List Int) × Int × Int × Int × Int × Int × (List Int) × Int) :=
  if x.1 = true then
    (check (x.2.1, x.2.2.1, x.2.2.2.1, x.2.2.2.2.1, x.2.2.2.2.2)) >>= fun y1 =>
    cpOf_L2 (x.1, (decide (y1 = 0)), x.2.1, x.2.2.1, x.2.2.2.1, x.2.2.2.2.1, x.2.2.2.2.2)
  else
    cpOf_L2 (x.1, false, x.2.1, x.2.2.1, x.2.2.2.1, x.2.2.2.2.1, x.2.2.2.2.2)
theorem cpOf_L1_ok : ∀ (x : Bool × Int × Int × Bool × (List Int) × (List S36)) (r : Int × Int × Int × Int × Int × (List Int) × Int × Int × Int × Int × Int × (List Int) × Int), cpOf_L1 x = some r → ∀ (W0 w0 : World) (S : Own), Std W0 w0 S 0 → H Tryd.prog w0 S 75 (cR (cR (cB Tryd.f32))) (mkS [(1, .pointer (some ⟨0, 0, none⟩)), (2, .pointer (some ⟨1, 0, none⟩)), (3, .pointer (some ⟨2, 0, none⟩)), (5, .bool x.1)] [(0, .cells [.int .u8 x.2.1, .int .u32 x.2.2.1, .bool x.2.2.2.1, ls 1 false (encI .u8) x.2.2.2.2.1, ls 5 false enc36 x.2.2.2.2.2] 36 5), (1, .cells [.int .u8 0, .int .i64 0, .int .i64 0, .int .i64 0, .int .u8 0, .slice none 0 0] 70 6), (2, .cells [.int .u8 0, .int .i64 0, .int .i64 0, .int .i64 0, .int .u8 0, .slice none 0 0] 70 6)] 3 []) (KEnd Tryd.prog Tryd.f32 (PEnd w0 S (.returned (.tuple #[.agg #[.int .u8 r.1, .int .i64 r.2.1, .int .i64 r.2.2.1, .int .i64 r.2.2.2.1, .int .u8 r.2.2.2.2.1, ls 1 false (encI .u8) r.2.2.2.2.2.1], .agg #[.int .u8 r.2.2.2.2.2.2.1, .int .i64 r.2.2.2.2.2.2.2.1, .int .i64 r.2.2.2.2.2.2.2.2.1, .int .i64 r.2.2.2.2.2.2.2.2.2.1, .int .u8 r.2.2.2.2.2.2.2.2.2.2.1, ls 1 false (encI .u8) r.2.2.2.2.2.2.2.2.2.2.2.1], .int .i64 r.2.2.2.2.2.2.2.2.2.2.2.2])))) := by
  intro x r h
  unfold cpOf_L1 at h
  intro W0 w0 S hS
  haveI := hS.noEx Tryd.prog
  refine H.seqP (by kernel_rfl) ?_
  refine H.sg (by kernel_rfl) ?_
  refine HO.goP 1 (by kernel_rfl) ?_
  refine HO.boolP x.1 (by kernel_rfl) (by kernel_rfl) (fun hb => ?_) (fun hb => ?_)
  rotate_left
  · rw [if_neg (ne_true hb)] at h
    refine HO.fin 4 (by kernel_rfl) ?_
    exact H.ren hS [0, 1, 2] _ _ _ (by kernel_rfl) (cpOf_L2_ok (x.1, false, x.2.1, x.2.2.1, x.2.2.2.1, x.2.2.2.2.1, x.2.2.2.2.2) r h W0 w0 S hS)
  rw [if_pos hb] at h
  refine HO.goP 1 (by kernel_rfl) ?_
  obtain ⟨y1, hy, h⟩ := bindS h
  refine HO.callW hS [.agg [.keep, .keep, .keep, .list 1 false, .list 5 false]] (check_ok (x.2.1, x.2.2.1, x.2.2.2.1, x.2.2.2.2.1, x.2.2.2.2.2) y1 hy W0) (by kernel_rfl) (by kernel_rfl) ?_
  refine HO.fin 2 (by kernel_rfl) ?_
  exact H.ren hS [0, 1, 2] _ _ _ (by kernel_rfl) (cpOf_L2_ok (x.1, (decide (y1 = 0)), x.2.1, x.2.2.1, x.2.2.2.1, x.2.2.2.2.1, x.2.2.2.2.2) r h W0 w0 S hS)
def cpOf (x : Int × Int × Bool × (List Int) × (List S36)) : Option (Int × Int × Int × Int × Int × (List Int) × Int × Int × Int × Int × Int × (List Int) × Int) :=
  if x.2.2.1 = true then
    if x.1 = 2 then
      if 1 ≤ x.2.1 then
        cpOf_L1 ((decide (x.2.1 ≤ 5)), x.1, x.2.1, x.2.2.1, x.2.2.2.1, x.2.2.2.2)
      else
        cpOf_L1 (false, x.1, x.2.1, x.2.2.1, x.2.2.2.1, x.2.2.2.2)
    else
      cpOf_L1 (false, x.1, x.2.1, x.2.2.1, x.2.2.2.1, x.2.2.2.2)
  else
    cpOf_L1 (false, x.1, x.2.1, x.2.2.1, x.2.2.2.1, x.2.2.2.2)
theorem cpOf_ok : ∀ (x : Int × Int × Bool × (List Int) × (List S36)) (r : Int × Int × Int × Int × Int × (List Int) × Int × Int × Int × Int × Int × (List Int) × Int), cpOf x = some r → ∀ W0 : World, PTo Tryd.prog W0 32 #[.agg #[.int .u8 x.1, .int .u32 x.2.1, .bool x.2.2.1, ls 1 false (encI .u8) x.2.2.2.1, ls 5 false enc36 x.2.2.2.2]] (.returned (.tuple #[.agg #[.int .u8 r.1, .int .i64 r.2.1, .int .i64 r.2.2.1, .int .i64 r.2.2.2.1, .int .u8 r.2.2.2.2.1, ls 1 false (encI .u8) r.2.2.2.2.2.1], .agg #[.int .u8 r.2.2.2.2.2.2.1, .int .i64 r.2.2.2.2.2.2.2.1, .int .i64 r.2.2.2.2.2.2.2.2.1, .int .i64 r.2.2.2.2.2.2.2.2.2.1, .int .u8 r.2.2.2.2.2.2.2.2.2.2.1, ls 1 false (encI .u8) r.2.2.2.2.2.2.2.2.2.2.2.1], .int .i64 r.2.2.2.2.2.2.2.2.2.2.2.2])) := by
  intro x r h
  unfold cpOf at h
  intro W0
  refine PTo.of_body (fn := Tryd.f32) (code := cB Tryd.f32) Tryd.func32 rfl rfl ?_
  intro w0 S hS
  haveI := hS.noEx Tryd.prog
  refine H.sr 4 (by kernel_rfl) ?_
  refine H.sg (by kernel_rfl) ?_
  refine HO.goP 2 (by kernel_rfl) ?_
  refine HO.boolP x.2.2.1 (by kernel_rfl) (by kernel_rfl) (fun hb => ?_) (fun hb => ?_)
  rotate_left
  · rw [if_neg (ne_true hb)] at h
    refine HO.fin 15 (by kernel_rfl) ?_
    exact H.ren hS [0, 1, 2] _ _ _ (by kernel_rfl) (cpOf_L1_ok (false, x.1, x.2.1, x.2.2.1, x.2.2.2.1, x.2.2.2.2) r h W0 w0 S hS)
  rw [if_pos hb] at h
  refine HO.goP 4 (by kernel_rfl) ?_
  refine HO.boolP (decide (x.1 = 2)) (by kernel_rfl) (by kernel_rfl) (fun hb => ?_) (fun hb => ?_)
  rotate_left
  · rw [if_neg (of_decide_eq_false hb)] at h
    refine HO.fin 10 (by kernel_rfl) ?_
    exact H.ren hS [0, 1, 2] _ _ _ (by kernel_rfl) (cpOf_L1_ok (false, x.1, x.2.1, x.2.2.1, x.2.2.2.1, x.2.2.2.2) r h W0 w0 S hS)
  rw [if_pos (of_decide_eq_true hb)] at h
  refine HO.goP 4 (by kernel_rfl) ?_
  refine HO.boolP (decide (1 ≤ x.2.1)) (by kernel_rfl) (by kernel_rfl) (fun hb => ?_) (fun hb => ?_)
  · rw [if_pos (of_decide_eq_true hb)] at h
    refine HO.fin 5 (by kernel_rfl) ?_
    exact H.ren hS [0, 1, 2] _ _ _ (by kernel_rfl) (cpOf_L1_ok ((decide (x.2.1 ≤ 5)), x.1, x.2.1, x.2.2.1, x.2.2.2.1, x.2.2.2.2) r h W0 w0 S hS)
  rw [if_neg (of_decide_eq_false hb)] at h
  refine HO.fin 5 (by kernel_rfl) ?_
  exact H.ren hS [0, 1, 2] _ _ _ (by kernel_rfl) (cpOf_L1_ok (false, x.1, x.2.1, x.2.2.1, x.2.2.2.1, x.2.2.2.2) r h W0 w0 S hS)
def cpDecode_L2 (x : (List S70) × (List S36) × Int × Int) : Option ((List S70) × Int) :=
  if x.2.2.2 < x.2.2.1 then
    (at' x.2.1 x.2.2.2) >>= fun y3 =>
    (cpOf (y3.c0, y3.c1, y3.c2, y3.c3, y3.c4)) >>= fun y4 =>
    if y4.2.2.2.2.2.2.2.2.2.2.2.2 = 0 then
      (app' 64 x.1 [(S70.mk y4.1 y4.2.1 y4.2.2.1 y4.2.2.2.1 y4.2.2.2.2.1 y4.2.2.2.2.2.1)]) >>= fun y5 =>
      cpDecode_L2 (y5, x.2.1, x.2.2.1, (IntKind.i64.wrap (x.2.2.2 + 1)))
    else
      some ([], 4)
  else
    some (x.1, 0)
partial_fixpoint
theorem cpDecode_L2_ok : ∀ (x : (List S70) × (List S36) × Int × Int) (r : (List S70) × Int), cpDecode_L2 x = some r → ∀ (W0 w0 : World) (S : Own), Std W0 w0 S 0 → HL Tryd.prog w0 S 65 (cL (cL (cR (cL (cR (cR (cR (cR (cL (cR (cB Tryd.f42))))))))))) (mkS [(6, tl 6 0 enc70 x.1), (45, ls 5 false enc36 x.2.1), (46, .int .i64 x.2.2.1), (47, .int .i64 x.2.2.2)] [] 1 [0]) (Kblock 1 (Kseq Tryd.prog w0 S 65 (cR (cR (cR (cR (cR (cL (cR (cB Tryd.f42)))))))) (KEnd Tryd.prog Tryd.f42 (PEnd w0 S (.returned (.tuple #[ls 6 false enc70 r.1, .int .i64 r.2])))))) := by
  refine cpDecode_L2.partial_correctness (fun (x : (List S70) × (List S36) × Int × Int) (r : (List S70) × Int) => ∀ (W0 w0 : World) (S : Own), Std W0 w0 S 0 → HL Tryd.prog w0 S 65 (cL (cL (cR (cL (cR (cR (cR (cR (cL (cR (cB Tryd.f42))))))))))) (mkS [(6, tl 6 0 enc70 x.1), (45, ls 5 false enc36 x.2.1), (46, .int .i64 x.2.2.1), (47, .int .i64 x.2.2.2)] [] 1 [0]) (Kblock 1 (Kseq Tryd.prog w0 S 65 (cR (cR (cR (cR (cR (cL (cR (cB Tryd.f42)))))))) (KEnd Tryd.prog Tryd.f42 (PEnd w0 S (.returned (.tuple #[ls 6 false enc70 r.1, .int .i64 r.2]))))))) ?_
  intro self ih_cpDecode_L2 x r h
  intro W0 w0 S hS
  haveI := hS.noEx Tryd.prog
  refine HL.round ?_
  refine H.sr 1 (by kernel_rfl) ?_
  refine H.seqP (by kernel_rfl) ?_
  refine H.condS (b := decide (x.2.2.2 < x.2.2.1)) (by kernel_rfl) (by kernel_rfl) (fun hb => ?_) (fun hb => ?_)
  rotate_left
  · rw [if_neg (of_decide_eq_false hb)] at h
    refine H.exitI 1 (by kernel_rfl) ?_
    refine Kseq_exit ?_
    refine Kloop_exit ?_
    refine Kblock_hit ?_
    refine Kseq_norm ?_
    refine H.sr 3 (by kernel_rfl) ?_
    refine H.retP (by kernel_rfl) ?_
    obtain rfl := Option.some.inj h
    exact KEnd.retW (v := .tuple #[tl 6 0 enc70 x.1, .int .i64 0]) (.tuple [.list 6 false, .keep]) (by kernel_rfl) (by kernel_rfl) (by kernel_rfl) (by kernel_rfl)
  rw [if_pos (of_decide_eq_true hb)] at h
  refine H.skipP (by kernel_rfl) ?_
  refine Kseq_norm ?_
  refine H.seqP (by kernel_rfl) ?_
  refine H.blockI 2 (by kernel_rfl) ?_
  refine H.sg (by kernel_rfl) ?_
  obtain ⟨y3, hy, h⟩ := bindS h
  refine HO.idx (.agg #[.int .u8 y3.c0, .int .u32 y3.c1, .bool y3.c2, ls 1 false (encI .u8) y3.c3, ls 5 false enc36 y3.c4]) hy (enc36_eq y3) (by kernel_rfl) ?_
  refine HO.fin 3 (by kernel_rfl) ?_
  refine H.sg (by kernel_rfl) ?_
  refine HO.goP 1 (by kernel_rfl) ?_
  obtain ⟨y4, hy, h⟩ := bindS h
  refine HO.callW hS [.agg [.keep, .keep, .keep, .list 1 false, .list 5 false]] (cpOf_ok (y3.c0, y3.c1, y3.c2, y3.c3, y3.c4) y4 hy W0) (by kernel_rfl) (by kernel_rfl) ?_
  refine HO.fin 9 (by kernel_rfl) ?_
  refine H.seqP (by kernel_rfl) ?_
  refine H.sr 2 (by kernel_rfl) ?_
  refine H.condS (b := decide (y4.2.2.2.2.2.2.2.2.2.2.2.2 = 0)) (by kernel_rfl) (by kernel_rfl) (fun hb => ?_) (fun hb => ?_)
  rotate_left
  · rw [if_neg (of_decide_eq_false hb)] at h
    refine H.skipP (by kernel_rfl) ?_
    refine Kseq_norm ?_
    refine H.sr 2 (by kernel_rfl) ?_
    refine H.retP (by kernel_rfl) ?_
    refine Kblock_ret ?_
    refine Kseq_ret ?_
    refine Kloop_ret ?_
    refine Kblock_ret ?_
    refine Kseq_ret ?_
    obtain rfl := Option.some.inj h
    exact KEnd.retW (v := .tuple #[.slice none 0 0, .int .i64 4]) (.tuple [.list 6 false, .keep]) (by kernel_rfl) (by kernel_rfl) (by kernel_rfl) (by kernel_rfl)
  rw [if_pos (of_decide_eq_true hb)] at h
  refine H.sg (by kernel_rfl) ?_
  refine HO.goP 3 (by kernel_rfl) ?_
  obtain ⟨y5, hy, h⟩ := bindS h
  refine HO.effA (app1_aop (enc := enc70) (k := 6) true 1 [.int .u8 y4.1, .int .i64 y4.2.1, .int .i64 y4.2.2.1, .int .i64 y4.2.2.2.1, .int .u8 y4.2.2.2.2.1, ls 1 false (encI .u8) y4.2.2.2.2.2.1] [] hy (by kernel_rfl) (by kernel_rfl) (by simp only [List.map_cons, List.map_nil, enc70_eq]; kernel_rfl)) ?_
  refine HO.fin 1 (by kernel_rfl) ?_
  refine H.exitI 2 (by kernel_rfl) ?_
  refine Kseq_exit ?_
  refine Kblock_hit ?_
  refine Kseq_norm ?_
  refine H.regP (by kernel_rfl) ?_
  refine HO.goP 2 (by kernel_rfl) ?_
  refine HO.done (by kernel_rfl) ?_
  refine Kloop_norm ?_
  exact HL.ren hS [5] _ _ _ (by kernel_rfl) (ih_cpDecode_L2 (y5, x.2.1, x.2.2.1, (IntKind.i64.wrap (x.2.2.2 + 1))) r h W0 w0 S hS)
def cpDecode_L1 (x : Bool × Int × Int × Bool × (List Int) × (List S36)) : Option ((List S70) × Int) :=
  if x.1 = true then
    some ([], 4)
  else
    if 16 < (x.2.2.2.2.2.length : Int) then
      some ([], 3)
    else
      (mk' 64 (x.2.2.2.2.2.length : Int)) >>= fun y2 =>
      cpDecode_L2 (([] : List S70), x.2.2.2.2.2, (x.2.2.2.2.2.length : Int), 0)
theorem cpDecode_L1_ok : ∀ (x : Bool × Int × Int × Bool × (List Int) × (List S36)) (r : (List S70) × Int), cpDecode_L1 x = some r → ∀ (W0 w0 : World) (S : Own), Std W0 w0 S 0 → H Tryd.prog w0 S 65 (cR (cR (cR (cL (cL (cR (cL (cR (cB Tryd.f42))))))))) (mkS [(4, .pointer (some ⟨0, 0, none⟩)), (21, .bool x.1)] [(0, .cells [.int .u8 x.2.1, .int .u32 x.2.2.1, .bool x.2.2.2.1, ls 1 false (encI .u8) x.2.2.2.2.1, ls 5 false enc36 x.2.2.2.2.2] 36 5)] 1 []) (Kblock 0 (Kseq Tryd.prog w0 S 65 (cR (cR (cL (cR (cB Tryd.f42))))) (KEnd Tryd.prog Tryd.f42 (PEnd w0 S (.returned (.tuple #[ls 6 false enc70 r.1, .int .i64 r.2])))))) := by
  intro x r h
  unfold cpDecode_L1 at h
  intro W0 w0 S hS
  haveI := hS.noEx Tryd.prog
  refine H.condS (b := x.1) (by kernel_rfl) (by kernel_rfl) (fun hb => ?_) (fun hb => ?_)
  · rw [if_pos hb] at h
    refine H.sr 2 (by kernel_rfl) ?_
    refine H.retP (by kernel_rfl) ?_
    refine Kblock_ret ?_
    refine Kseq_ret ?_
    obtain rfl := Option.some.inj h
    exact KEnd.retW (v := .tuple #[.slice none 0 0, .int .i64 4]) (.tuple [.list 6 false, .keep]) (by kernel_rfl) (by kernel_rfl) (by kernel_rfl) (by kernel_rfl)
  rw [if_neg (ne_true hb)] at h
  refine H.sg (by kernel_rfl) ?_
  refine HO.goP 2 (by kernel_rfl) ?_
  refine HO.len (by kernel_rfl) (by kernel_rfl) (ls_size enc36 x.2.2.2.2.2) ?_
  refine HO.fin 2 (by kernel_rfl) ?_
  refine H.condS (b := decide (16 < (x.2.2.2.2.2.length : Int))) (by kernel_rfl) (by kernel_rfl) (fun hb => ?_) (fun hb => ?_)
  · rw [if_pos (of_decide_eq_true hb)] at h
    refine H.sr 2 (by kernel_rfl) ?_
    refine H.retP (by kernel_rfl) ?_
    refine Kblock_ret ?_
    refine Kseq_ret ?_
    obtain rfl := Option.some.inj h
    exact KEnd.retW (v := .tuple #[.slice none 0 0, .int .i64 3]) (.tuple [.list 6 false, .keep]) (by kernel_rfl) (by kernel_rfl) (by kernel_rfl) (by kernel_rfl)
  rw [if_neg (of_decide_eq_false hb)] at h
  refine H.skipP (by kernel_rfl) ?_
  refine Kblock_norm ?_
  refine Kseq_norm ?_
  refine H.sg (by kernel_rfl) ?_
  refine HO.goP 2 (by kernel_rfl) ?_
  refine HO.len (by kernel_rfl) (by kernel_rfl) (ls_size enc36 x.2.2.2.2.2) ?_
  obtain ⟨y2, hy, h⟩ := bindS h
  refine HO.mkT (k := 6) hy (by kernel_rfl) ?_
  refine HO.fin 1 (by kernel_rfl) ?_
  refine H.seqP (by kernel_rfl) ?_
  refine H.labelP (by kernel_rfl) ?_
  refine Kseq_norm ?_
  refine H.seqP (by kernel_rfl) ?_
  refine H.sg (by kernel_rfl) ?_
  refine HO.goP 2 (by kernel_rfl) ?_
  refine HO.len (by kernel_rfl) (by kernel_rfl) (ls_size enc36 x.2.2.2.2.2) ?_
  refine HO.fin 1 (by kernel_rfl) ?_
  refine H.blockI 1 (by kernel_rfl) ?_
  refine H.loopP (by kernel_rfl) ?_
  exact HL.ren hS [1] _ _ _ (by kernel_rfl) (cpDecode_L2_ok (([] : List S70), x.2.2.2.2.2, (x.2.2.2.2.2.length : Int), 0) r h W0 w0 S hS)
def cpDecode (x : (List Int)) : Option ((List S70) × Int) :=
  (decode x) >>= fun y1 =>
  if (!decide (y1.2.2.2.2.2 = 0)) = true then
    some ([], y1.2.2.2.2.2)
  else
    if (!y1.2.2.1) = true then
      cpDecode_L1 (true, y1.1, y1.2.1, y1.2.2.1, y1.2.2.2.1, y1.2.2.2.2.1)
    else
      if (!decide (y1.1 = 1)) = true then
        cpDecode_L1 (true, y1.1, y1.2.1, y1.2.2.1, y1.2.2.2.1, y1.2.2.2.2.1)
      else
        cpDecode_L1 ((!decide (y1.2.1 = 1)), y1.1, y1.2.1, y1.2.2.1, y1.2.2.2.1, y1.2.2.2.2.1)
theorem cpDecode_ok : ∀ (x : (List Int)) (r : (List S70) × Int), cpDecode x = some r → ∀ W0 : World, PTo Tryd.prog W0 42 #[ls 1 false (encI .u8) x] (.returned (.tuple #[ls 6 false enc70 r.1, .int .i64 r.2])) := by
  intro x r h
  unfold cpDecode at h
  intro W0
  refine PTo.of_body (fn := Tryd.f42) (code := cB Tryd.f42) Tryd.func42 rfl rfl ?_
  intro w0 S hS
  haveI := hS.noEx Tryd.prog
  refine H.sr 2 (by kernel_rfl) ?_
  refine H.scopeP (by kernel_rfl) ?_
  refine H.sg (by kernel_rfl) ?_
  refine HO.goP 1 (by kernel_rfl) ?_
  obtain ⟨y1, hy, h⟩ := bindS h
  refine HO.callW hS [.list 1 false] (decode_ok x y1 hy W0) (by kernel_rfl) (by kernel_rfl) ?_
  refine HO.fin 6 (by kernel_rfl) ?_
  refine H.seqP (by kernel_rfl) ?_
  refine H.blockI 0 (by kernel_rfl) ?_
  refine H.sr 3 (by kernel_rfl) ?_
  refine H.condS (b := !decide (y1.2.2.2.2.2 = 0)) (by kernel_rfl) (by kernel_rfl) (fun hb => ?_) (fun hb => ?_)
  · rw [if_pos hb] at h
    refine H.sr 3 (by kernel_rfl) ?_
    refine H.retP (by kernel_rfl) ?_
    refine Kblock_ret ?_
    refine Kseq_ret ?_
    obtain rfl := Option.some.inj h
    exact KEnd.retW (v := .tuple #[.slice none 0 0, .int .i64 y1.2.2.2.2.2]) (.tuple [.list 6 false, .keep]) (by kernel_rfl) (by kernel_rfl) (by kernel_rfl) (by kernel_rfl)
  rw [if_neg (ne_true hb)] at h
  refine H.sg (by kernel_rfl) ?_
  refine HO.goP 3 (by kernel_rfl) ?_
  refine HO.boolP (!y1.2.2.1) (by kernel_rfl) (by kernel_rfl) (fun hb => ?_) (fun hb => ?_)
  · rw [if_pos hb] at h
    refine HO.fin 10 (by kernel_rfl) ?_
    exact H.ren hS [0] _ _ _ (by kernel_rfl) (cpDecode_L1_ok (true, y1.1, y1.2.1, y1.2.2.1, y1.2.2.2.1, y1.2.2.2.2.1) r h W0 w0 S hS)
  rw [if_neg (ne_true hb)] at h
  refine HO.goP 4 (by kernel_rfl) ?_
  refine HO.boolP (!decide (y1.1 = 1)) (by kernel_rfl) (by kernel_rfl) (fun hb => ?_) (fun hb => ?_)
  · rw [if_pos hb] at h
    refine HO.fin 5 (by kernel_rfl) ?_
    exact H.ren hS [0] _ _ _ (by kernel_rfl) (cpDecode_L1_ok (true, y1.1, y1.2.1, y1.2.2.1, y1.2.2.2.1, y1.2.2.2.2.1) r h W0 w0 S hS)
  rw [if_neg (ne_true hb)] at h
  refine HO.fin 5 (by kernel_rfl) ?_
  exact H.ren hS [0] _ _ _ (by kernel_rfl) (cpDecode_L1_ok ((!decide (y1.2.1 = 1)), y1.1, y1.2.1, y1.2.2.1, y1.2.2.2.1, y1.2.2.2.2.1) r h W0 w0 S hS)
def law_L9 (x : Bool) : Option (Bool) :=
  some x
theorem law_L9_ok : ∀ (x : Bool) (r : Bool), law_L9 x = some r → ∀ (W0 w0 : World) (S : Own), Std W0 w0 S 0 → PTo Tryd.prog W0 29 #[] (.returned (.bool true)) → H Tryd.prog w0 S 239 (cR (cR (cL (cR (cL (cR (cR (cR (cR (cR (cR (cR (cR (cR (cR (cR (cR (cR (cR (cB Tryd.f9)))))))))))))))))))) (mkS [(6, .bool x)] [] 0 []) (Kseq Tryd.prog w0 S 239 (cR (cR (cR (cR (cR (cR (cR (cR (cR (cR (cR (cR (cR (cR (cR (cB Tryd.f9)))))))))))))))) (KEnd Tryd.prog Tryd.f9 (PEnd w0 S (.returned (.bool r))))) := by
  intro x r h
  unfold law_L9 at h
  intro W0 w0 S hS
  intro HLV
  haveI := hS.noEx Tryd.prog
  refine H.retP (by kernel_rfl) ?_
  refine Kseq_ret ?_
  obtain rfl := Option.some.inj h
  exact KEnd.ret (by kernel_rfl) (by kernel_rfl) (by kernel_rfl)
def law_L10 (x : Bool) : Option (Bool) :=
  some x
theorem law_L10_ok : ∀ (x : Bool) (r : Bool), law_L10 x = some r → ∀ (W0 w0 : World) (S : Own), Std W0 w0 S 0 → PTo Tryd.prog W0 29 #[] (.returned (.bool true)) → H Tryd.prog w0 S 239 (cR (cR (cR (cR (cR (cR (cR (cR (cR (cR (cR (cR (cR (cR (cR (cR (cR (cB Tryd.f9)))))))))))))))))) (mkS [(6, .bool x)] [] 0 []) (KEnd Tryd.prog Tryd.f9 (PEnd w0 S (.returned (.bool r)))) := by
  intro x r h
  unfold law_L10 at h
  intro W0 w0 S hS
  intro HLV
  haveI := hS.noEx Tryd.prog
  refine H.retP (by kernel_rfl) ?_
  obtain rfl := Option.some.inj h
  exact KEnd.ret (by kernel_rfl) (by kernel_rfl) (by kernel_rfl)
def law_L8 (x : (List Int) × Bool) : Option (Bool) :=
  if x.2 = true then
    some false
  else
    (cpDecode x.1) >>= fun y6 =>
    if y6.2 = 0 then
      (cpEncode y6.1) >>= fun y7 =>
      if y7.2 = 0 then
        if (y7.1.length : Int) ≤ (x.1.length : Int) then
          law_L9 true
        else
          law_L9 false
      else
        law_L9 false
    else
      (decode x.1) >>= fun y8 =>
      if (y6.1.length : Int) = 0 then
        if y6.2 = y8.2.2.2.2.2 then
          law_L10 true
        else
          if y8.2.2.2.2.2 = 0 then
            if y6.2 = 4 then
              law_L10 true
            else
              if y6.2 = 3 then
                law_L10 true
              else
                law_L10 false
          else
            law_L10 false
      else
        law_L10 false
theorem law_L8_ok : ∀ (x : (List Int) × Bool) (r : Bool), law_L8 x = some r → ∀ (W0 w0 : World) (S : Own), Std W0 w0 S 0 → PTo Tryd.prog W0 29 #[] (.returned (.bool true)) → H Tryd.prog w0 S 239 (cR (cL (cR (cR (cR (cR (cR (cR (cR (cR (cR (cR (cR (cR (cB Tryd.f9))))))))))))))) (mkS [(1, ls 1 false (encI .u8) x.1), (186, .bool x.2)] [] 0 []) (Kseq Tryd.prog w0 S 239 (cR (cR (cR (cR (cR (cR (cR (cR (cR (cR (cR (cR (cR (cB Tryd.f9)))))))))))))) (KEnd Tryd.prog Tryd.f9 (PEnd w0 S (.returned (.bool r))))) := by
  intro x r h
  unfold law_L8 at h
  intro W0 w0 S hS
  intro HLV
  haveI := hS.noEx Tryd.prog
  refine H.condS (b := x.2) (by kernel_rfl) (by kernel_rfl) (fun hb => ?_) (fun hb => ?_)
  · rw [if_pos hb] at h
    refine H.sr 1 (by kernel_rfl) ?_
    refine H.retP (by kernel_rfl) ?_
    refine Kseq_ret ?_
    obtain rfl := Option.some.inj h
    exact KEnd.ret (by kernel_rfl) (by kernel_rfl) (by kernel_rfl)
  rw [if_neg (ne_true hb)] at h
  refine H.skipP (by kernel_rfl) ?_
  refine Kseq_norm ?_
  refine H.sg (by kernel_rfl) ?_
  refine HO.goP 1 (by kernel_rfl) ?_
  obtain ⟨y6, hy, h⟩ := bindS h
  refine HO.callW hS [.list 1 false] (cpDecode_ok x.1 y6 hy W0) (by kernel_rfl) (by kernel_rfl) ?_
  refine HO.fin 5 (by kernel_rfl) ?_
  refine H.seqP (by kernel_rfl) ?_
  refine H.sr 2 (by kernel_rfl) ?_
  refine H.condS (b := decide (y6.2 = 0)) (by kernel_rfl) (by kernel_rfl) (fun hb => ?_) (fun hb => ?_)
  · rw [if_pos (of_decide_eq_true hb)] at h
    refine H.sg (by kernel_rfl) ?_
    refine HO.goP 1 (by kernel_rfl) ?_
    obtain ⟨y7, hy, h⟩ := bindS h
    refine HO.callW hS [.list 6 false] (cpEncode_ok y6.1 y7 hy W0) (by kernel_rfl) (by kernel_rfl) ?_
    refine HO.fin 5 (by kernel_rfl) ?_
    refine H.sg (by kernel_rfl) ?_
    refine HO.goP 2 (by kernel_rfl) ?_
    refine HO.boolP (decide (y7.2 = 0)) (by kernel_rfl) (by kernel_rfl) (fun hb => ?_) (fun hb => ?_)
    rotate_left
    · rw [if_neg (of_decide_eq_false hb)] at h
      refine HO.fin 10 (by kernel_rfl) ?_
      exact H.ren hS [] _ _ _ (by kernel_rfl) (law_L9_ok false r h W0 w0 S hS HLV)
    rw [if_pos (of_decide_eq_true hb)] at h
    refine HO.goP 1 (by kernel_rfl) ?_
    refine HO.len (by kernel_rfl) (by kernel_rfl) (ls_size (encI .u8) y7.1) ?_
    refine HO.goP 1 (by kernel_rfl) ?_
    refine HO.len (by kernel_rfl) (by kernel_rfl) (ls_size (encI .u8) x.1) ?_
    refine HO.goP 2 (by kernel_rfl) ?_
    refine HO.boolP (decide ((y7.1.length : Int) ≤ (x.1.length : Int))) (by kernel_rfl) (by kernel_rfl) (fun hb => ?_) (fun hb => ?_)
    rotate_left
    · rw [if_neg (of_decide_eq_false hb)] at h
      refine HO.fin 3 (by kernel_rfl) ?_
      exact H.ren hS [] _ _ _ (by kernel_rfl) (law_L9_ok false r h W0 w0 S hS HLV)
    rw [if_pos (of_decide_eq_true hb)] at h
    refine HO.callW hS [] HLV (by kernel_rfl) (by kernel_rfl) ?_
    refine HO.fin 2 (by kernel_rfl) ?_
    exact H.ren hS [] _ _ _ (by kernel_rfl) (law_L9_ok true r h W0 w0 S hS HLV)
  rw [if_neg (of_decide_eq_false hb)] at h
  refine H.skipP (by kernel_rfl) ?_
  refine Kseq_norm ?_
  refine H.sg (by kernel_rfl) ?_
  refine HO.goP 1 (by kernel_rfl) ?_
  obtain ⟨y8, hy, h⟩ := bindS h
  refine HO.callW hS [.list 1 false] (decode_ok x.1 y8 hy W0) (by kernel_rfl) (by kernel_rfl) ?_
  refine HO.fin 6 (by kernel_rfl) ?_
  refine H.sg (by kernel_rfl) ?_
  refine HO.goP 1 (by kernel_rfl) ?_
  refine HO.len (by kernel_rfl) (by kernel_rfl) (ls_size enc70 y6.1) ?_
  refine HO.goP 1 (by kernel_rfl) ?_
  refine HO.boolP (decide ((y6.1.length : Int) = 0)) (by kernel_rfl) (by kernel_rfl) (fun hb => ?_) (fun hb => ?_)
  rotate_left
  · rw [if_neg (of_decide_eq_false hb)] at h
    refine HO.fin 20 (by kernel_rfl) ?_
    exact H.ren hS [] _ _ _ (by kernel_rfl) (law_L10_ok false r h W0 w0 S hS HLV)
  rw [if_pos (of_decide_eq_true hb)] at h
  refine HO.goP 3 (by kernel_rfl) ?_
  refine HO.boolP (decide (y6.2 = y8.2.2.2.2.2)) (by kernel_rfl) (by kernel_rfl) (fun hb => ?_) (fun hb => ?_)
  · rw [if_pos (of_decide_eq_true hb)] at h
    refine HO.goP 13 (by kernel_rfl) ?_
    refine HO.callW hS [] HLV (by kernel_rfl) (by kernel_rfl) ?_
    refine HO.fin 2 (by kernel_rfl) ?_
    exact H.ren hS [] _ _ _ (by kernel_rfl) (law_L10_ok true r h W0 w0 S hS HLV)
  rw [if_neg (of_decide_eq_false hb)] at h
  refine HO.goP 2 (by kernel_rfl) ?_
  refine HO.boolP (decide (y8.2.2.2.2.2 = 0)) (by kernel_rfl) (by kernel_rfl) (fun hb => ?_) (fun hb => ?_)
  rotate_left
  · rw [if_neg (of_decide_eq_false hb)] at h
    refine HO.fin 13 (by kernel_rfl) ?_
    exact H.ren hS [] _ _ _ (by kernel_rfl) (law_L10_ok false r h W0 w0 S hS HLV)
  rw [if_pos (of_decide_eq_true hb)] at h
  refine HO.goP 2 (by kernel_rfl) ?_
  refine HO.boolP (decide (y6.2 = 4)) (by kernel_rfl) (by kernel_rfl) (fun hb => ?_) (fun hb => ?_)
  · rw [if_pos (of_decide_eq_true hb)] at h
    refine HO.goP 7 (by kernel_rfl) ?_
    refine HO.callW hS [] HLV (by kernel_rfl) (by kernel_rfl) ?_
    refine HO.fin 2 (by kernel_rfl) ?_
    exact H.ren hS [] _ _ _ (by kernel_rfl) (law_L10_ok true r h W0 w0 S hS HLV)
  rw [if_neg (of_decide_eq_false hb)] at h
  refine HO.goP 6 (by kernel_rfl) ?_
  refine HO.boolP (decide (y6.2 = 3)) (by kernel_rfl) (by kernel_rfl) (fun hb => ?_) (fun hb => ?_)
  rotate_left
  · rw [if_neg (of_decide_eq_false hb)] at h
    refine HO.fin 3 (by kernel_rfl) ?_
    exact H.ren hS [] _ _ _ (by kernel_rfl) (law_L10_ok false r h W0 w0 S hS HLV)
  rw [if_pos (of_decide_eq_true hb)] at h
  refine HO.callW hS [] HLV (by kernel_rfl) (by kernel_rfl) ?_
  refine HO.fin 2 (by kernel_rfl) ?_
  exact H.ren hS [] _ _ _ (by kernel_rfl) (law_L10_ok true r h W0 w0 S hS HLV)
def law_L7 (x : (List Int) × Int × Int × (List Int) × Int × Int × Int × Int × Int × Int × Int × (List Int) × Int × Int × Bool × (List Int) × (List S36)) : Option (Bool) :=
  (cpCheck (x.2.2.2.2.2.2.1, x.2.2.2.2.2.2.2.1, x.2.2.2.2.2.2.2.2.1, x.2.2.2.2.2.2.2.2.2.1, x.2.2.2.2.2.2.2.2.2.2.1, x.2.2.2.2.2.2.2.2.2.2.2.1)) >>= fun y5 =>
  if (!decide (y5 = x.2.1)) = true then
    law_L8 (x.1, true)
  else
    if (!decide (x.2.2.1 = x.2.1)) = true then
      law_L8 (x.1, true)
    else
      if (!decide (x.2.2.1 = 0)) = true then
        if 0 < (x.2.2.2.2.2.2.2.2.2.2.2.2.2.2.2.2.length : Int) then
          law_L8 (x.1, true)
        else
          if (!decide (x.2.2.2.2.1 = x.2.2.2.2.2.1)) = true then
            law_L8 (x.1, true)
          else
            if (!decide (x.2.2.2.2.1 = 0)) = true then
              law_L8 (x.1, (decide (0 < (x.2.2.2.1.length : Int))))
            else
              law_L8 (x.1, false)
      else
        if (!decide (x.2.2.2.2.1 = x.2.2.2.2.2.1)) = true then
          law_L8 (x.1, true)
        else
          if (!decide (x.2.2.2.2.1 = 0)) = true then
            law_L8 (x.1, (decide (0 < (x.2.2.2.1.length : Int))))
          else
            law_L8 (x.1, false)
theorem law_L7_ok : ∀ (x : (List Int) × Int × Int × (List Int) × Int × Int × Int × Int × Int × Int × Int × (List Int) × Int × Int × Bool × (List Int) × (List S36)) (r : Bool), law_L7 x = some r → ∀ (W0 w0 : World) (S : Own), Std W0 w0 S 0 → PTo Tryd.prog W0 29 #[] (.returned (.bool true)) → H Tryd.prog w0 S 239 (cR (cR (cR (cR (cR (cR (cR (cR (cR (cR (cR (cR (cB Tryd.f9))))))))))))) (mkS [(1, ls 1 false (encI .u8) x.1), (3, .pointer (some ⟨0, 0, none⟩)), (8, .int .i64 x.2.1), (9, .pointer (some ⟨1, 0, none⟩)), (10, .int .i64 x.2.2.1), (13, ls 1 true (encI .u8) x.2.2.2.1), (14, .int .i64 x.2.2.2.2.1), (15, .int .i64 x.2.2.2.2.2.1)] [(0, .cells [.int .u8 x.2.2.2.2.2.2.1, .int .i64 x.2.2.2.2.2.2.2.1, .int .i64 x.2.2.2.2.2.2.2.2.1, .int .i64 x.2.2.2.2.2.2.2.2.2.1, .int .u8 x.2.2.2.2.2.2.2.2.2.2.1, ls 1 false (encI .u8) x.2.2.2.2.2.2.2.2.2.2.2.1] 70 6), (1, .cells [.int .u8 x.2.2.2.2.2.2.2.2.2.2.2.2.1, .int .u32 x.2.2.2.2.2.2.2.2.2.2.2.2.2.1, .bool x.2.2.2.2.2.2.2.2.2.2.2.2.2.2.1, ls 1 false (encI .u8) x.2.2.2.2.2.2.2.2.2.2.2.2.2.2.2.1, ls 5 false enc36 x.2.2.2.2.2.2.2.2.2.2.2.2.2.2.2.2] 36 5)] 2 []) (KEnd Tryd.prog Tryd.f9 (PEnd w0 S (.returned (.bool r)))) := by
  intro x r h
  unfold law_L7 at h
  intro W0 w0 S hS
  intro HLV
  haveI := hS.noEx Tryd.prog
  refine H.seqP (by kernel_rfl) ?_
  refine H.sg (by kernel_rfl) ?_
  refine HO.goP 1 (by kernel_rfl) ?_
  obtain ⟨y5, hy, h⟩ := bindS h
  refine HO.callW hS [.agg [.keep, .keep, .keep, .keep, .keep, .list 1 false]] (cpCheck_ok (x.2.2.2.2.2.2.1, x.2.2.2.2.2.2.2.1, x.2.2.2.2.2.2.2.2.1, x.2.2.2.2.2.2.2.2.2.1, x.2.2.2.2.2.2.2.2.2.2.1, x.2.2.2.2.2.2.2.2.2.2.2.1) y5 hy W0) (by kernel_rfl) (by kernel_rfl) ?_
  refine HO.goP 2 (by kernel_rfl) ?_
  refine HO.boolP (!decide (y5 = x.2.1)) (by kernel_rfl) (by kernel_rfl) (fun hb => ?_) (fun hb => ?_)
  · rw [if_pos hb] at h
    refine HO.fin 28 (by kernel_rfl) ?_
    exact H.ren hS [] _ _ _ (by kernel_rfl) (law_L8_ok (x.1, true) r h W0 w0 S hS HLV)
  rw [if_neg (ne_true hb)] at h
  refine HO.goP 4 (by kernel_rfl) ?_
  refine HO.boolP (!decide (x.2.2.1 = x.2.1)) (by kernel_rfl) (by kernel_rfl) (fun hb => ?_) (fun hb => ?_)
  · rw [if_pos hb] at h
    refine HO.fin 23 (by kernel_rfl) ?_
    exact H.ren hS [] _ _ _ (by kernel_rfl) (law_L8_ok (x.1, true) r h W0 w0 S hS HLV)
  rw [if_neg (ne_true hb)] at h
  refine HO.goP 2 (by kernel_rfl) ?_
  refine HO.boolP (!decide (x.2.2.1 = 0)) (by kernel_rfl) (by kernel_rfl) (fun hb => ?_) (fun hb => ?_)
  rotate_left
  · rw [if_neg (ne_true hb)] at h
    refine HO.goP 11 (by kernel_rfl) ?_
    refine HO.boolP (!decide (x.2.2.2.2.1 = x.2.2.2.2.2.1)) (by kernel_rfl) (by kernel_rfl) (fun hb => ?_) (fun hb => ?_)
    · rw [if_pos hb] at h
      refine HO.fin 8 (by kernel_rfl) ?_
      exact H.ren hS [] _ _ _ (by kernel_rfl) (law_L8_ok (x.1, true) r h W0 w0 S hS HLV)
    rw [if_neg (ne_true hb)] at h
    refine HO.goP 2 (by kernel_rfl) ?_
    refine HO.boolP (!decide (x.2.2.2.2.1 = 0)) (by kernel_rfl) (by kernel_rfl) (fun hb => ?_) (fun hb => ?_)
    rotate_left
    · rw [if_neg (ne_true hb)] at h
      refine HO.fin 5 (by kernel_rfl) ?_
      exact H.ren hS [] _ _ _ (by kernel_rfl) (law_L8_ok (x.1, false) r h W0 w0 S hS HLV)
    rw [if_pos hb] at h
    refine HO.goP 1 (by kernel_rfl) ?_
    refine HO.len (by kernel_rfl) (by kernel_rfl) (ls_size (encI .u8) x.2.2.2.1) ?_
    refine HO.fin 3 (by kernel_rfl) ?_
    exact H.ren hS [] _ _ _ (by kernel_rfl) (law_L8_ok (x.1, (decide (0 < (x.2.2.2.1.length : Int)))) r h W0 w0 S hS HLV)
  rw [if_pos hb] at h
  refine HO.goP 2 (by kernel_rfl) ?_
  refine HO.len (by kernel_rfl) (by kernel_rfl) (ls_size enc36 x.2.2.2.2.2.2.2.2.2.2.2.2.2.2.2.2) ?_
  refine HO.goP 3 (by kernel_rfl) ?_
  refine HO.boolP (decide (0 < (x.2.2.2.2.2.2.2.2.2.2.2.2.2.2.2.2.length : Int))) (by kernel_rfl) (by kernel_rfl) (fun hb => ?_) (fun hb => ?_)
  · rw [if_pos (of_decide_eq_true hb)] at h
    refine HO.fin 13 (by kernel_rfl) ?_
    exact H.ren hS [] _ _ _ (by kernel_rfl) (law_L8_ok (x.1, true) r h W0 w0 S hS HLV)
  rw [if_neg (of_decide_eq_false hb)] at h
  refine HO.goP 4 (by kernel_rfl) ?_
  refine HO.boolP (!decide (x.2.2.2.2.1 = x.2.2.2.2.2.1)) (by kernel_rfl) (by kernel_rfl) (fun hb => ?_) (fun hb => ?_)
  · rw [if_pos hb] at h
    refine HO.fin 8 (by kernel_rfl) ?_
    exact H.ren hS [] _ _ _ (by kernel_rfl) (law_L8_ok (x.1, true) r h W0 w0 S hS HLV)
  rw [if_neg (ne_true hb)] at h
  refine HO.goP 2 (by kernel_rfl) ?_
  refine HO.boolP (!decide (x.2.2.2.2.1 = 0)) (by kernel_rfl) (by kernel_rfl) (fun hb => ?_) (fun hb => ?_)
  rotate_left
  · rw [if_neg (ne_true hb)] at h
    refine HO.fin 5 (by kernel_rfl) ?_
    exact H.ren hS [] _ _ _ (by kernel_rfl) (law_L8_ok (x.1, false) r h W0 w0 S hS HLV)
  rw [if_pos hb] at h
  refine HO.goP 1 (by kernel_rfl) ?_
  refine HO.len (by kernel_rfl) (by kernel_rfl) (ls_size (encI .u8) x.2.2.2.1) ?_
  refine HO.fin 3 (by kernel_rfl) ?_
  exact H.ren hS [] _ _ _ (by kernel_rfl) (law_L8_ok (x.1, (decide (0 < (x.2.2.2.1.length : Int)))) r h W0 w0 S hS HLV)
def law_L6 (x : (List Int) × Int × Int × Int × (List S70) × Int × Int × Int × Int × Int × Int × (List Int) × Int × Int × Bool × (List Int) × (List S36)) : Option (Bool) :=
  if x.2.2.2.2.2.1 < (IntKind.i64.wrap (remI .u8 x.2.1 20)) then
    (app' 64 x.2.2.2.2.1 [(S70.mk 2 x.2.2.2.2.2.1 0 0 0 [])]) >>= fun y2 =>
    law_L6 (x.1, x.2.1, x.2.2.1, x.2.2.2.1, y2, (IntKind.i64.wrap (x.2.2.2.2.2.1 + 1)), x.2.2.2.2.2.2.1, x.2.2.2.2.2.2.2.1, x.2.2.2.2.2.2.2.2.1, x.2.2.2.2.2.2.2.2.2.1, x.2.2.2.2.2.2.2.2.2.2.1, x.2.2.2.2.2.2.2.2.2.2.2.1, x.2.2.2.2.2.2.2.2.2.2.2.2.1, x.2.2.2.2.2.2.2.2.2.2.2.2.2.1, x.2.2.2.2.2.2.2.2.2.2.2.2.2.2.1, x.2.2.2.2.2.2.2.2.2.2.2.2.2.2.2.1, x.2.2.2.2.2.2.2.2.2.2.2.2.2.2.2.2)
  else
    (app' 64 x.2.2.2.2.1 [(S70.mk x.2.2.2.2.2.2.1 x.2.2.2.2.2.2.2.1 x.2.2.2.2.2.2.2.2.1 x.2.2.2.2.2.2.2.2.2.1 x.2.2.2.2.2.2.2.2.2.2.1 x.2.2.2.2.2.2.2.2.2.2.2.1)]) >>= fun y3 =>
    (cpEncode y3) >>= fun y4 =>
    if 16 < (IntKind.i64.wrap ((x.2.2.2.2.1.length : Int) + 1)) then
      law_L7 (x.1, x.2.2.1, x.2.2.2.1, y4.1, y4.2, 3, x.2.2.2.2.2.2.1, x.2.2.2.2.2.2.2.1, x.2.2.2.2.2.2.2.2.1, x.2.2.2.2.2.2.2.2.2.1, x.2.2.2.2.2.2.2.2.2.2.1, x.2.2.2.2.2.2.2.2.2.2.2.1, x.2.2.2.2.2.2.2.2.2.2.2.2.1, x.2.2.2.2.2.2.2.2.2.2.2.2.2.1, x.2.2.2.2.2.2.2.2.2.2.2.2.2.2.1, x.2.2.2.2.2.2.2.2.2.2.2.2.2.2.2.1, x.2.2.2.2.2.2.2.2.2.2.2.2.2.2.2.2)
    else
      law_L7 (x.1, x.2.2.1, x.2.2.2.1, y4.1, y4.2, x.2.2.1, x.2.2.2.2.2.2.1, x.2.2.2.2.2.2.2.1, x.2.2.2.2.2.2.2.2.1, x.2.2.2.2.2.2.2.2.2.1, x.2.2.2.2.2.2.2.2.2.2.1, x.2.2.2.2.2.2.2.2.2.2.2.1, x.2.2.2.2.2.2.2.2.2.2.2.2.1, x.2.2.2.2.2.2.2.2.2.2.2.2.2.1, x.2.2.2.2.2.2.2.2.2.2.2.2.2.2.1, x.2.2.2.2.2.2.2.2.2.2.2.2.2.2.2.1, x.2.2.2.2.2.2.2.2.2.2.2.2.2.2.2.2)
partial_fixpoint
theorem law_L6_ok : ∀ (x : (List Int) × Int × Int × Int × (List S70) × Int × Int × Int × Int × Int × Int × (List Int) × Int × Int × Bool × (List Int) × (List S36)) (r : Bool), law_L6 x = some r → ∀ (W0 w0 : World) (S : Own), Std W0 w0 S 0 → PTo Tryd.prog W0 29 #[] (.returned (.bool true)) → HL Tryd.prog w0 S 239 (cL (cL (cR (cL (cR (cR (cR (cR (cR (cR (cR (cR (cB Tryd.f9))))))))))))) (mkS [(1, ls 1 false (encI .u8) x.1), (2, .int .u8 x.2.1), (3, .pointer (some ⟨0, 0, none⟩)), (8, .int .i64 x.2.2.1), (9, .pointer (some ⟨1, 0, none⟩)), (10, .int .i64 x.2.2.2.1), (11, tl 6 2 enc70 x.2.2.2.2.1), (12, .int .i64 x.2.2.2.2.2.1)] [(0, .cells [.int .u8 x.2.2.2.2.2.2.1, .int .i64 x.2.2.2.2.2.2.2.1, .int .i64 x.2.2.2.2.2.2.2.2.1, .int .i64 x.2.2.2.2.2.2.2.2.2.1, .int .u8 x.2.2.2.2.2.2.2.2.2.2.1, ls 1 false (encI .u8) x.2.2.2.2.2.2.2.2.2.2.2.1] 70 6), (1, .cells [.int .u8 x.2.2.2.2.2.2.2.2.2.2.2.2.1, .int .u32 x.2.2.2.2.2.2.2.2.2.2.2.2.2.1, .bool x.2.2.2.2.2.2.2.2.2.2.2.2.2.2.1, ls 1 false (encI .u8) x.2.2.2.2.2.2.2.2.2.2.2.2.2.2.2.1, ls 5 false enc36 x.2.2.2.2.2.2.2.2.2.2.2.2.2.2.2.2] 36 5)] 3 [2]) (Kblock 2 (Kseq Tryd.prog w0 S 239 (cR (cR (cR (cR (cR (cR (cR (cR (cR (cB Tryd.f9)))))))))) (KEnd Tryd.prog Tryd.f9 (PEnd w0 S (.returned (.bool r)))))) := by
  refine law_L6.partial_correctness (fun (x : (List Int) × Int × Int × Int × (List S70) × Int × Int × Int × Int × Int × Int × (List Int) × Int × Int × Bool × (List Int) × (List S36)) (r : Bool) => ∀ (W0 w0 : World) (S : Own), Std W0 w0 S 0 → PTo Tryd.prog W0 29 #[] (.returned (.bool true)) → HL Tryd.prog w0 S 239 (cL (cL (cR (cL (cR (cR (cR (cR (cR (cR (cR (cR (cB Tryd.f9))))))))))))) (mkS [(1, ls 1 false (encI .u8) x.1), (2, .int .u8 x.2.1), (3, .pointer (some ⟨0, 0, none⟩)), (8, .int .i64 x.2.2.1), (9, .pointer (some ⟨1, 0, none⟩)), (10, .int .i64 x.2.2.2.1), (11, tl 6 2 enc70 x.2.2.2.2.1), (12, .int .i64 x.2.2.2.2.2.1)] [(0, .cells [.int .u8 x.2.2.2.2.2.2.1, .int .i64 x.2.2.2.2.2.2.2.1, .int .i64 x.2.2.2.2.2.2.2.2.1, .int .i64 x.2.2.2.2.2.2.2.2.2.1, .int .u8 x.2.2.2.2.2.2.2.2.2.2.1, ls 1 false (encI .u8) x.2.2.2.2.2.2.2.2.2.2.2.1] 70 6), (1, .cells [.int .u8 x.2.2.2.2.2.2.2.2.2.2.2.2.1, .int .u32 x.2.2.2.2.2.2.2.2.2.2.2.2.2.1, .bool x.2.2.2.2.2.2.2.2.2.2.2.2.2.2.1, ls 1 false (encI .u8) x.2.2.2.2.2.2.2.2.2.2.2.2.2.2.2.1, ls 5 false enc36 x.2.2.2.2.2.2.2.2.2.2.2.2.2.2.2.2] 36 5)] 3 [2]) (Kblock 2 (Kseq Tryd.prog w0 S 239 (cR (cR (cR (cR (cR (cR (cR (cR (cR (cB Tryd.f9)))))))))) (KEnd Tryd.prog Tryd.f9 (PEnd w0 S (.returned (.bool r))))))) ?_
  intro self ih_law_L6 x r h
  intro W0 w0 S hS
  intro HLV
  haveI := hS.noEx Tryd.prog
  refine HL.round ?_
  refine H.seqP (by kernel_rfl) ?_
  refine H.sr 5 (by kernel_rfl) ?_
  refine H.condS (b := decide (x.2.2.2.2.2.1 < (IntKind.i64.wrap (remI .u8 x.2.1 20)))) (by kernel_rfl) (by kernel_rfl) (fun hb => ?_) (fun hb => ?_)
  · rw [if_pos (of_decide_eq_true hb)] at h
    refine H.skipP (by kernel_rfl) ?_
    refine Kseq_norm ?_
    refine H.seqP (by kernel_rfl) ?_
    refine H.blockI 3 (by kernel_rfl) ?_
    refine H.regP (by kernel_rfl) ?_
    refine HO.goP 4 (by kernel_rfl) ?_
    refine HO.wkc 3 70 6 5 [.int .u8 2, .int .i64 x.2.2.2.2.2.1, .int .i64 0, .int .i64 0, .int .u8 0, .slice none 0 0] (.slice none 0 0) (ls 1 false (encI .u8) []) (.list 1 false) (by kernel_rfl) ?_
    obtain ⟨y2, hy, h⟩ := bindS h
    refine HO.effA (app1_aop (enc := enc70) (k := 6) true 1 [.int .u8 2, .int .i64 x.2.2.2.2.2.1, .int .i64 0, .int .i64 0, .int .u8 0, ls 1 false (encI .u8) []] [] hy (by kernel_rfl) (by kernel_rfl) (by simp only [List.map_cons, List.map_nil, enc70_eq]; kernel_rfl)) ?_
    refine HO.goP 1 (by kernel_rfl) ?_
    refine HO.done (by kernel_rfl) ?_
    refine Kblock_norm ?_
    refine Kseq_norm ?_
    refine H.regP (by kernel_rfl) ?_
    refine HO.goP 3 (by kernel_rfl) ?_
    refine HO.done (by kernel_rfl) ?_
    refine Kloop_norm ?_
    exact HL.ren hS [0, 1, 4] _ _ _ (by kernel_rfl) (ih_law_L6 (x.1, x.2.1, x.2.2.1, x.2.2.2.1, y2, (IntKind.i64.wrap (x.2.2.2.2.2.1 + 1)), x.2.2.2.2.2.2.1, x.2.2.2.2.2.2.2.1, x.2.2.2.2.2.2.2.2.1, x.2.2.2.2.2.2.2.2.2.1, x.2.2.2.2.2.2.2.2.2.2.1, x.2.2.2.2.2.2.2.2.2.2.2.1, x.2.2.2.2.2.2.2.2.2.2.2.2.1, x.2.2.2.2.2.2.2.2.2.2.2.2.2.1, x.2.2.2.2.2.2.2.2.2.2.2.2.2.2.1, x.2.2.2.2.2.2.2.2.2.2.2.2.2.2.2.1, x.2.2.2.2.2.2.2.2.2.2.2.2.2.2.2.2) r h W0 w0 S hS HLV)
  rw [if_neg (of_decide_eq_false hb)] at h
  refine H.exitI 2 (by kernel_rfl) ?_
  refine Kseq_exit ?_
  refine Kloop_exit ?_
  refine Kblock_hit ?_
  refine Kseq_norm ?_
  refine H.sg (by kernel_rfl) ?_
  refine HO.goP 3 (by kernel_rfl) ?_
  obtain ⟨y3, hy, h⟩ := bindS h
  refine HO.effA (app1_aop (enc := enc70) (k := 6) true 1 [.int .u8 x.2.2.2.2.2.2.1, .int .i64 x.2.2.2.2.2.2.2.1, .int .i64 x.2.2.2.2.2.2.2.2.1, .int .i64 x.2.2.2.2.2.2.2.2.2.1, .int .u8 x.2.2.2.2.2.2.2.2.2.2.1, ls 1 false (encI .u8) x.2.2.2.2.2.2.2.2.2.2.2.1] [] hy (by kernel_rfl) (by kernel_rfl) (by simp only [List.map_cons, List.map_nil, enc70_eq]; kernel_rfl)) ?_
  obtain ⟨y4, hy, h⟩ := bindS h
  refine HO.callW hS [.list 6 false] (cpEncode_ok y3 y4 hy W0) (by kernel_rfl) (by kernel_rfl) ?_
  refine HO.fin 5 (by kernel_rfl) ?_
  refine H.sr 2 (by kernel_rfl) ?_
  refine H.seqP (by kernel_rfl) ?_
  refine H.sg (by kernel_rfl) ?_
  refine HO.goP 1 (by kernel_rfl) ?_
  refine HO.len (by kernel_rfl) (by kernel_rfl) (ls_size enc70 x.2.2.2.2.1) ?_
  refine HO.fin 2 (by kernel_rfl) ?_
  refine H.condS (b := decide (16 < (IntKind.i64.wrap ((x.2.2.2.2.1.length : Int) + 1)))) (by kernel_rfl) (by kernel_rfl) (fun hb => ?_) (fun hb => ?_)
  rotate_left
  · rw [if_neg (of_decide_eq_false hb)] at h
    refine H.skipP (by kernel_rfl) ?_
    refine Kseq_norm ?_
    exact H.ren hS [0, 1] _ _ _ (by kernel_rfl) (law_L7_ok (x.1, x.2.2.1, x.2.2.2.1, y4.1, y4.2, x.2.2.1, x.2.2.2.2.2.2.1, x.2.2.2.2.2.2.2.1, x.2.2.2.2.2.2.2.2.1, x.2.2.2.2.2.2.2.2.2.1, x.2.2.2.2.2.2.2.2.2.2.1, x.2.2.2.2.2.2.2.2.2.2.2.1, x.2.2.2.2.2.2.2.2.2.2.2.2.1, x.2.2.2.2.2.2.2.2.2.2.2.2.2.1, x.2.2.2.2.2.2.2.2.2.2.2.2.2.2.1, x.2.2.2.2.2.2.2.2.2.2.2.2.2.2.2.1, x.2.2.2.2.2.2.2.2.2.2.2.2.2.2.2.2) r h W0 w0 S hS HLV)
  rw [if_pos (of_decide_eq_true hb)] at h
  refine H.regP (by kernel_rfl) ?_
  refine HO.fin 1 (by kernel_rfl) ?_
  exact H.ren hS [0, 1] _ _ _ (by kernel_rfl) (law_L7_ok (x.1, x.2.2.1, x.2.2.2.1, y4.1, y4.2, 3, x.2.2.2.2.2.2.1, x.2.2.2.2.2.2.2.1, x.2.2.2.2.2.2.2.2.1, x.2.2.2.2.2.2.2.2.2.1, x.2.2.2.2.2.2.2.2.2.2.1, x.2.2.2.2.2.2.2.2.2.2.2.1, x.2.2.2.2.2.2.2.2.2.2.2.2.1, x.2.2.2.2.2.2.2.2.2.2.2.2.2.1, x.2.2.2.2.2.2.2.2.2.2.2.2.2.2.1, x.2.2.2.2.2.2.2.2.2.2.2.2.2.2.2.1, x.2.2.2.2.2.2.2.2.2.2.2.2.2.2.2.2) r h W0 w0 S hS HLV)
def law_L5 (x : (List Int) × Int × Int × Int × Int × Int × Int × Int × (List Int)) : Option (Bool) :=
  (cpTree (x.2.2.2.1, x.2.2.2.2.1, x.2.2.2.2.2.1, x.2.2.2.2.2.2.1, x.2.2.2.2.2.2.2.1, x.2.2.2.2.2.2.2.2)) >>= fun y1 =>
  law_L6 (x.1, x.2.1, x.2.2.1, y1.2.2.2.2.2, [], 0, x.2.2.2.1, x.2.2.2.2.1, x.2.2.2.2.2.1, x.2.2.2.2.2.2.1, x.2.2.2.2.2.2.2.1, x.2.2.2.2.2.2.2.2, y1.1, y1.2.1, y1.2.2.1, y1.2.2.2.1, y1.2.2.2.2.1)
theorem law_L5_ok : ∀ (x : (List Int) × Int × Int × Int × Int × Int × Int × Int × (List Int)) (r : Bool), law_L5 x = some r → ∀ (W0 w0 : World) (S : Own), Std W0 w0 S 0 → PTo Tryd.prog W0 29 #[] (.returned (.bool true)) → H Tryd.prog w0 S 239 (cR (cR (cR (cR (cR (cR (cB Tryd.f9))))))) (mkS [(1, ls 1 false (encI .u8) x.1), (2, .int .u8 x.2.1), (3, .pointer (some ⟨0, 0, none⟩)), (8, .int .i64 x.2.2.1)] [(0, .cells [.int .u8 x.2.2.2.1, .int .i64 x.2.2.2.2.1, .int .i64 x.2.2.2.2.2.1, .int .i64 x.2.2.2.2.2.2.1, .int .u8 x.2.2.2.2.2.2.2.1, ls 1 false (encI .u8) x.2.2.2.2.2.2.2.2] 70 6)] 1 []) (KEnd Tryd.prog Tryd.f9 (PEnd w0 S (.returned (.bool r)))) := by
  intro x r h
  unfold law_L5 at h
  intro W0 w0 S hS
  intro HLV
  haveI := hS.noEx Tryd.prog
  refine H.sg (by kernel_rfl) ?_
  refine HO.goP 1 (by kernel_rfl) ?_
  obtain ⟨y1, hy, h⟩ := bindS h
  refine HO.callW hS [.agg [.keep, .keep, .keep, .keep, .keep, .list 1 false]] (cpTree_ok (x.2.2.2.1, x.2.2.2.2.1, x.2.2.2.2.2.1, x.2.2.2.2.2.2.1, x.2.2.2.2.2.2.2.1, x.2.2.2.2.2.2.2.2) y1 hy W0) (by kernel_rfl) (by kernel_rfl) ?_
  refine HO.fin 6 (by kernel_rfl) ?_
  refine H.sr 1 (by kernel_rfl) ?_
  refine H.seqP (by kernel_rfl) ?_
  refine H.sr 1 (by kernel_rfl) ?_
  refine H.blockI 2 (by kernel_rfl) ?_
  refine H.loopP (by kernel_rfl) ?_
  refine HL.tok 11 6 (es := #[]) (by kernel_rfl) ?_
  exact HL.ren hS [0, 1, 2] _ _ _ (by kernel_rfl) (law_L6_ok (x.1, x.2.1, x.2.2.1, y1.2.2.2.2.2, [], 0, x.2.2.2.1, x.2.2.2.2.1, x.2.2.2.2.2.1, x.2.2.2.2.2.2.1, x.2.2.2.2.2.2.2.1, x.2.2.2.2.2.2.2.2, y1.1, y1.2.1, y1.2.2.1, y1.2.2.2.1, y1.2.2.2.2.1) r h W0 w0 S hS HLV)
def law_L4 (x : (List Int) × Int × Bool × Int × Int × Int × Int × Int × (List Int)) : Option (Bool) :=
  if 2000 < (x.2.2.2.2.2.2.2.2.length : Int) then
    law_L5 (x.1, x.2.1, 3, x.2.2.2.1, x.2.2.2.2.1, x.2.2.2.2.2.1, x.2.2.2.2.2.2.1, x.2.2.2.2.2.2.2.1, x.2.2.2.2.2.2.2.2)
  else
    if (!x.2.2.1) = true then
      law_L5 (x.1, x.2.1, 1, x.2.2.2.1, x.2.2.2.2.1, x.2.2.2.2.2.1, x.2.2.2.2.2.2.1, x.2.2.2.2.2.2.2.1, x.2.2.2.2.2.2.2.2)
    else
      law_L5 (x.1, x.2.1, 0, x.2.2.2.1, x.2.2.2.2.1, x.2.2.2.2.2.1, x.2.2.2.2.2.2.1, x.2.2.2.2.2.2.2.1, x.2.2.2.2.2.2.2.2)
theorem law_L4_ok : ∀ (x : (List Int) × Int × Bool × Int × Int × Int × Int × Int × (List Int)) (r : Bool), law_L4 x = some r → ∀ (W0 w0 : World) (S : Own), Std W0 w0 S 0 → PTo Tryd.prog W0 29 #[] (.returned (.bool true)) → H Tryd.prog w0 S 239 (cR (cR (cR (cR (cB Tryd.f9))))) (mkS [(1, ls 1 false (encI .u8) x.1), (2, .int .u8 x.2.1), (3, .pointer (some ⟨0, 0, none⟩)), (7, .bool x.2.2.1)] [(0, .cells [.int .u8 x.2.2.2.1, .int .i64 x.2.2.2.2.1, .int .i64 x.2.2.2.2.2.1, .int .i64 x.2.2.2.2.2.2.1, .int .u8 x.2.2.2.2.2.2.2.1, ls 1 false (encI .u8) x.2.2.2.2.2.2.2.2] 70 6)] 1 []) (KEnd Tryd.prog Tryd.f9 (PEnd w0 S (.returned (.bool r)))) := by
  intro x r h
  unfold law_L4 at h
  intro W0 w0 S hS
  intro HLV
  haveI := hS.noEx Tryd.prog
  refine H.sr 1 (by kernel_rfl) ?_
  refine H.seqP (by kernel_rfl) ?_
  refine H.blockI 1 (by kernel_rfl) ?_
  refine H.sg (by kernel_rfl) ?_
  refine HO.goP 2 (by kernel_rfl) ?_
  refine HO.len (by kernel_rfl) (by kernel_rfl) (ls_size (encI .u8) x.2.2.2.2.2.2.2.2) ?_
  refine HO.fin 2 (by kernel_rfl) ?_
  refine H.condS (b := decide (2000 < (x.2.2.2.2.2.2.2.2.length : Int))) (by kernel_rfl) (by kernel_rfl) (fun hb => ?_) (fun hb => ?_)
  · rw [if_pos (of_decide_eq_true hb)] at h
    refine H.regP (by kernel_rfl) ?_
    refine HO.goP 1 (by kernel_rfl) ?_
    refine HO.done (by kernel_rfl) ?_
    refine Kblock_norm ?_
    refine Kseq_norm ?_
    exact H.ren hS [0] _ _ _ (by kernel_rfl) (law_L5_ok (x.1, x.2.1, 3, x.2.2.2.1, x.2.2.2.2.1, x.2.2.2.2.2.1, x.2.2.2.2.2.2.1, x.2.2.2.2.2.2.2.1, x.2.2.2.2.2.2.2.2) r h W0 w0 S hS HLV)
  rw [if_neg (of_decide_eq_false hb)] at h
  refine H.sr 3 (by kernel_rfl) ?_
  refine H.condS (b := !x.2.2.1) (by kernel_rfl) (by kernel_rfl) (fun hb => ?_) (fun hb => ?_)
  rotate_left
  · rw [if_neg (ne_true hb)] at h
    refine H.skipP (by kernel_rfl) ?_
    refine Kblock_norm ?_
    refine Kseq_norm ?_
    exact H.ren hS [0] _ _ _ (by kernel_rfl) (law_L5_ok (x.1, x.2.1, 0, x.2.2.2.1, x.2.2.2.2.1, x.2.2.2.2.2.1, x.2.2.2.2.2.2.1, x.2.2.2.2.2.2.2.1, x.2.2.2.2.2.2.2.2) r h W0 w0 S hS HLV)
  rw [if_pos hb] at h
  refine H.regP (by kernel_rfl) ?_
  refine HO.goP 1 (by kernel_rfl) ?_
  refine HO.done (by kernel_rfl) ?_
  refine Kblock_norm ?_
  refine Kseq_norm ?_
  exact H.ren hS [0] _ _ _ (by kernel_rfl) (law_L5_ok (x.1, x.2.1, 1, x.2.2.2.1, x.2.2.2.2.1, x.2.2.2.2.2.1, x.2.2.2.2.2.2.1, x.2.2.2.2.2.2.2.1, x.2.2.2.2.2.2.2.2) r h W0 w0 S hS HLV)
def law_L3 (x : (List Int) × Int × Bool × Int × Bool × Int × Int × Int × Int × (List Int)) : Option (Bool) :=
  if x.2.2.2.2.1 = true then
    if x.2.2.1 = true then
      law_L4 (x.1, x.2.1, (decide (x.2.2.2.2.2.2.1 = 0)), x.2.2.2.1, x.2.2.2.2.2.1, x.2.2.2.2.2.2.1, x.2.2.2.2.2.2.2.1, x.2.2.2.2.2.2.2.2.1, x.2.2.2.2.2.2.2.2.2)
    else
      law_L4 (x.1, x.2.1, false, x.2.2.2.1, x.2.2.2.2.2.1, x.2.2.2.2.2.2.1, x.2.2.2.2.2.2.2.1, x.2.2.2.2.2.2.2.2.1, x.2.2.2.2.2.2.2.2.2)
  else
    if x.2.2.2.1 = 5 then
      if (-1) ≤ x.2.2.2.2.2.1 then
        if x.2.2.2.2.2.1 ≤ 127 then
          if x.2.2.2.2.2.2.1 = 0 then
            if x.2.2.2.2.2.2.2.1 = 0 then
              if 1 ≤ x.2.2.2.2.2.2.2.2.1 then
                if x.2.2.2.2.2.2.2.2.1 ≤ 7 then
                  law_L4 (x.1, x.2.1, (decide ((x.2.2.2.2.2.2.2.2.2.length : Int) = 0)), x.2.2.2.1, x.2.2.2.2.2.1, x.2.2.2.2.2.2.1, x.2.2.2.2.2.2.2.1, x.2.2.2.2.2.2.2.2.1, x.2.2.2.2.2.2.2.2.2)
                else
                  law_L4 (x.1, x.2.1, false, x.2.2.2.1, x.2.2.2.2.2.1, x.2.2.2.2.2.2.1, x.2.2.2.2.2.2.2.1, x.2.2.2.2.2.2.2.2.1, x.2.2.2.2.2.2.2.2.2)
              else
                law_L4 (x.1, x.2.1, false, x.2.2.2.1, x.2.2.2.2.2.1, x.2.2.2.2.2.2.1, x.2.2.2.2.2.2.2.1, x.2.2.2.2.2.2.2.2.1, x.2.2.2.2.2.2.2.2.2)
            else
              law_L4 (x.1, x.2.1, false, x.2.2.2.1, x.2.2.2.2.2.1, x.2.2.2.2.2.2.1, x.2.2.2.2.2.2.2.1, x.2.2.2.2.2.2.2.2.1, x.2.2.2.2.2.2.2.2.2)
          else
            law_L4 (x.1, x.2.1, false, x.2.2.2.1, x.2.2.2.2.2.1, x.2.2.2.2.2.2.1, x.2.2.2.2.2.2.2.1, x.2.2.2.2.2.2.2.2.1, x.2.2.2.2.2.2.2.2.2)
        else
          law_L4 (x.1, x.2.1, false, x.2.2.2.1, x.2.2.2.2.2.1, x.2.2.2.2.2.2.1, x.2.2.2.2.2.2.2.1, x.2.2.2.2.2.2.2.2.1, x.2.2.2.2.2.2.2.2.2)
      else
        law_L4 (x.1, x.2.1, false, x.2.2.2.1, x.2.2.2.2.2.1, x.2.2.2.2.2.2.1, x.2.2.2.2.2.2.2.1, x.2.2.2.2.2.2.2.2.1, x.2.2.2.2.2.2.2.2.2)
    else
      law_L4 (x.1, x.2.1, false, x.2.2.2.1, x.2.2.2.2.2.1, x.2.2.2.2.2.2.1, x.2.2.2.2.2.2.2.1, x.2.2.2.2.2.2.2.2.1, x.2.2.2.2.2.2.2.2.2)
theorem law_L3_ok : ∀ (x : (List Int) × Int × Bool × Int × Bool × Int × Int × Int × Int × (List Int)) (r : Bool), law_L3 x = some r → ∀ (W0 w0 : World) (S : Own), Std W0 w0 S 0 → PTo Tryd.prog W0 29 #[] (.returned (.bool true)) → H Tryd.prog w0 S 239 (cR (cR (cR (cL (cR (cL (cR (cR (cR (cB Tryd.f9)))))))))) (mkS [(1, ls 1 false (encI .u8) x.1), (2, .int .u8 x.2.1), (3, .pointer (some ⟨0, 0, none⟩)), (7, .bool x.2.2.1), (56, .int .u8 x.2.2.2.1), (70, .bool x.2.2.2.2.1)] [(0, .cells [.int .u8 x.2.2.2.1, .int .i64 x.2.2.2.2.2.1, .int .i64 x.2.2.2.2.2.2.1, .int .i64 x.2.2.2.2.2.2.2.1, .int .u8 x.2.2.2.2.2.2.2.2.1, ls 1 false (encI .u8) x.2.2.2.2.2.2.2.2.2] 70 6)] 1 []) (Kblock 0 (Kseq Tryd.prog w0 S 239 (cR (cR (cR (cR (cB Tryd.f9))))) (KEnd Tryd.prog Tryd.f9 (PEnd w0 S (.returned (.bool r)))))) := by
  intro x r h
  unfold law_L3 at h
  intro W0 w0 S hS
  intro HLV
  haveI := hS.noEx Tryd.prog
  refine H.condS (b := x.2.2.2.2.1) (by kernel_rfl) (by kernel_rfl) (fun hb => ?_) (fun hb => ?_)
  · rw [if_pos hb] at h
    refine H.regP (by kernel_rfl) ?_
    refine HO.goP 1 (by kernel_rfl) ?_
    refine HO.boolP x.2.2.1 (by kernel_rfl) (by kernel_rfl) (fun hb => ?_) (fun hb => ?_)
    · rw [if_pos hb] at h
      refine HO.goP 5 (by kernel_rfl) ?_
      refine HO.done (by kernel_rfl) ?_
      refine Kblock_norm ?_
      refine Kseq_norm ?_
      exact H.ren hS [0] _ _ _ (by kernel_rfl) (law_L4_ok (x.1, x.2.1, (decide (x.2.2.2.2.2.2.1 = 0)), x.2.2.2.1, x.2.2.2.2.2.1, x.2.2.2.2.2.2.1, x.2.2.2.2.2.2.2.1, x.2.2.2.2.2.2.2.2.1, x.2.2.2.2.2.2.2.2.2) r h W0 w0 S hS HLV)
    rw [if_neg (ne_true hb)] at h
    refine HO.goP 5 (by kernel_rfl) ?_
    refine HO.done (by kernel_rfl) ?_
    refine Kblock_norm ?_
    refine Kseq_norm ?_
    exact H.ren hS [0] _ _ _ (by kernel_rfl) (law_L4_ok (x.1, x.2.1, false, x.2.2.2.1, x.2.2.2.2.2.1, x.2.2.2.2.2.2.1, x.2.2.2.2.2.2.2.1, x.2.2.2.2.2.2.2.2.1, x.2.2.2.2.2.2.2.2.2) r h W0 w0 S hS HLV)
  rw [if_neg (ne_true hb)] at h
  refine H.sr 2 (by kernel_rfl) ?_
  refine H.condS (b := decide (x.2.2.2.1 = 5)) (by kernel_rfl) (by kernel_rfl) (fun hb => ?_) (fun hb => ?_)
  rotate_left
  · rw [if_neg (of_decide_eq_false hb)] at h
    refine H.regP (by kernel_rfl) ?_
    refine HO.goP 1 (by kernel_rfl) ?_
    refine HO.done (by kernel_rfl) ?_
    refine Kblock_norm ?_
    refine Kseq_norm ?_
    exact H.ren hS [0] _ _ _ (by kernel_rfl) (law_L4_ok (x.1, x.2.1, false, x.2.2.2.1, x.2.2.2.2.2.1, x.2.2.2.2.2.2.1, x.2.2.2.2.2.2.2.1, x.2.2.2.2.2.2.2.2.1, x.2.2.2.2.2.2.2.2.2) r h W0 w0 S hS HLV)
  rw [if_pos (of_decide_eq_true hb)] at h
  refine H.regP (by kernel_rfl) ?_
  refine HO.goP 3 (by kernel_rfl) ?_
  refine HO.boolP (decide ((-1) ≤ x.2.2.2.2.2.1)) (by kernel_rfl) (by kernel_rfl) (fun hb => ?_) (fun hb => ?_)
  rotate_left
  · rw [if_neg (of_decide_eq_false hb)] at h
    refine HO.goP 31 (by kernel_rfl) ?_
    refine HO.done (by kernel_rfl) ?_
    refine Kblock_norm ?_
    refine Kseq_norm ?_
    exact H.ren hS [0] _ _ _ (by kernel_rfl) (law_L4_ok (x.1, x.2.1, false, x.2.2.2.1, x.2.2.2.2.2.1, x.2.2.2.2.2.2.1, x.2.2.2.2.2.2.2.1, x.2.2.2.2.2.2.2.2.1, x.2.2.2.2.2.2.2.2.2) r h W0 w0 S hS HLV)
  rw [if_pos (of_decide_eq_true hb)] at h
  refine HO.goP 4 (by kernel_rfl) ?_
  refine HO.boolP (decide (x.2.2.2.2.2.1 ≤ 127)) (by kernel_rfl) (by kernel_rfl) (fun hb => ?_) (fun hb => ?_)
  rotate_left
  · rw [if_neg (of_decide_eq_false hb)] at h
    refine HO.goP 26 (by kernel_rfl) ?_
    refine HO.done (by kernel_rfl) ?_
    refine Kblock_norm ?_
    refine Kseq_norm ?_
    exact H.ren hS [0] _ _ _ (by kernel_rfl) (law_L4_ok (x.1, x.2.1, false, x.2.2.2.1, x.2.2.2.2.2.1, x.2.2.2.2.2.2.1, x.2.2.2.2.2.2.2.1, x.2.2.2.2.2.2.2.2.1, x.2.2.2.2.2.2.2.2.2) r h W0 w0 S hS HLV)
  rw [if_pos (of_decide_eq_true hb)] at h
  refine HO.goP 4 (by kernel_rfl) ?_
  refine HO.boolP (decide (x.2.2.2.2.2.2.1 = 0)) (by kernel_rfl) (by kernel_rfl) (fun hb => ?_) (fun hb => ?_)
  rotate_left
  · rw [if_neg (of_decide_eq_false hb)] at h
    refine HO.goP 21 (by kernel_rfl) ?_
    refine HO.done (by kernel_rfl) ?_
    refine Kblock_norm ?_
    refine Kseq_norm ?_
    exact H.ren hS [0] _ _ _ (by kernel_rfl) (law_L4_ok (x.1, x.2.1, false, x.2.2.2.1, x.2.2.2.2.2.1, x.2.2.2.2.2.2.1, x.2.2.2.2.2.2.2.1, x.2.2.2.2.2.2.2.2.1, x.2.2.2.2.2.2.2.2.2) r h W0 w0 S hS HLV)
  rw [if_pos (of_decide_eq_true hb)] at h
  refine HO.goP 4 (by kernel_rfl) ?_
  refine HO.boolP (decide (x.2.2.2.2.2.2.2.1 = 0)) (by kernel_rfl) (by kernel_rfl) (fun hb => ?_) (fun hb => ?_)
  rotate_left
  · rw [if_neg (of_decide_eq_false hb)] at h
    refine HO.goP 16 (by kernel_rfl) ?_
    refine HO.done (by kernel_rfl) ?_
    refine Kblock_norm ?_
    refine Kseq_norm ?_
    exact H.ren hS [0] _ _ _ (by kernel_rfl) (law_L4_ok (x.1, x.2.1, false, x.2.2.2.1, x.2.2.2.2.2.1, x.2.2.2.2.2.2.1, x.2.2.2.2.2.2.2.1, x.2.2.2.2.2.2.2.2.1, x.2.2.2.2.2.2.2.2.2) r h W0 w0 S hS HLV)
  rw [if_pos (of_decide_eq_true hb)] at h
  refine HO.goP 4 (by kernel_rfl) ?_
  refine HO.boolP (decide (1 ≤ x.2.2.2.2.2.2.2.2.1)) (by kernel_rfl) (by kernel_rfl) (fun hb => ?_) (fun hb => ?_)
  rotate_left
  · rw [if_neg (of_decide_eq_false hb)] at h
    refine HO.goP 11 (by kernel_rfl) ?_
    refine HO.done (by kernel_rfl) ?_
    refine Kblock_norm ?_
    refine Kseq_norm ?_
    exact H.ren hS [0] _ _ _ (by kernel_rfl) (law_L4_ok (x.1, x.2.1, false, x.2.2.2.1, x.2.2.2.2.2.1, x.2.2.2.2.2.2.1, x.2.2.2.2.2.2.2.1, x.2.2.2.2.2.2.2.2.1, x.2.2.2.2.2.2.2.2.2) r h W0 w0 S hS HLV)
  rw [if_pos (of_decide_eq_true hb)] at h
  refine HO.goP 4 (by kernel_rfl) ?_
  refine HO.boolP (decide (x.2.2.2.2.2.2.2.2.1 ≤ 7)) (by kernel_rfl) (by kernel_rfl) (fun hb => ?_) (fun hb => ?_)
  rotate_left
  · rw [if_neg (of_decide_eq_false hb)] at h
    refine HO.goP 6 (by kernel_rfl) ?_
    refine HO.done (by kernel_rfl) ?_
    refine Kblock_norm ?_
    refine Kseq_norm ?_
    exact H.ren hS [0] _ _ _ (by kernel_rfl) (law_L4_ok (x.1, x.2.1, false, x.2.2.2.1, x.2.2.2.2.2.1, x.2.2.2.2.2.2.1, x.2.2.2.2.2.2.2.1, x.2.2.2.2.2.2.2.2.1, x.2.2.2.2.2.2.2.2.2) r h W0 w0 S hS HLV)
  rw [if_pos (of_decide_eq_true hb)] at h
  refine HO.goP 2 (by kernel_rfl) ?_
  refine HO.len (by kernel_rfl) (by kernel_rfl) (ls_size (encI .u8) x.2.2.2.2.2.2.2.2.2) ?_
  refine HO.goP 3 (by kernel_rfl) ?_
  refine HO.done (by kernel_rfl) ?_
  refine Kblock_norm ?_
  refine Kseq_norm ?_
  exact H.ren hS [0] _ _ _ (by kernel_rfl) (law_L4_ok (x.1, x.2.1, (decide ((x.2.2.2.2.2.2.2.2.2.length : Int) = 0)), x.2.2.2.1, x.2.2.2.2.2.1, x.2.2.2.2.2.2.1, x.2.2.2.2.2.2.2.1, x.2.2.2.2.2.2.2.2.1, x.2.2.2.2.2.2.2.2.2) r h W0 w0 S hS HLV)
def law_L2 (x : (List Int) × Int × Bool × Int × Int × Int × Int × Int × (List Int)) : Option (Bool) :=
  if x.2.2.2.1 = 1 then
    if x.2.2.1 = true then
      if (-1) ≤ x.2.2.2.2.2.1 then
        law_L4 (x.1, x.2.1, (decide (x.2.2.2.2.2.1 ≤ 127)), x.2.2.2.1, x.2.2.2.2.1, x.2.2.2.2.2.1, x.2.2.2.2.2.2.1, x.2.2.2.2.2.2.2.1, x.2.2.2.2.2.2.2.2)
      else
        law_L4 (x.1, x.2.1, false, x.2.2.2.1, x.2.2.2.2.1, x.2.2.2.2.2.1, x.2.2.2.2.2.2.1, x.2.2.2.2.2.2.2.1, x.2.2.2.2.2.2.2.2)
    else
      law_L4 (x.1, x.2.1, false, x.2.2.2.1, x.2.2.2.2.1, x.2.2.2.2.2.1, x.2.2.2.2.2.2.1, x.2.2.2.2.2.2.2.1, x.2.2.2.2.2.2.2.2)
  else
    if x.2.2.2.1 = 2 then
      law_L3 (x.1, x.2.1, x.2.2.1, x.2.2.2.1, (decide (x.2.2.2.1 = 2)), x.2.2.2.2.1, x.2.2.2.2.2.1, x.2.2.2.2.2.2.1, x.2.2.2.2.2.2.2.1, x.2.2.2.2.2.2.2.2)
    else
      if x.2.2.2.1 = 3 then
        law_L3 (x.1, x.2.1, x.2.2.1, x.2.2.2.1, (decide (x.2.2.2.1 = 3)), x.2.2.2.2.1, x.2.2.2.2.2.1, x.2.2.2.2.2.2.1, x.2.2.2.2.2.2.2.1, x.2.2.2.2.2.2.2.2)
      else
        law_L3 (x.1, x.2.1, x.2.2.1, x.2.2.2.1, (decide (x.2.2.2.1 = 4)), x.2.2.2.2.1, x.2.2.2.2.2.1, x.2.2.2.2.2.2.1, x.2.2.2.2.2.2.2.1, x.2.2.2.2.2.2.2.2)
theorem law_L2_ok : ∀ (x : (List Int) × Int × Bool × Int × Int × Int × Int × Int × (List Int)) (r : Bool), law_L2 x = some r → ∀ (W0 w0 : World) (S : Own), Std W0 w0 S 0 → PTo Tryd.prog W0 29 #[] (.returned (.bool true)) → H Tryd.prog w0 S 239 (cR (cR (cR (cB Tryd.f9)))) (mkS [(1, ls 1 false (encI .u8) x.1), (2, .int .u8 x.2.1), (3, .pointer (some ⟨0, 0, none⟩)), (7, .bool x.2.2.1)] [(0, .cells [.int .u8 x.2.2.2.1, .int .i64 x.2.2.2.2.1, .int .i64 x.2.2.2.2.2.1, .int .i64 x.2.2.2.2.2.2.1, .int .u8 x.2.2.2.2.2.2.2.1, ls 1 false (encI .u8) x.2.2.2.2.2.2.2.2] 70 6)] 1 []) (KEnd Tryd.prog Tryd.f9 (PEnd w0 S (.returned (.bool r)))) := by
  intro x r h
  unfold law_L2 at h
  intro W0 w0 S hS
  intro HLV
  haveI := hS.noEx Tryd.prog
  refine H.seqP (by kernel_rfl) ?_
  refine H.sr 2 (by kernel_rfl) ?_
  refine H.blockI 0 (by kernel_rfl) ?_
  refine H.sr 2 (by kernel_rfl) ?_
  refine H.condS (b := decide (x.2.2.2.1 = 1)) (by kernel_rfl) (by kernel_rfl) (fun hb => ?_) (fun hb => ?_)
  · rw [if_pos (of_decide_eq_true hb)] at h
    refine H.regP (by kernel_rfl) ?_
    refine HO.goP 1 (by kernel_rfl) ?_
    refine HO.boolP x.2.2.1 (by kernel_rfl) (by kernel_rfl) (fun hb => ?_) (fun hb => ?_)
    rotate_left
    · rw [if_neg (ne_true hb)] at h
      refine HO.goP 10 (by kernel_rfl) ?_
      refine HO.done (by kernel_rfl) ?_
      refine Kblock_norm ?_
      refine Kseq_norm ?_
      exact H.ren hS [0] _ _ _ (by kernel_rfl) (law_L4_ok (x.1, x.2.1, false, x.2.2.2.1, x.2.2.2.2.1, x.2.2.2.2.2.1, x.2.2.2.2.2.2.1, x.2.2.2.2.2.2.2.1, x.2.2.2.2.2.2.2.2) r h W0 w0 S hS HLV)
    rw [if_pos hb] at h
    refine HO.goP 4 (by kernel_rfl) ?_
    refine HO.boolP (decide ((-1) ≤ x.2.2.2.2.2.1)) (by kernel_rfl) (by kernel_rfl) (fun hb => ?_) (fun hb => ?_)
    · rw [if_pos (of_decide_eq_true hb)] at h
      refine HO.goP 5 (by kernel_rfl) ?_
      refine HO.done (by kernel_rfl) ?_
      refine Kblock_norm ?_
      refine Kseq_norm ?_
      exact H.ren hS [0] _ _ _ (by kernel_rfl) (law_L4_ok (x.1, x.2.1, (decide (x.2.2.2.2.2.1 ≤ 127)), x.2.2.2.1, x.2.2.2.2.1, x.2.2.2.2.2.1, x.2.2.2.2.2.2.1, x.2.2.2.2.2.2.2.1, x.2.2.2.2.2.2.2.2) r h W0 w0 S hS HLV)
    rw [if_neg (of_decide_eq_false hb)] at h
    refine HO.goP 5 (by kernel_rfl) ?_
    refine HO.done (by kernel_rfl) ?_
    refine Kblock_norm ?_
    refine Kseq_norm ?_
    exact H.ren hS [0] _ _ _ (by kernel_rfl) (law_L4_ok (x.1, x.2.1, false, x.2.2.2.1, x.2.2.2.2.1, x.2.2.2.2.2.1, x.2.2.2.2.2.2.1, x.2.2.2.2.2.2.2.1, x.2.2.2.2.2.2.2.2) r h W0 w0 S hS HLV)
  rw [if_neg (of_decide_eq_false hb)] at h
  refine H.seqP (by kernel_rfl) ?_
  refine H.sr 2 (by kernel_rfl) ?_
  refine H.condS (b := decide (x.2.2.2.1 = 2)) (by kernel_rfl) (by kernel_rfl) (fun hb => ?_) (fun hb => ?_)
  · rw [if_pos (of_decide_eq_true hb)] at h
    refine H.skipP (by kernel_rfl) ?_
    refine Kseq_norm ?_
    exact H.ren hS [0] _ _ _ (by kernel_rfl) (law_L3_ok (x.1, x.2.1, x.2.2.1, x.2.2.2.1, (decide (x.2.2.2.1 = 2)), x.2.2.2.2.1, x.2.2.2.2.2.1, x.2.2.2.2.2.2.1, x.2.2.2.2.2.2.2.1, x.2.2.2.2.2.2.2.2) r h W0 w0 S hS HLV)
  rw [if_neg (of_decide_eq_false hb)] at h
  refine H.sr 2 (by kernel_rfl) ?_
  refine H.condS (b := decide (x.2.2.2.1 = 3)) (by kernel_rfl) (by kernel_rfl) (fun hb => ?_) (fun hb => ?_)
  · rw [if_pos (of_decide_eq_true hb)] at h
    refine H.skipP (by kernel_rfl) ?_
    refine Kseq_norm ?_
    exact H.ren hS [0] _ _ _ (by kernel_rfl) (law_L3_ok (x.1, x.2.1, x.2.2.1, x.2.2.2.1, (decide (x.2.2.2.1 = 3)), x.2.2.2.2.1, x.2.2.2.2.2.1, x.2.2.2.2.2.2.1, x.2.2.2.2.2.2.2.1, x.2.2.2.2.2.2.2.2) r h W0 w0 S hS HLV)
  rw [if_neg (of_decide_eq_false hb)] at h
  refine H.regP (by kernel_rfl) ?_
  refine HO.fin 2 (by kernel_rfl) ?_
  exact H.ren hS [0] _ _ _ (by kernel_rfl) (law_L3_ok (x.1, x.2.1, x.2.2.1, x.2.2.2.1, (decide (x.2.2.2.1 = 4)), x.2.2.2.2.1, x.2.2.2.2.2.1, x.2.2.2.2.2.2.1, x.2.2.2.2.2.2.2.1, x.2.2.2.2.2.2.2.2) r h W0 w0 S hS HLV)
def law_L1 (x : (List Int) × Int × Bool × Int × Int × Int × Int × Int × (List Int)) : Option (Bool) :=
  if x.2.2.1 = true then
    some true
  else
    if 0 ≤ x.2.2.2.2.1 then
      if x.2.2.2.2.1 ≤ 127 then
        if 0 ≤ x.2.2.2.2.2.2.1 then
          if x.2.2.2.2.2.2.1 ≤ 255 then
            law_L2 (x.1, x.2.1, (decide (x.2.2.2.2.2.2.2.1 = 0)), x.2.2.2.1, x.2.2.2.2.1, x.2.2.2.2.2.1, x.2.2.2.2.2.2.1, x.2.2.2.2.2.2.2.1, x.2.2.2.2.2.2.2.2)
          else
            law_L2 (x.1, x.2.1, false, x.2.2.2.1, x.2.2.2.2.1, x.2.2.2.2.2.1, x.2.2.2.2.2.2.1, x.2.2.2.2.2.2.2.1, x.2.2.2.2.2.2.2.2)
        else
          law_L2 (x.1, x.2.1, false, x.2.2.2.1, x.2.2.2.2.1, x.2.2.2.2.2.1, x.2.2.2.2.2.2.1, x.2.2.2.2.2.2.2.1, x.2.2.2.2.2.2.2.2)
      else
        law_L2 (x.1, x.2.1, false, x.2.2.2.1, x.2.2.2.2.1, x.2.2.2.2.2.1, x.2.2.2.2.2.2.1, x.2.2.2.2.2.2.2.1, x.2.2.2.2.2.2.2.2)
    else
      law_L2 (x.1, x.2.1, false, x.2.2.2.1, x.2.2.2.2.1, x.2.2.2.2.2.1, x.2.2.2.2.2.2.1, x.2.2.2.2.2.2.2.1, x.2.2.2.2.2.2.2.2)
theorem law_L1_ok : ∀ (x : (List Int) × Int × Bool × Int × Int × Int × Int × Int × (List Int)) (r : Bool), law_L1 x = some r → ∀ (W0 w0 : World) (S : Own), Std W0 w0 S 0 → PTo Tryd.prog W0 29 #[] (.returned (.bool true)) → H Tryd.prog w0 S 239 (cR (cL (cR (cB Tryd.f9)))) (mkS [(1, ls 1 false (encI .u8) x.1), (2, .int .u8 x.2.1), (3, .pointer (some ⟨0, 0, none⟩)), (30, .bool x.2.2.1)] [(0, .cells [.int .u8 x.2.2.2.1, .int .i64 x.2.2.2.2.1, .int .i64 x.2.2.2.2.2.1, .int .i64 x.2.2.2.2.2.2.1, .int .u8 x.2.2.2.2.2.2.2.1, ls 1 false (encI .u8) x.2.2.2.2.2.2.2.2] 70 6)] 1 []) (Kseq Tryd.prog w0 S 239 (cR (cR (cB Tryd.f9))) (KEnd Tryd.prog Tryd.f9 (PEnd w0 S (.returned (.bool r))))) := by
  intro x r h
  unfold law_L1 at h
  intro W0 w0 S hS
  intro HLV
  haveI := hS.noEx Tryd.prog
  refine H.condS (b := x.2.2.1) (by kernel_rfl) (by kernel_rfl) (fun hb => ?_) (fun hb => ?_)
  · rw [if_pos hb] at h
    refine H.sg (by kernel_rfl) ?_
    refine HO.callW hS [] HLV (by kernel_rfl) (by kernel_rfl) ?_
    refine HO.fin 1 (by kernel_rfl) ?_
    refine H.retP (by kernel_rfl) ?_
    refine Kseq_ret ?_
    obtain rfl := Option.some.inj h
    exact KEnd.ret (by kernel_rfl) (by kernel_rfl) (by kernel_rfl)
  rw [if_neg (ne_true hb)] at h
  refine H.skipP (by kernel_rfl) ?_
  refine Kseq_norm ?_
  refine H.sg (by kernel_rfl) ?_
  refine HO.goP 3 (by kernel_rfl) ?_
  refine HO.boolP (decide (0 ≤ x.2.2.2.2.1)) (by kernel_rfl) (by kernel_rfl) (fun hb => ?_) (fun hb => ?_)
  rotate_left
  · rw [if_neg (of_decide_eq_false hb)] at h
    refine HO.fin 20 (by kernel_rfl) ?_
    exact H.ren hS [0] _ _ _ (by kernel_rfl) (law_L2_ok (x.1, x.2.1, false, x.2.2.2.1, x.2.2.2.2.1, x.2.2.2.2.2.1, x.2.2.2.2.2.2.1, x.2.2.2.2.2.2.2.1, x.2.2.2.2.2.2.2.2) r h W0 w0 S hS HLV)
  rw [if_pos (of_decide_eq_true hb)] at h
  refine HO.goP 4 (by kernel_rfl) ?_
  refine HO.boolP (decide (x.2.2.2.2.1 ≤ 127)) (by kernel_rfl) (by kernel_rfl) (fun hb => ?_) (fun hb => ?_)
  rotate_left
  · rw [if_neg (of_decide_eq_false hb)] at h
    refine HO.fin 15 (by kernel_rfl) ?_
    exact H.ren hS [0] _ _ _ (by kernel_rfl) (law_L2_ok (x.1, x.2.1, false, x.2.2.2.1, x.2.2.2.2.1, x.2.2.2.2.2.1, x.2.2.2.2.2.2.1, x.2.2.2.2.2.2.2.1, x.2.2.2.2.2.2.2.2) r h W0 w0 S hS HLV)
  rw [if_pos (of_decide_eq_true hb)] at h
  refine HO.goP 4 (by kernel_rfl) ?_
  refine HO.boolP (decide (0 ≤ x.2.2.2.2.2.2.1)) (by kernel_rfl) (by kernel_rfl) (fun hb => ?_) (fun hb => ?_)
  rotate_left
  · rw [if_neg (of_decide_eq_false hb)] at h
    refine HO.fin 10 (by kernel_rfl) ?_
    exact H.ren hS [0] _ _ _ (by kernel_rfl) (law_L2_ok (x.1, x.2.1, false, x.2.2.2.1, x.2.2.2.2.1, x.2.2.2.2.2.1, x.2.2.2.2.2.2.1, x.2.2.2.2.2.2.2.1, x.2.2.2.2.2.2.2.2) r h W0 w0 S hS HLV)
  rw [if_pos (of_decide_eq_true hb)] at h
  refine HO.goP 4 (by kernel_rfl) ?_
  refine HO.boolP (decide (x.2.2.2.2.2.2.1 ≤ 255)) (by kernel_rfl) (by kernel_rfl) (fun hb => ?_) (fun hb => ?_)
  · rw [if_pos (of_decide_eq_true hb)] at h
    refine HO.fin 5 (by kernel_rfl) ?_
    exact H.ren hS [0] _ _ _ (by kernel_rfl) (law_L2_ok (x.1, x.2.1, (decide (x.2.2.2.2.2.2.2.1 = 0)), x.2.2.2.1, x.2.2.2.2.1, x.2.2.2.2.2.1, x.2.2.2.2.2.2.1, x.2.2.2.2.2.2.2.1, x.2.2.2.2.2.2.2.2) r h W0 w0 S hS HLV)
  rw [if_neg (of_decide_eq_false hb)] at h
  refine HO.fin 5 (by kernel_rfl) ?_
  exact H.ren hS [0] _ _ _ (by kernel_rfl) (law_L2_ok (x.1, x.2.1, false, x.2.2.2.1, x.2.2.2.2.1, x.2.2.2.2.2.1, x.2.2.2.2.2.2.1, x.2.2.2.2.2.2.2.1, x.2.2.2.2.2.2.2.2) r h W0 w0 S hS HLV)
def law (x : Int × Int × Int × Int × Int × (List Int) × (List Int) × Int) : Option (Bool) :=
  if 2100 < (x.2.2.2.2.2.1.length : Int) then
    law_L1 (x.2.2.2.2.2.2.1, x.2.2.2.2.2.2.2, true, x.1, x.2.1, x.2.2.1, x.2.2.2.1, x.2.2.2.2.1, x.2.2.2.2.2.1)
  else
    law_L1 (x.2.2.2.2.2.2.1, x.2.2.2.2.2.2.2, (decide (100 < (x.2.2.2.2.2.2.1.length : Int))), x.1, x.2.1, x.2.2.1, x.2.2.2.1, x.2.2.2.2.1, x.2.2.2.2.2.1)
theorem law_ok : ∀ (x : Int × Int × Int × Int × Int × (List Int) × (List Int) × Int) (r : Bool), law x = some r → ∀ W0 : World, PTo Tryd.prog W0 29 #[] (.returned (.bool true)) → PTo Tryd.prog W0 9 #[.agg #[.int .u8 x.1, .int .i64 x.2.1, .int .i64 x.2.2.1, .int .i64 x.2.2.2.1, .int .u8 x.2.2.2.2.1, ls 1 false (encI .u8) x.2.2.2.2.2.1], ls 1 false (encI .u8) x.2.2.2.2.2.2.1, .int .u8 x.2.2.2.2.2.2.2] (.returned (.bool r)) := by
  intro x r h
  unfold law at h
  intro W0
  intro HLV
  refine PTo.of_body (fn := Tryd.f9) (code := cB Tryd.f9) Tryd.func9 rfl rfl ?_
  intro w0 S hS
  haveI := hS.noEx Tryd.prog
  refine H.sr 2 (by kernel_rfl) ?_
  refine H.seqP (by kernel_rfl) ?_
  refine H.sg (by kernel_rfl) ?_
  refine HO.goP 2 (by kernel_rfl) ?_
  refine HO.len (by kernel_rfl) (by kernel_rfl) (ls_size (encI .u8) x.2.2.2.2.2.1) ?_
  refine HO.goP 1 (by kernel_rfl) ?_
  refine HO.boolP (decide (2100 < (x.2.2.2.2.2.1.length : Int))) (by kernel_rfl) (by kernel_rfl) (fun hb => ?_) (fun hb => ?_)
  · rw [if_pos (of_decide_eq_true hb)] at h
    refine HO.fin 4 (by kernel_rfl) ?_
    exact H.ren hS [0] _ _ _ (by kernel_rfl) (law_L1_ok (x.2.2.2.2.2.2.1, x.2.2.2.2.2.2.2, true, x.1, x.2.1, x.2.2.1, x.2.2.2.1, x.2.2.2.2.1, x.2.2.2.2.2.1) r h W0 w0 S hS HLV)
  rw [if_neg (of_decide_eq_false hb)] at h
  refine HO.goP 1 (by kernel_rfl) ?_
  refine HO.len (by kernel_rfl) (by kernel_rfl) (ls_size (encI .u8) x.2.2.2.2.2.2.1) ?_
  refine HO.fin 2 (by kernel_rfl) ?_
  exact H.ren hS [0] _ _ _ (by kernel_rfl) (law_L1_ok (x.2.2.2.2.2.2.1, x.2.2.2.2.2.2.2, (decide (100 < (x.2.2.2.2.2.2.1.length : Int))), x.1, x.2.1, x.2.2.1, x.2.2.2.1, x.2.2.2.2.1, x.2.2.2.2.2.1) r h W0 w0 S hS HLV)
end Vf
