import Derived.Test.YthfhdmogocphpaaVfW
set_option linter.unusedVariables false
set_option linter.unusedSimpArgs false
set_option maxHeartbeats 4000000
namespace Vf
open Go Go.Vx Go.Proofs
def encodeC (x : Int × Int × Bool × (List Int) × (List S78)) : Option ((List Int) × Int) :=
  (encodeAs (x.1, x.2.1, x.2.2.1, x.2.2.2.1, x.2.2.2.2, 0)) >>= fun y1 =>
  some (y1.1, y1.2)
theorem encodeC_ok : ∀ (x : Int × Int × Bool × (List Int) × (List S78)) (r : (List Int) × Int), encodeC x = some r → ∀ W0 : World, PTo Try.prog W0 30 #[.agg #[.int .u8 x.1, .int .u32 x.2.1, .bool x.2.2.1, ls 1 false (encI .u8) x.2.2.2.1, ls 5 false enc78 x.2.2.2.2]] (.returned (.tuple #[ls 1 true (encI .u8) r.1, .int .i64 r.2])) := by
  intro x r h
  unfold encodeC at h
  intro W0
  refine PTo.of_body (fn := Try.f30) (code := cB Try.f30) Try.func30 rfl rfl ?_
  intro w0 S hS
  haveI := hS.noEx Try.prog
  refine H.sr 3 (by kernel_rfl) ?_
  refine H.sg (by kernel_rfl) ?_
  refine HO.goP 1 (by kernel_rfl) ?_
  obtain ⟨y1, hy, h⟩ := bindS h
  refine HO.callW hS [.agg [.keep, .keep, .keep, .list 1 false, .list 5 false], .keep] (encodeAs_ok (x.1, x.2.1, x.2.2.1, x.2.2.2.1, x.2.2.2.2, 0) y1 hy W0) (by kernel_rfl) (by kernel_rfl) ?_
  refine HO.fin 4 (by kernel_rfl) ?_
  refine H.retP (by kernel_rfl) ?_
  obtain rfl := Option.some.inj h
  exact KEnd.retW (v := .tuple #[ls 1 true (encI .u8) y1.1, .int .i64 y1.2]) (.tuple [.list 1 true, .keep]) (by kernel_rfl) (by kernel_rfl) (by kernel_rfl) (by kernel_rfl)
def trEncode (x : Int × Int × Int × Int × (List Int)) : Option ((List Int) × Int) :=
  (trCheck (x.1, x.2.1, x.2.2.1, x.2.2.2.1, x.2.2.2.2)) >>= fun y1 =>
  if (!decide (y1 = 0)) = true then
    some ([], y1)
  else
    (uses x.1) >>= fun y2 =>
    if y2.1 = true then
      (numberE (0, (IntKind.i64.wrap x.2.1))) >>= fun y3 =>
      if y2.2.1 = true then
        (numberE (1, (IntKind.i64.wrap x.2.2.1))) >>= fun y4 =>
        if y2.2.2 = true then
          (numberE (2, (IntKind.i64.wrap x.2.2.2.1))) >>= fun y5 =>
          (encodeC (1, (IntKind.u32.wrap x.1), true, [], [(S78.mk y3.1 y3.2.1 y3.2.2.1 y3.2.2.2.1 y3.2.2.2.2), (S78.mk y4.1 y4.2.1 y4.2.2.1 y4.2.2.2.1 y4.2.2.2.2), (S78.mk y5.1 y5.2.1 y5.2.2.1 y5.2.2.2.1 y5.2.2.2.2)])) >>= fun y6 =>
          some (y6.1, y6.2)
        else
          (encodeC (1, (IntKind.u32.wrap x.1), true, [], [(S78.mk y3.1 y3.2.1 y3.2.2.1 y3.2.2.2.1 y3.2.2.2.2), (S78.mk y4.1 y4.2.1 y4.2.2.1 y4.2.2.2.1 y4.2.2.2.2), (S78.mk 2 3 false x.2.2.2.2 [])])) >>= fun y7 =>
          some (y7.1, y7.2)
      else
        if y2.2.2 = true then
          (numberE (2, (IntKind.i64.wrap x.2.2.2.1))) >>= fun y8 =>
          (encodeC (1, (IntKind.u32.wrap x.1), true, [], [(S78.mk y3.1 y3.2.1 y3.2.2.1 y3.2.2.2.1 y3.2.2.2.2), (S78.mk y8.1 y8.2.1 y8.2.2.1 y8.2.2.2.1 y8.2.2.2.2)])) >>= fun y9 =>
          some (y9.1, y9.2)
        else
          (encodeC (1, (IntKind.u32.wrap x.1), true, [], [(S78.mk y3.1 y3.2.1 y3.2.2.1 y3.2.2.2.1 y3.2.2.2.2), (S78.mk 2 3 false x.2.2.2.2 [])])) >>= fun y10 =>
          some (y10.1, y10.2)
    else
      if y2.2.1 = true then
        (numberE (1, (IntKind.i64.wrap x.2.2.1))) >>= fun y11 =>
        if y2.2.2 = true then
          (numberE (2, (IntKind.i64.wrap x.2.2.2.1))) >>= fun y12 =>
          (encodeC (1, (IntKind.u32.wrap x.1), true, [], [(S78.mk y11.1 y11.2.1 y11.2.2.1 y11.2.2.2.1 y11.2.2.2.2), (S78.mk y12.1 y12.2.1 y12.2.2.1 y12.2.2.2.1 y12.2.2.2.2)])) >>= fun y13 =>
          some (y13.1, y13.2)
        else
          (encodeC (1, (IntKind.u32.wrap x.1), true, [], [(S78.mk y11.1 y11.2.1 y11.2.2.1 y11.2.2.2.1 y11.2.2.2.2), (S78.mk 2 3 false x.2.2.2.2 [])])) >>= fun y14 =>
          some (y14.1, y14.2)
      else
        if y2.2.2 = true then
          (numberE (2, (IntKind.i64.wrap x.2.2.2.1))) >>= fun y15 =>
          (encodeC (1, (IntKind.u32.wrap x.1), true, [], [(S78.mk y15.1 y15.2.1 y15.2.2.1 y15.2.2.2.1 y15.2.2.2.2)])) >>= fun y16 =>
          some (y16.1, y16.2)
        else
          (app' 64 [] [(S78.mk 2 3 false x.2.2.2.2 [])]) >>= fun y17 =>
          (encodeC (1, (IntKind.u32.wrap x.1), true, [], y17)) >>= fun y18 =>
          some (y18.1, y18.2)
theorem trEncode_ok : ∀ (x : Int × Int × Int × Int × (List Int)) (r : (List Int) × Int), trEncode x = some r → ∀ W0 : World, PTo Try.prog W0 28 #[.agg #[.int .u8 x.1, .int .u32 x.2.1, .int .u32 x.2.2.1, .int .u8 x.2.2.2.1, ls 1 false (encI .u8) x.2.2.2.2]] (.returned (.tuple #[ls 1 true (encI .u8) r.1, .int .i64 r.2])) := by
  intro x r h
  unfold trEncode at h
  intro W0
  refine PTo.of_body (fn := Try.f28) (code := cB Try.f28) Try.func28 rfl rfl ?_
  intro w0 S hS
  haveI := hS.noEx Try.prog
  refine H.sr 3 (by kernel_rfl) ?_
  refine H.seqP (by kernel_rfl) ?_
  refine H.sg (by kernel_rfl) ?_
  refine HO.goP 1 (by kernel_rfl) ?_
  obtain ⟨y1, hy, h⟩ := bindS h
  refine HO.callW hS [.agg [.keep, .keep, .keep, .keep, .list 1 false]] (trCheck_ok (x.1, x.2.1, x.2.2.1, x.2.2.2.1, x.2.2.2.2) y1 hy W0) (by kernel_rfl) (by kernel_rfl) ?_
  refine HO.fin 1 (by kernel_rfl) ?_
  refine H.sr 2 (by kernel_rfl) ?_
  refine H.condS (b := !decide (y1 = 0)) (by kernel_rfl) (by kernel_rfl) (fun hb => ?_) (fun hb => ?_)
  · rw [if_pos hb] at h
    refine H.sr 3 (by kernel_rfl) ?_
    refine H.retP (by kernel_rfl) ?_
    refine Kseq_ret ?_
    obtain rfl := Option.some.inj h
    exact KEnd.retW (v := .tuple #[.slice none 0 0, .int .i64 y1]) (.tuple [.list 1 true, .keep]) (by kernel_rfl) (by kernel_rfl) (by kernel_rfl) (by kernel_rfl)
  rw [if_neg (ne_true hb)] at h
  refine H.skipP (by kernel_rfl) ?_
  refine Kseq_norm ?_
  refine H.sr 6 (by kernel_rfl) ?_
  refine H.sg (by kernel_rfl) ?_
  refine HO.goP 2 (by kernel_rfl) ?_
  obtain ⟨y2, hy, h⟩ := bindS h
  refine HO.callW hS [.keep] (uses_ok x.1 y2 hy W0) (by kernel_rfl) (by kernel_rfl) ?_
  refine HO.fin 7 (by kernel_rfl) ?_
  refine H.seqP (by kernel_rfl) ?_
  refine H.sr 1 (by kernel_rfl) ?_
  refine H.condS (b := y2.1) (by kernel_rfl) (by kernel_rfl) (fun hb => ?_) (fun hb => ?_)
  rotate_left
  · rw [if_neg (ne_true hb)] at h
    refine H.skipP (by kernel_rfl) ?_
    refine Kseq_norm ?_
    refine H.seqP (by kernel_rfl) ?_
    refine H.sr 1 (by kernel_rfl) ?_
    refine H.condS (b := y2.2.1) (by kernel_rfl) (by kernel_rfl) (fun hb => ?_) (fun hb => ?_)
    rotate_left
    · rw [if_neg (ne_true hb)] at h
      refine H.skipP (by kernel_rfl) ?_
      refine Kseq_norm ?_
      refine H.seqP (by kernel_rfl) ?_
      refine H.sr 1 (by kernel_rfl) ?_
      refine H.condS (b := y2.2.2) (by kernel_rfl) (by kernel_rfl) (fun hb => ?_) (fun hb => ?_)
      rotate_left
      · rw [if_neg (ne_true hb)] at h
        refine H.regP (by kernel_rfl) ?_
        refine HO.goP 6 (by kernel_rfl) ?_
        refine HO.tok 56 5 (es := #[]) (by kernel_rfl) ?_
        refine HO.wkc 2 78 5 4 [.int .u8 2, .int .u32 3, .bool false, ls 1 false (encI .u8) x.2.2.2.2, .slice none 0 0] (.slice none 0 0) (ls 5 false enc78 []) (.list 5 false) (by kernel_rfl) ?_
        obtain ⟨y17, hy, h⟩ := bindS h
        refine HO.effA (app1_aop (enc := enc78) (k := 5) true 1 [.int .u8 2, .int .u32 3, .bool false, ls 1 false (encI .u8) x.2.2.2.2, ls 5 false enc78 []] [] hy (by kernel_rfl) (by kernel_rfl) (by simp only [List.map_cons, List.map_nil, enc78_eq]; kernel_rfl)) ?_
        refine HO.fin 2 (by kernel_rfl) ?_
        refine H.sg (by kernel_rfl) ?_
        refine HO.goP 1 (by kernel_rfl) ?_
        obtain ⟨y18, hy, h⟩ := bindS h
        refine HO.callW hS [.agg [.keep, .keep, .keep, .list 1 false, .list 5 false]] (encodeC_ok (1, (IntKind.u32.wrap x.1), true, [], y17) y18 hy W0) (by kernel_rfl) (by kernel_rfl) ?_
        refine HO.fin 4 (by kernel_rfl) ?_
        refine H.retP (by kernel_rfl) ?_
        obtain rfl := Option.some.inj h
        exact KEnd.retW (v := .tuple #[ls 1 true (encI .u8) y18.1, .int .i64 y18.2]) (.tuple [.list 1 true, .keep]) (by kernel_rfl) (by kernel_rfl) (by kernel_rfl) (by kernel_rfl)
      rw [if_pos hb] at h
      refine H.drawQ ?_
      refine HQ.goP 5 (by kernel_rfl) ?_
      obtain ⟨y15, hy, h⟩ := bindS h
      refine HQ.callW hS [.keep, .keep] (numberE_ok (2, (IntKind.i64.wrap x.2.2.2.1)) y15 hy W0) (by kernel_rfl) (by kernel_rfl) ?_
      refine HQ.goP 1 (by kernel_rfl) ?_
      refine HQ.goP 1 (by kernel_rfl) ?_
      refine HQ.goP 2 (by kernel_rfl) ?_
      refine HQ.done (by kernel_rfl) (by kernel_rfl) (by kernel_rfl) ?_
      refine Kseq_norm ?_
      refine H.sg (by kernel_rfl) ?_
      refine HO.goP 1 (by kernel_rfl) ?_
      refine HO.frzE [53, 63] 3 1 1180591620717411303424 5 78 false ([(S78.mk y15.1 y15.2.1 y15.2.2.1 y15.2.2.2.1 y15.2.2.2.2)].map enc78).toArray #[.agg #[.int .u8 y15.1, .int .u32 y15.2.1, .bool y15.2.2.1, ls 1 false (encI .u8) y15.2.2.2.1, ls 5 false enc78 y15.2.2.2.2]] [.int .u8 y15.1, .int .u32 y15.2.1, .bool y15.2.2.1, ls 1 false (encI .u8) y15.2.2.2.1, ls 5 false enc78 y15.2.2.2.2] (by simp only [List.map_cons, List.map_nil, enc78_eq]) (by kernel_rfl) ?_
      obtain ⟨y16, hy, h⟩ := bindS h
      refine HO.callW hS [.agg [.keep, .keep, .keep, .list 1 false, .list 5 false]] (encodeC_ok (1, (IntKind.u32.wrap x.1), true, [], [(S78.mk y15.1 y15.2.1 y15.2.2.1 y15.2.2.2.1 y15.2.2.2.2)]) y16 hy W0) (by kernel_rfl) (by kernel_rfl) ?_
      refine HO.fin 4 (by kernel_rfl) ?_
      refine H.retP (by kernel_rfl) ?_
      obtain rfl := Option.some.inj h
      exact KEnd.retW (v := .tuple #[ls 1 true (encI .u8) y16.1, .int .i64 y16.2]) (.tuple [.list 1 true, .keep]) (by kernel_rfl) (by kernel_rfl) (by kernel_rfl) (by kernel_rfl)
    rw [if_pos hb] at h
    refine H.drawQ ?_
    refine HQ.goP 5 (by kernel_rfl) ?_
    obtain ⟨y11, hy, h⟩ := bindS h
    refine HQ.callW hS [.keep, .keep] (numberE_ok (1, (IntKind.i64.wrap x.2.2.1)) y11 hy W0) (by kernel_rfl) (by kernel_rfl) ?_
    refine HQ.goP 1 (by kernel_rfl) ?_
    refine HQ.goP 1 (by kernel_rfl) ?_
    refine HQ.goP 2 (by kernel_rfl) ?_
    refine HQ.done (by kernel_rfl) (by kernel_rfl) (by kernel_rfl) ?_
    refine Kseq_norm ?_
    refine H.seqP (by kernel_rfl) ?_
    refine H.sr 1 (by kernel_rfl) ?_
    refine H.condS (b := y2.2.2) (by kernel_rfl) (by kernel_rfl) (fun hb => ?_) (fun hb => ?_)
    rotate_left
    · rw [if_neg (ne_true hb)] at h
      refine H.regP (by kernel_rfl) ?_
      refine HO.goP 6 (by kernel_rfl) ?_
      refine HO.goP 1 (by kernel_rfl) ?_
      refine HO.fin 2 (by kernel_rfl) ?_
      refine H.sg (by kernel_rfl) ?_
      refine HO.goP 1 (by kernel_rfl) ?_
      refine HO.wkc 5 78 5 9 [.int .u8 y11.1, .int .u32 y11.2.1, .bool y11.2.2.1, ls 1 false (encI .u8) y11.2.2.2.1, ls 5 false enc78 y11.2.2.2.2, .int .u8 2, .int .u32 3, .bool false, ls 1 false (encI .u8) x.2.2.2.2, .slice none 0 0] (.slice none 0 0) (ls 5 false enc78 []) (.list 5 false) (by kernel_rfl) ?_
      refine HO.frzE [61, 63] 5 2 1180591620717411303424 5 78 false ([(S78.mk y11.1 y11.2.1 y11.2.2.1 y11.2.2.2.1 y11.2.2.2.2), (S78.mk 2 3 false x.2.2.2.2 [])].map enc78).toArray #[.agg #[.int .u8 y11.1, .int .u32 y11.2.1, .bool y11.2.2.1, ls 1 false (encI .u8) y11.2.2.2.1, ls 5 false enc78 y11.2.2.2.2], .agg #[.int .u8 2, .int .u32 3, .bool false, ls 1 false (encI .u8) x.2.2.2.2, ls 5 false enc78 []]] [.int .u8 y11.1, .int .u32 y11.2.1, .bool y11.2.2.1, ls 1 false (encI .u8) y11.2.2.2.1, ls 5 false enc78 y11.2.2.2.2, .int .u8 2, .int .u32 3, .bool false, ls 1 false (encI .u8) x.2.2.2.2, ls 5 false enc78 []] (by simp only [List.map_cons, List.map_nil, enc78_eq]) (by kernel_rfl) ?_
      obtain ⟨y14, hy, h⟩ := bindS h
      refine HO.callW hS [.agg [.keep, .keep, .keep, .list 1 false, .list 5 false]] (encodeC_ok (1, (IntKind.u32.wrap x.1), true, [], [(S78.mk y11.1 y11.2.1 y11.2.2.1 y11.2.2.2.1 y11.2.2.2.2), (S78.mk 2 3 false x.2.2.2.2 [])]) y14 hy W0) (by kernel_rfl) (by kernel_rfl) ?_
      refine HO.fin 4 (by kernel_rfl) ?_
      refine H.retP (by kernel_rfl) ?_
      obtain rfl := Option.some.inj h
      exact KEnd.retW (v := .tuple #[ls 1 true (encI .u8) y14.1, .int .i64 y14.2]) (.tuple [.list 1 true, .keep]) (by kernel_rfl) (by kernel_rfl) (by kernel_rfl) (by kernel_rfl)
    rw [if_pos hb] at h
    refine H.drawQ ?_
    refine HQ.goP 5 (by kernel_rfl) ?_
    obtain ⟨y12, hy, h⟩ := bindS h
    refine HQ.callW hS [.keep, .keep] (numberE_ok (2, (IntKind.i64.wrap x.2.2.2.1)) y12 hy W0) (by kernel_rfl) (by kernel_rfl) ?_
    refine HQ.goP 1 (by kernel_rfl) ?_
    refine HQ.goP 1 (by kernel_rfl) ?_
    refine HQ.goP 2 (by kernel_rfl) ?_
    refine HQ.done (by kernel_rfl) (by kernel_rfl) (by kernel_rfl) ?_
    refine Kseq_norm ?_
    refine H.sg (by kernel_rfl) ?_
    refine HO.goP 1 (by kernel_rfl) ?_
    refine HO.frzE [53, 63] 5 2 1180591620717411303424 5 78 false ([(S78.mk y11.1 y11.2.1 y11.2.2.1 y11.2.2.2.1 y11.2.2.2.2), (S78.mk y12.1 y12.2.1 y12.2.2.1 y12.2.2.2.1 y12.2.2.2.2)].map enc78).toArray #[.agg #[.int .u8 y11.1, .int .u32 y11.2.1, .bool y11.2.2.1, ls 1 false (encI .u8) y11.2.2.2.1, ls 5 false enc78 y11.2.2.2.2], .agg #[.int .u8 y12.1, .int .u32 y12.2.1, .bool y12.2.2.1, ls 1 false (encI .u8) y12.2.2.2.1, ls 5 false enc78 y12.2.2.2.2]] [.int .u8 y11.1, .int .u32 y11.2.1, .bool y11.2.2.1, ls 1 false (encI .u8) y11.2.2.2.1, ls 5 false enc78 y11.2.2.2.2, .int .u8 y12.1, .int .u32 y12.2.1, .bool y12.2.2.1, ls 1 false (encI .u8) y12.2.2.2.1, ls 5 false enc78 y12.2.2.2.2] (by simp only [List.map_cons, List.map_nil, enc78_eq]) (by kernel_rfl) ?_
    obtain ⟨y13, hy, h⟩ := bindS h
    refine HO.callW hS [.agg [.keep, .keep, .keep, .list 1 false, .list 5 false]] (encodeC_ok (1, (IntKind.u32.wrap x.1), true, [], [(S78.mk y11.1 y11.2.1 y11.2.2.1 y11.2.2.2.1 y11.2.2.2.2), (S78.mk y12.1 y12.2.1 y12.2.2.1 y12.2.2.2.1 y12.2.2.2.2)]) y13 hy W0) (by kernel_rfl) (by kernel_rfl) ?_
    refine HO.fin 4 (by kernel_rfl) ?_
    refine H.retP (by kernel_rfl) ?_
    obtain rfl := Option.some.inj h
    exact KEnd.retW (v := .tuple #[ls 1 true (encI .u8) y13.1, .int .i64 y13.2]) (.tuple [.list 1 true, .keep]) (by kernel_rfl) (by kernel_rfl) (by kernel_rfl) (by kernel_rfl)
  rw [if_pos hb] at h
  refine H.drawQ ?_
  refine HQ.goP 5 (by kernel_rfl) ?_
  obtain ⟨y3, hy, h⟩ := bindS h
  refine HQ.callW hS [.keep, .keep] (numberE_ok (0, (IntKind.i64.wrap x.2.1)) y3 hy W0) (by kernel_rfl) (by kernel_rfl) ?_
  refine HQ.goP 1 (by kernel_rfl) ?_
  refine HQ.goP 1 (by kernel_rfl) ?_
  refine HQ.goP 2 (by kernel_rfl) ?_
  refine HQ.done (by kernel_rfl) (by kernel_rfl) (by kernel_rfl) ?_
  refine Kseq_norm ?_
  refine H.seqP (by kernel_rfl) ?_
  refine H.sr 1 (by kernel_rfl) ?_
  refine H.condS (b := y2.2.1) (by kernel_rfl) (by kernel_rfl) (fun hb => ?_) (fun hb => ?_)
  rotate_left
  · rw [if_neg (ne_true hb)] at h
    refine H.skipP (by kernel_rfl) ?_
    refine Kseq_norm ?_
    refine H.seqP (by kernel_rfl) ?_
    refine H.sr 1 (by kernel_rfl) ?_
    refine H.condS (b := y2.2.2) (by kernel_rfl) (by kernel_rfl) (fun hb => ?_) (fun hb => ?_)
    rotate_left
    · rw [if_neg (ne_true hb)] at h
      refine H.regP (by kernel_rfl) ?_
      refine HO.goP 6 (by kernel_rfl) ?_
      refine HO.goP 1 (by kernel_rfl) ?_
      refine HO.fin 2 (by kernel_rfl) ?_
      refine H.sg (by kernel_rfl) ?_
      refine HO.goP 1 (by kernel_rfl) ?_
      refine HO.wkc 5 78 5 9 [.int .u8 y3.1, .int .u32 y3.2.1, .bool y3.2.2.1, ls 1 false (encI .u8) y3.2.2.2.1, ls 5 false enc78 y3.2.2.2.2, .int .u8 2, .int .u32 3, .bool false, ls 1 false (encI .u8) x.2.2.2.2, .slice none 0 0] (.slice none 0 0) (ls 5 false enc78 []) (.list 5 false) (by kernel_rfl) ?_
      refine HO.frzE [61, 63] 5 2 1180591620717411303424 5 78 false ([(S78.mk y3.1 y3.2.1 y3.2.2.1 y3.2.2.2.1 y3.2.2.2.2), (S78.mk 2 3 false x.2.2.2.2 [])].map enc78).toArray #[.agg #[.int .u8 y3.1, .int .u32 y3.2.1, .bool y3.2.2.1, ls 1 false (encI .u8) y3.2.2.2.1, ls 5 false enc78 y3.2.2.2.2], .agg #[.int .u8 2, .int .u32 3, .bool false, ls 1 false (encI .u8) x.2.2.2.2, ls 5 false enc78 []]] [.int .u8 y3.1, .int .u32 y3.2.1, .bool y3.2.2.1, ls 1 false (encI .u8) y3.2.2.2.1, ls 5 false enc78 y3.2.2.2.2, .int .u8 2, .int .u32 3, .bool false, ls 1 false (encI .u8) x.2.2.2.2, ls 5 false enc78 []] (by simp only [List.map_cons, List.map_nil, enc78_eq]) (by kernel_rfl) ?_
      obtain ⟨y10, hy, h⟩ := bindS h
      refine HO.callW hS [.agg [.keep, .keep, .keep, .list 1 false, .list 5 false]] (encodeC_ok (1, (IntKind.u32.wrap x.1), true, [], [(S78.mk y3.1 y3.2.1 y3.2.2.1 y3.2.2.2.1 y3.2.2.2.2), (S78.mk 2 3 false x.2.2.2.2 [])]) y10 hy W0) (by kernel_rfl) (by kernel_rfl) ?_
      refine HO.fin 4 (by kernel_rfl) ?_
      refine H.retP (by kernel_rfl) ?_
      obtain rfl := Option.some.inj h
      exact KEnd.retW (v := .tuple #[ls 1 true (encI .u8) y10.1, .int .i64 y10.2]) (.tuple [.list 1 true, .keep]) (by kernel_rfl) (by kernel_rfl) (by kernel_rfl) (by kernel_rfl)
    rw [if_pos hb] at h
    refine H.drawQ ?_
    refine HQ.goP 5 (by kernel_rfl) ?_
    obtain ⟨y8, hy, h⟩ := bindS h
    refine HQ.callW hS [.keep, .keep] (numberE_ok (2, (IntKind.i64.wrap x.2.2.2.1)) y8 hy W0) (by kernel_rfl) (by kernel_rfl) ?_
    refine HQ.goP 1 (by kernel_rfl) ?_
    refine HQ.goP 1 (by kernel_rfl) ?_
    refine HQ.goP 2 (by kernel_rfl) ?_
    refine HQ.done (by kernel_rfl) (by kernel_rfl) (by kernel_rfl) ?_
    refine Kseq_norm ?_
    refine H.sg (by kernel_rfl) ?_
    refine HO.goP 1 (by kernel_rfl) ?_
    refine HO.frzE [53, 63] 5 2 1180591620717411303424 5 78 false ([(S78.mk y3.1 y3.2.1 y3.2.2.1 y3.2.2.2.1 y3.2.2.2.2), (S78.mk y8.1 y8.2.1 y8.2.2.1 y8.2.2.2.1 y8.2.2.2.2)].map enc78).toArray #[.agg #[.int .u8 y3.1, .int .u32 y3.2.1, .bool y3.2.2.1, ls 1 false (encI .u8) y3.2.2.2.1, ls 5 false enc78 y3.2.2.2.2], .agg #[.int .u8 y8.1, .int .u32 y8.2.1, .bool y8.2.2.1, ls 1 false (encI .u8) y8.2.2.2.1, ls 5 false enc78 y8.2.2.2.2]] [.int .u8 y3.1, .int .u32 y3.2.1, .bool y3.2.2.1, ls 1 false (encI .u8) y3.2.2.2.1, ls 5 false enc78 y3.2.2.2.2, .int .u8 y8.1, .int .u32 y8.2.1, .bool y8.2.2.1, ls 1 false (encI .u8) y8.2.2.2.1, ls 5 false enc78 y8.2.2.2.2] (by simp only [List.map_cons, List.map_nil, enc78_eq]) (by kernel_rfl) ?_
    obtain ⟨y9, hy, h⟩ := bindS h
    refine HO.callW hS [.agg [.keep, .keep, .keep, .list 1 false, .list 5 false]] (encodeC_ok (1, (IntKind.u32.wrap x.1), true, [], [(S78.mk y3.1 y3.2.1 y3.2.2.1 y3.2.2.2.1 y3.2.2.2.2), (S78.mk y8.1 y8.2.1 y8.2.2.1 y8.2.2.2.1 y8.2.2.2.2)]) y9 hy W0) (by kernel_rfl) (by kernel_rfl) ?_
    refine HO.fin 4 (by kernel_rfl) ?_
    refine H.retP (by kernel_rfl) ?_
    obtain rfl := Option.some.inj h
    exact KEnd.retW (v := .tuple #[ls 1 true (encI .u8) y9.1, .int .i64 y9.2]) (.tuple [.list 1 true, .keep]) (by kernel_rfl) (by kernel_rfl) (by kernel_rfl) (by kernel_rfl)
  rw [if_pos hb] at h
  refine H.drawQ ?_
  refine HQ.goP 5 (by kernel_rfl) ?_
  obtain ⟨y4, hy, h⟩ := bindS h
  refine HQ.callW hS [.keep, .keep] (numberE_ok (1, (IntKind.i64.wrap x.2.2.1)) y4 hy W0) (by kernel_rfl) (by kernel_rfl) ?_
  refine HQ.goP 1 (by kernel_rfl) ?_
  refine HQ.goP 1 (by kernel_rfl) ?_
  refine HQ.goP 2 (by kernel_rfl) ?_
  refine HQ.done (by kernel_rfl) (by kernel_rfl) (by kernel_rfl) ?_
  refine Kseq_norm ?_
  refine H.seqP (by kernel_rfl) ?_
  refine H.sr 1 (by kernel_rfl) ?_
  refine H.condS (b := y2.2.2) (by kernel_rfl) (by kernel_rfl) (fun hb => ?_) (fun hb => ?_)
  rotate_left
  · rw [if_neg (ne_true hb)] at h
    refine H.regP (by kernel_rfl) ?_
    refine HO.goP 6 (by kernel_rfl) ?_
    refine HO.goP 1 (by kernel_rfl) ?_
    refine HO.fin 2 (by kernel_rfl) ?_
    refine H.sg (by kernel_rfl) ?_
    refine HO.goP 1 (by kernel_rfl) ?_
    refine HO.wkc 7 78 5 14 [.int .u8 y3.1, .int .u32 y3.2.1, .bool y3.2.2.1, ls 1 false (encI .u8) y3.2.2.2.1, ls 5 false enc78 y3.2.2.2.2, .int .u8 y4.1, .int .u32 y4.2.1, .bool y4.2.2.1, ls 1 false (encI .u8) y4.2.2.2.1, ls 5 false enc78 y4.2.2.2.2, .int .u8 2, .int .u32 3, .bool false, ls 1 false (encI .u8) x.2.2.2.2, .slice none 0 0] (.slice none 0 0) (ls 5 false enc78 []) (.list 5 false) (by kernel_rfl) ?_
    refine HO.frzE [61, 63] 7 3 1180591620717411303424 5 78 false ([(S78.mk y3.1 y3.2.1 y3.2.2.1 y3.2.2.2.1 y3.2.2.2.2), (S78.mk y4.1 y4.2.1 y4.2.2.1 y4.2.2.2.1 y4.2.2.2.2), (S78.mk 2 3 false x.2.2.2.2 [])].map enc78).toArray #[.agg #[.int .u8 y3.1, .int .u32 y3.2.1, .bool y3.2.2.1, ls 1 false (encI .u8) y3.2.2.2.1, ls 5 false enc78 y3.2.2.2.2], .agg #[.int .u8 y4.1, .int .u32 y4.2.1, .bool y4.2.2.1, ls 1 false (encI .u8) y4.2.2.2.1, ls 5 false enc78 y4.2.2.2.2], .agg #[.int .u8 2, .int .u32 3, .bool false, ls 1 false (encI .u8) x.2.2.2.2, ls 5 false enc78 []]] [.int .u8 y3.1, .int .u32 y3.2.1, .bool y3.2.2.1, ls 1 false (encI .u8) y3.2.2.2.1, ls 5 false enc78 y3.2.2.2.2, .int .u8 y4.1, .int .u32 y4.2.1, .bool y4.2.2.1, ls 1 false (encI .u8) y4.2.2.2.1, ls 5 false enc78 y4.2.2.2.2, .int .u8 2, .int .u32 3, .bool false, ls 1 false (encI .u8) x.2.2.2.2, ls 5 false enc78 []] (by simp only [List.map_cons, List.map_nil, enc78_eq]) (by kernel_rfl) ?_
    obtain ⟨y7, hy, h⟩ := bindS h
    refine HO.callW hS [.agg [.keep, .keep, .keep, .list 1 false, .list 5 false]] (encodeC_ok (1, (IntKind.u32.wrap x.1), true, [], [(S78.mk y3.1 y3.2.1 y3.2.2.1 y3.2.2.2.1 y3.2.2.2.2), (S78.mk y4.1 y4.2.1 y4.2.2.1 y4.2.2.2.1 y4.2.2.2.2), (S78.mk 2 3 false x.2.2.2.2 [])]) y7 hy W0) (by kernel_rfl) (by kernel_rfl) ?_
    refine HO.fin 4 (by kernel_rfl) ?_
    refine H.retP (by kernel_rfl) ?_
    obtain rfl := Option.some.inj h
    exact KEnd.retW (v := .tuple #[ls 1 true (encI .u8) y7.1, .int .i64 y7.2]) (.tuple [.list 1 true, .keep]) (by kernel_rfl) (by kernel_rfl) (by kernel_rfl) (by kernel_rfl)
  rw [if_pos hb] at h
  refine H.drawQ ?_
  refine HQ.goP 5 (by kernel_rfl) ?_
  obtain ⟨y5, hy, h⟩ := bindS h
  refine HQ.callW hS [.keep, .keep] (numberE_ok (2, (IntKind.i64.wrap x.2.2.2.1)) y5 hy W0) (by kernel_rfl) (by kernel_rfl) ?_
  refine HQ.goP 1 (by kernel_rfl) ?_
  refine HQ.goP 1 (by kernel_rfl) ?_
  refine HQ.goP 2 (by kernel_rfl) ?_
  refine HQ.done (by kernel_rfl) (by kernel_rfl) (by kernel_rfl) ?_
  refine Kseq_norm ?_
  refine H.sg (by kernel_rfl) ?_
  refine HO.goP 1 (by kernel_rfl) ?_
  refine HO.frzE [53, 63] 7 3 1180591620717411303424 5 78 false ([(S78.mk y3.1 y3.2.1 y3.2.2.1 y3.2.2.2.1 y3.2.2.2.2), (S78.mk y4.1 y4.2.1 y4.2.2.1 y4.2.2.2.1 y4.2.2.2.2), (S78.mk y5.1 y5.2.1 y5.2.2.1 y5.2.2.2.1 y5.2.2.2.2)].map enc78).toArray #[.agg #[.int .u8 y3.1, .int .u32 y3.2.1, .bool y3.2.2.1, ls 1 false (encI .u8) y3.2.2.2.1, ls 5 false enc78 y3.2.2.2.2], .agg #[.int .u8 y4.1, .int .u32 y4.2.1, .bool y4.2.2.1, ls 1 false (encI .u8) y4.2.2.2.1, ls 5 false enc78 y4.2.2.2.2], .agg #[.int .u8 y5.1, .int .u32 y5.2.1, .bool y5.2.2.1, ls 1 false (encI .u8) y5.2.2.2.1, ls 5 false enc78 y5.2.2.2.2]] [.int .u8 y3.1, .int .u32 y3.2.1, .bool y3.2.2.1, ls 1 false (encI .u8) y3.2.2.2.1, ls 5 false enc78 y3.2.2.2.2, .int .u8 y4.1, .int .u32 y4.2.1, .bool y4.2.2.1, ls 1 false (encI .u8) y4.2.2.2.1, ls 5 false enc78 y4.2.2.2.2, .int .u8 y5.1, .int .u32 y5.2.1, .bool y5.2.2.1, ls 1 false (encI .u8) y5.2.2.2.1, ls 5 false enc78 y5.2.2.2.2] (by simp only [List.map_cons, List.map_nil, enc78_eq]) (by kernel_rfl) ?_
  obtain ⟨y6, hy, h⟩ := bindS h
  refine HO.callW hS [.agg [.keep, .keep, .keep, .list 1 false, .list 5 false]] (encodeC_ok (1, (IntKind.u32.wrap x.1), true, [], [(S78.mk y3.1 y3.2.1 y3.2.2.1 y3.2.2.2.1 y3.2.2.2.2), (S78.mk y4.1 y4.2.1 y4.2.2.1 y4.2.2.2.1 y4.2.2.2.2), (S78.mk y5.1 y5.2.1 y5.2.2.1 y5.2.2.2.1 y5.2.2.2.2)]) y6 hy W0) (by kernel_rfl) (by kernel_rfl) ?_
  refine HO.fin 4 (by kernel_rfl) ?_
  refine H.retP (by kernel_rfl) ?_
  obtain rfl := Option.some.inj h
  exact KEnd.retW (v := .tuple #[ls 1 true (encI .u8) y6.1, .int .i64 y6.2]) (.tuple [.list 1 true, .keep]) (by kernel_rfl) (by kernel_rfl) (by kernel_rfl) (by kernel_rfl)
def lawCheck_L1 (x : Bool) : Option (Int) :=
  if (!x) = true then
    some 1
  else
    some 0
theorem lawCheck_L1_ok : ∀ (x : Bool) (r : Int), lawCheck_L1 x = some r → ∀ (W0 w0 : World) (S : Own), Std W0 w0 S 0 → H Try.prog w0 S 78 (cR (cR (cR (cR (cB Try.f24))))) (mkS [(3, .bool x)] [] 0 []) (KEnd Try.prog Try.f24 (PEnd w0 S (.returned (.int .i64 r)))) := by
  intro x r h
  unfold lawCheck_L1 at h
  intro W0 w0 S hS
  haveI := hS.noEx Try.prog
  refine H.seqP (by kernel_rfl) ?_
  refine H.sr 2 (by kernel_rfl) ?_
  refine H.condS (b := !x) (by kernel_rfl) (by kernel_rfl) (fun hb => ?_) (fun hb => ?_)
  · rw [if_pos hb] at h
    refine H.sr 1 (by kernel_rfl) ?_
    refine H.retP (by kernel_rfl) ?_
    refine Kseq_ret ?_
    obtain rfl := Option.some.inj h
    exact KEnd.ret (by kernel_rfl) (by kernel_rfl) (by kernel_rfl)
  rw [if_neg (ne_true hb)] at h
  refine H.skipP (by kernel_rfl) ?_
  refine Kseq_norm ?_
  refine H.sr 1 (by kernel_rfl) ?_
  refine H.retP (by kernel_rfl) ?_
  obtain rfl := Option.some.inj h
  exact KEnd.ret (by kernel_rfl) (by kernel_rfl) (by kernel_rfl)
def lawCheck (x : Int × Int × Int × Int × (List Int)) : Option (Int) :=
  if 3800 < (x.2.2.2.2.length : Int) then
    some 3
  else
    if x.1 = 1 then
      if 0 < x.2.1 then
        if x.2.2.1 = 0 then
          lawCheck_L1 (decide (x.2.2.2.1 = 0))
        else
          lawCheck_L1 false
      else
        lawCheck_L1 false
    else
      if x.1 = 2 then
        if 0 < x.2.1 then
          if 0 < x.2.2.1 then
            lawCheck_L1 (decide (x.2.2.2.1 = 0))
          else
            lawCheck_L1 false
        else
          lawCheck_L1 false
      else
        if x.1 = 3 then
          if x.2.1 = 0 then
            if 0 < x.2.2.1 then
              lawCheck_L1 (decide (x.2.2.2.1 = 0))
            else
              lawCheck_L1 false
          else
            lawCheck_L1 false
        else
          if x.1 = 4 then
            if x.2.1 = 0 then
              if 0 < x.2.2.1 then
                if 0 < x.2.2.2.1 then
                  lawCheck_L1 (decide ((x.2.2.2.2.length : Int) = 0))
                else
                  lawCheck_L1 false
              else
                lawCheck_L1 false
            else
              lawCheck_L1 false
          else
            lawCheck_L1 false
theorem lawCheck_ok : ∀ (x : Int × Int × Int × Int × (List Int)) (r : Int), lawCheck x = some r → ∀ W0 : World, PTo Try.prog W0 24 #[.agg #[.int .u8 x.1, .int .u32 x.2.1, .int .u32 x.2.2.1, .int .u8 x.2.2.2.1, ls 1 false (encI .u8) x.2.2.2.2]] (.returned (.int .i64 r)) := by
  intro x r h
  unfold lawCheck at h
  intro W0
  refine PTo.of_body (fn := Try.f24) (code := cB Try.f24) Try.func24 rfl rfl ?_
  intro w0 S hS
  haveI := hS.noEx Try.prog
  refine H.sr 2 (by kernel_rfl) ?_
  refine H.seqP (by kernel_rfl) ?_
  refine H.sg (by kernel_rfl) ?_
  refine HO.goP 2 (by kernel_rfl) ?_
  refine HO.len (by kernel_rfl) (by kernel_rfl) (ls_size (encI .u8) x.2.2.2.2) ?_
  refine HO.fin 1 (by kernel_rfl) ?_
  refine H.condS (b := decide (3800 < (x.2.2.2.2.length : Int))) (by kernel_rfl) (by kernel_rfl) (fun hb => ?_) (fun hb => ?_)
  · rw [if_pos (of_decide_eq_true hb)] at h
    refine H.sr 1 (by kernel_rfl) ?_
    refine H.retP (by kernel_rfl) ?_
    refine Kseq_ret ?_
    obtain rfl := Option.some.inj h
    exact KEnd.ret (by kernel_rfl) (by kernel_rfl) (by kernel_rfl)
  rw [if_neg (of_decide_eq_false hb)] at h
  refine H.skipP (by kernel_rfl) ?_
  refine Kseq_norm ?_
  refine H.sr 1 (by kernel_rfl) ?_
  refine H.seqP (by kernel_rfl) ?_
  refine H.sr 2 (by kernel_rfl) ?_
  refine H.blockI 0 (by kernel_rfl) ?_
  refine H.sr 2 (by kernel_rfl) ?_
  refine H.condS (b := decide (x.1 = 1)) (by kernel_rfl) (by kernel_rfl) (fun hb => ?_) (fun hb => ?_)
  · rw [if_pos (of_decide_eq_true hb)] at h
    refine H.regP (by kernel_rfl) ?_
    refine HO.goP 3 (by kernel_rfl) ?_
    refine HO.boolP (decide (0 < x.2.1)) (by kernel_rfl) (by kernel_rfl) (fun hb => ?_) (fun hb => ?_)
    rotate_left
    · rw [if_neg (of_decide_eq_false hb)] at h
      refine HO.goP 10 (by kernel_rfl) ?_
      refine HO.done (by kernel_rfl) ?_
      refine Kblock_norm ?_
      refine Kseq_norm ?_
      exact H.ren hS [] _ _ _ (by kernel_rfl) (lawCheck_L1_ok false r h W0 w0 S hS)
    rw [if_pos (of_decide_eq_true hb)] at h
    refine HO.goP 4 (by kernel_rfl) ?_
    refine HO.boolP (decide (x.2.2.1 = 0)) (by kernel_rfl) (by kernel_rfl) (fun hb => ?_) (fun hb => ?_)
    · rw [if_pos (of_decide_eq_true hb)] at h
      refine HO.goP 5 (by kernel_rfl) ?_
      refine HO.done (by kernel_rfl) ?_
      refine Kblock_norm ?_
      refine Kseq_norm ?_
      exact H.ren hS [] _ _ _ (by kernel_rfl) (lawCheck_L1_ok (decide (x.2.2.2.1 = 0)) r h W0 w0 S hS)
    rw [if_neg (of_decide_eq_false hb)] at h
    refine HO.goP 5 (by kernel_rfl) ?_
    refine HO.done (by kernel_rfl) ?_
    refine Kblock_norm ?_
    refine Kseq_norm ?_
    exact H.ren hS [] _ _ _ (by kernel_rfl) (lawCheck_L1_ok false r h W0 w0 S hS)
  rw [if_neg (of_decide_eq_false hb)] at h
  refine H.sr 2 (by kernel_rfl) ?_
  refine H.condS (b := decide (x.1 = 2)) (by kernel_rfl) (by kernel_rfl) (fun hb => ?_) (fun hb => ?_)
  · rw [if_pos (of_decide_eq_true hb)] at h
    refine H.regP (by kernel_rfl) ?_
    refine HO.goP 3 (by kernel_rfl) ?_
    refine HO.boolP (decide (0 < x.2.1)) (by kernel_rfl) (by kernel_rfl) (fun hb => ?_) (fun hb => ?_)
    rotate_left
    · rw [if_neg (of_decide_eq_false hb)] at h
      refine HO.goP 10 (by kernel_rfl) ?_
      refine HO.done (by kernel_rfl) ?_
      refine Kblock_norm ?_
      refine Kseq_norm ?_
      exact H.ren hS [] _ _ _ (by kernel_rfl) (lawCheck_L1_ok false r h W0 w0 S hS)
    rw [if_pos (of_decide_eq_true hb)] at h
    refine HO.goP 4 (by kernel_rfl) ?_
    refine HO.boolP (decide (0 < x.2.2.1)) (by kernel_rfl) (by kernel_rfl) (fun hb => ?_) (fun hb => ?_)
    · rw [if_pos (of_decide_eq_true hb)] at h
      refine HO.goP 5 (by kernel_rfl) ?_
      refine HO.done (by kernel_rfl) ?_
      refine Kblock_norm ?_
      refine Kseq_norm ?_
      exact H.ren hS [] _ _ _ (by kernel_rfl) (lawCheck_L1_ok (decide (x.2.2.2.1 = 0)) r h W0 w0 S hS)
    rw [if_neg (of_decide_eq_false hb)] at h
    refine HO.goP 5 (by kernel_rfl) ?_
    refine HO.done (by kernel_rfl) ?_
    refine Kblock_norm ?_
    refine Kseq_norm ?_
    exact H.ren hS [] _ _ _ (by kernel_rfl) (lawCheck_L1_ok false r h W0 w0 S hS)
  rw [if_neg (of_decide_eq_false hb)] at h
  refine H.sr 2 (by kernel_rfl) ?_
  refine H.condS (b := decide (x.1 = 3)) (by kernel_rfl) (by kernel_rfl) (fun hb => ?_) (fun hb => ?_)
  · rw [if_pos (of_decide_eq_true hb)] at h
    refine H.regP (by kernel_rfl) ?_
    refine HO.goP 3 (by kernel_rfl) ?_
    refine HO.boolP (decide (x.2.1 = 0)) (by kernel_rfl) (by kernel_rfl) (fun hb => ?_) (fun hb => ?_)
    rotate_left
    · rw [if_neg (of_decide_eq_false hb)] at h
      refine HO.goP 10 (by kernel_rfl) ?_
      refine HO.done (by kernel_rfl) ?_
      refine Kblock_norm ?_
      refine Kseq_norm ?_
      exact H.ren hS [] _ _ _ (by kernel_rfl) (lawCheck_L1_ok false r h W0 w0 S hS)
    rw [if_pos (of_decide_eq_true hb)] at h
    refine HO.goP 4 (by kernel_rfl) ?_
    refine HO.boolP (decide (0 < x.2.2.1)) (by kernel_rfl) (by kernel_rfl) (fun hb => ?_) (fun hb => ?_)
    · rw [if_pos (of_decide_eq_true hb)] at h
      refine HO.goP 5 (by kernel_rfl) ?_
      refine HO.done (by kernel_rfl) ?_
      refine Kblock_norm ?_
      refine Kseq_norm ?_
      exact H.ren hS [] _ _ _ (by kernel_rfl) (lawCheck_L1_ok (decide (x.2.2.2.1 = 0)) r h W0 w0 S hS)
    rw [if_neg (of_decide_eq_false hb)] at h
    refine HO.goP 5 (by kernel_rfl) ?_
    refine HO.done (by kernel_rfl) ?_
    refine Kblock_norm ?_
    refine Kseq_norm ?_
    exact H.ren hS [] _ _ _ (by kernel_rfl) (lawCheck_L1_ok false r h W0 w0 S hS)
  rw [if_neg (of_decide_eq_false hb)] at h
  refine H.sr 2 (by kernel_rfl) ?_
  refine H.condS (b := decide (x.1 = 4)) (by kernel_rfl) (by kernel_rfl) (fun hb => ?_) (fun hb => ?_)
  rotate_left
  · rw [if_neg (of_decide_eq_false hb)] at h
    refine H.skipP (by kernel_rfl) ?_
    refine Kblock_norm ?_
    refine Kseq_norm ?_
    exact H.ren hS [] _ _ _ (by kernel_rfl) (lawCheck_L1_ok false r h W0 w0 S hS)
  rw [if_pos (of_decide_eq_true hb)] at h
  refine H.regP (by kernel_rfl) ?_
  refine HO.goP 3 (by kernel_rfl) ?_
  refine HO.boolP (decide (x.2.1 = 0)) (by kernel_rfl) (by kernel_rfl) (fun hb => ?_) (fun hb => ?_)
  rotate_left
  · rw [if_neg (of_decide_eq_false hb)] at h
    refine HO.goP 16 (by kernel_rfl) ?_
    refine HO.done (by kernel_rfl) ?_
    refine Kblock_norm ?_
    refine Kseq_norm ?_
    exact H.ren hS [] _ _ _ (by kernel_rfl) (lawCheck_L1_ok false r h W0 w0 S hS)
  rw [if_pos (of_decide_eq_true hb)] at h
  refine HO.goP 4 (by kernel_rfl) ?_
  refine HO.boolP (decide (0 < x.2.2.1)) (by kernel_rfl) (by kernel_rfl) (fun hb => ?_) (fun hb => ?_)
  rotate_left
  · rw [if_neg (of_decide_eq_false hb)] at h
    refine HO.goP 11 (by kernel_rfl) ?_
    refine HO.done (by kernel_rfl) ?_
    refine Kblock_norm ?_
    refine Kseq_norm ?_
    exact H.ren hS [] _ _ _ (by kernel_rfl) (lawCheck_L1_ok false r h W0 w0 S hS)
  rw [if_pos (of_decide_eq_true hb)] at h
  refine HO.goP 4 (by kernel_rfl) ?_
  refine HO.boolP (decide (0 < x.2.2.2.1)) (by kernel_rfl) (by kernel_rfl) (fun hb => ?_) (fun hb => ?_)
  rotate_left
  · rw [if_neg (of_decide_eq_false hb)] at h
    refine HO.goP 6 (by kernel_rfl) ?_
    refine HO.done (by kernel_rfl) ?_
    refine Kblock_norm ?_
    refine Kseq_norm ?_
    exact H.ren hS [] _ _ _ (by kernel_rfl) (lawCheck_L1_ok false r h W0 w0 S hS)
  rw [if_pos (of_decide_eq_true hb)] at h
  refine HO.goP 2 (by kernel_rfl) ?_
  refine HO.len (by kernel_rfl) (by kernel_rfl) (ls_size (encI .u8) x.2.2.2.2) ?_
  refine HO.goP 3 (by kernel_rfl) ?_
  refine HO.done (by kernel_rfl) ?_
  refine Kblock_norm ?_
  refine Kseq_norm ?_
  exact H.ren hS [] _ _ _ (by kernel_rfl) (lawCheck_L1_ok (decide ((x.2.2.2.2.length : Int) = 0)) r h W0 w0 S hS)
def lawTree (x : Int × Int × Int × Int × (List Int)) : Option (Int × Int × Bool × (List Int) × (List S78)) :=
  if 0 < (IntKind.i64.wrap x.2.1) then
    (intC (IntKind.i64.wrap x.2.1)) >>= fun y1 =>
    if 0 < (IntKind.i64.wrap x.2.2.1) then
      (intC (IntKind.i64.wrap x.2.2.1)) >>= fun y2 =>
      if 0 < (IntKind.i64.wrap x.2.2.2.1) then
        (intC (IntKind.i64.wrap x.2.2.2.1)) >>= fun y3 =>
        if (!decide (x.1 = 4)) = true then
          some (1, (IntKind.u32.wrap x.1), true, [], [(S78.mk 2 0 false y1 []), (S78.mk 2 1 false y2 []), (S78.mk 2 2 false y3 []), (S78.mk 2 3 false x.2.2.2.2 [])])
        else
          some (1, (IntKind.u32.wrap x.1), true, [], [(S78.mk 2 0 false y1 []), (S78.mk 2 1 false y2 []), (S78.mk 2 2 false y3 [])])
      else
        if (!decide (x.1 = 4)) = true then
          some (1, (IntKind.u32.wrap x.1), true, [], [(S78.mk 2 0 false y1 []), (S78.mk 2 1 false y2 []), (S78.mk 2 3 false x.2.2.2.2 [])])
        else
          some (1, (IntKind.u32.wrap x.1), true, [], [(S78.mk 2 0 false y1 []), (S78.mk 2 1 false y2 [])])
    else
      if 0 < (IntKind.i64.wrap x.2.2.2.1) then
        (intC (IntKind.i64.wrap x.2.2.2.1)) >>= fun y4 =>
        if (!decide (x.1 = 4)) = true then
          some (1, (IntKind.u32.wrap x.1), true, [], [(S78.mk 2 0 false y1 []), (S78.mk 2 2 false y4 []), (S78.mk 2 3 false x.2.2.2.2 [])])
        else
          some (1, (IntKind.u32.wrap x.1), true, [], [(S78.mk 2 0 false y1 []), (S78.mk 2 2 false y4 [])])
      else
        if (!decide (x.1 = 4)) = true then
          some (1, (IntKind.u32.wrap x.1), true, [], [(S78.mk 2 0 false y1 []), (S78.mk 2 3 false x.2.2.2.2 [])])
        else
          some (1, (IntKind.u32.wrap x.1), true, [], [(S78.mk 2 0 false y1 [])])
  else
    if 0 < (IntKind.i64.wrap x.2.2.1) then
      (intC (IntKind.i64.wrap x.2.2.1)) >>= fun y5 =>
      if 0 < (IntKind.i64.wrap x.2.2.2.1) then
        (intC (IntKind.i64.wrap x.2.2.2.1)) >>= fun y6 =>
        if (!decide (x.1 = 4)) = true then
          some (1, (IntKind.u32.wrap x.1), true, [], [(S78.mk 2 1 false y5 []), (S78.mk 2 2 false y6 []), (S78.mk 2 3 false x.2.2.2.2 [])])
        else
          some (1, (IntKind.u32.wrap x.1), true, [], [(S78.mk 2 1 false y5 []), (S78.mk 2 2 false y6 [])])
      else
        if (!decide (x.1 = 4)) = true then
          some (1, (IntKind.u32.wrap x.1), true, [], [(S78.mk 2 1 false y5 []), (S78.mk 2 3 false x.2.2.2.2 [])])
        else
          some (1, (IntKind.u32.wrap x.1), true, [], [(S78.mk 2 1 false y5 [])])
    else
      if 0 < (IntKind.i64.wrap x.2.2.2.1) then
        (intC (IntKind.i64.wrap x.2.2.2.1)) >>= fun y7 =>
        if (!decide (x.1 = 4)) = true then
          some (1, (IntKind.u32.wrap x.1), true, [], [(S78.mk 2 2 false y7 []), (S78.mk 2 3 false x.2.2.2.2 [])])
        else
          some (1, (IntKind.u32.wrap x.1), true, [], [(S78.mk 2 2 false y7 [])])
      else
        if (!decide (x.1 = 4)) = true then
          (app' 64 [] [(S78.mk 2 3 false x.2.2.2.2 [])]) >>= fun y8 =>
          some (1, (IntKind.u32.wrap x.1), true, [], y8)
        else
          some (1, (IntKind.u32.wrap x.1), true, [], [])
theorem lawTree_ok : ∀ (x : Int × Int × Int × Int × (List Int)) (r : Int × Int × Bool × (List Int) × (List S78)), lawTree x = some r → ∀ W0 : World, PTo Try.prog W0 31 #[.agg #[.int .u8 x.1, .int .u32 x.2.1, .int .u32 x.2.2.1, .int .u8 x.2.2.2.1, ls 1 false (encI .u8) x.2.2.2.2]] (.returned (.agg #[.int .u8 r.1, .int .u32 r.2.1, .bool r.2.2.1, ls 1 false (encI .u8) r.2.2.2.1, ls 5 false enc78 r.2.2.2.2])) := by
  intro x r h
  unfold lawTree at h
  intro W0
  refine PTo.of_body (fn := Try.f31) (code := cB Try.f31) Try.func31 rfl rfl ?_
  intro w0 S hS
  haveI := hS.noEx Try.prog
  refine H.sr 2 (by kernel_rfl) ?_
  refine H.sr 6 (by kernel_rfl) ?_
  refine H.sr 11 (by kernel_rfl) ?_
  refine H.seqP (by kernel_rfl) ?_
  refine H.sr 1 (by kernel_rfl) ?_
  refine H.blockI 0 (by kernel_rfl) ?_
  refine H.loopP (by kernel_rfl) ?_
  refine HL.round ?_
  refine H.seqP (by kernel_rfl) ?_
  refine H.sr 2 (by kernel_rfl) ?_
  refine H.condT (by kernel_rfl) (by kernel_rfl) ?_
  refine H.skipP (by kernel_rfl) ?_
  refine Kseq_norm ?_
  refine H.seqP (by kernel_rfl) ?_
  refine H.blockI 1 (by kernel_rfl) ?_
  refine H.sr 5 (by kernel_rfl) ?_
  refine H.condS (b := decide (0 < (IntKind.i64.wrap x.2.1))) (by kernel_rfl) (by kernel_rfl) (fun hb => ?_) (fun hb => ?_)
  rotate_left
  · rw [if_neg (of_decide_eq_false hb)] at h
    refine H.skipP (by kernel_rfl) ?_
    refine Kblock_norm ?_
    refine Kseq_norm ?_
    refine H.regP (by kernel_rfl) ?_
    refine HO.goP 3 (by kernel_rfl) ?_
    refine HO.done (by kernel_rfl) ?_
    refine Kloop_norm ?_
    refine HL.round ?_
    refine H.seqP (by kernel_rfl) ?_
    refine H.sr 2 (by kernel_rfl) ?_
    refine H.condT (by kernel_rfl) (by kernel_rfl) ?_
    refine H.skipP (by kernel_rfl) ?_
    refine Kseq_norm ?_
    refine H.seqP (by kernel_rfl) ?_
    refine H.blockI 1 (by kernel_rfl) ?_
    refine H.sr 5 (by kernel_rfl) ?_
    refine H.condS (b := decide (0 < (IntKind.i64.wrap x.2.2.1))) (by kernel_rfl) (by kernel_rfl) (fun hb => ?_) (fun hb => ?_)
    rotate_left
    · rw [if_neg (of_decide_eq_false hb)] at h
      refine H.skipP (by kernel_rfl) ?_
      refine Kblock_norm ?_
      refine Kseq_norm ?_
      refine H.regP (by kernel_rfl) ?_
      refine HO.goP 3 (by kernel_rfl) ?_
      refine HO.done (by kernel_rfl) ?_
      refine Kloop_norm ?_
      refine HL.round ?_
      refine H.seqP (by kernel_rfl) ?_
      refine H.sr 2 (by kernel_rfl) ?_
      refine H.condT (by kernel_rfl) (by kernel_rfl) ?_
      refine H.skipP (by kernel_rfl) ?_
      refine Kseq_norm ?_
      refine H.seqP (by kernel_rfl) ?_
      refine H.blockI 1 (by kernel_rfl) ?_
      refine H.sr 5 (by kernel_rfl) ?_
      refine H.condS (b := decide (0 < (IntKind.i64.wrap x.2.2.2.1))) (by kernel_rfl) (by kernel_rfl) (fun hb => ?_) (fun hb => ?_)
      rotate_left
      · rw [if_neg (of_decide_eq_false hb)] at h
        refine H.skipP (by kernel_rfl) ?_
        refine Kblock_norm ?_
        refine Kseq_norm ?_
        refine H.regP (by kernel_rfl) ?_
        refine HO.goP 3 (by kernel_rfl) ?_
        refine HO.done (by kernel_rfl) ?_
        refine Kloop_norm ?_
        refine HL.round ?_
        refine H.seqP (by kernel_rfl) ?_
        refine H.sr 2 (by kernel_rfl) ?_
        refine H.condF (by kernel_rfl) (by kernel_rfl) ?_
        refine H.exitI 0 (by kernel_rfl) ?_
        refine Kseq_exit ?_
        refine Kloop_exit ?_
        refine Kblock_hit ?_
        refine Kseq_norm ?_
        refine H.seqP (by kernel_rfl) ?_
        refine H.sr 3 (by kernel_rfl) ?_
        refine H.condS (b := !decide (x.1 = 4)) (by kernel_rfl) (by kernel_rfl) (fun hb => ?_) (fun hb => ?_)
        rotate_left
        · rw [if_neg (ne_true hb)] at h
          refine H.skipP (by kernel_rfl) ?_
          refine Kseq_norm ?_
          refine H.sr 2 (by kernel_rfl) ?_
          refine H.retP (by kernel_rfl) ?_
          obtain rfl := Option.some.inj h
          exact KEnd.retW (v := .agg #[.int .u8 1, .int .u32 (IntKind.u32.wrap x.1), .bool true, .slice none 0 0, .slice none 0 0]) (.agg [.keep, .keep, .keep, .list 1 false, .list 5 false]) (by kernel_rfl) (by kernel_rfl) (by kernel_rfl) (by kernel_rfl)
        rw [if_pos hb] at h
        refine H.regP (by kernel_rfl) ?_
        refine HO.goP 6 (by kernel_rfl) ?_
        refine HO.tok 46 5 (es := #[]) (by kernel_rfl) ?_
        refine HO.wkc 4 78 5 4 [.int .u8 2, .int .u32 3, .bool false, ls 1 false (encI .u8) x.2.2.2.2, .slice none 0 0] (.slice none 0 0) (ls 5 false enc78 []) (.list 5 false) (by kernel_rfl) ?_
        obtain ⟨y8, hy, h⟩ := bindS h
        refine HO.effA (app1_aop (enc := enc78) (k := 5) true 1 [.int .u8 2, .int .u32 3, .bool false, ls 1 false (encI .u8) x.2.2.2.2, ls 5 false enc78 []] [] hy (by kernel_rfl) (by kernel_rfl) (by simp only [List.map_cons, List.map_nil, enc78_eq]; kernel_rfl)) ?_
        refine HO.fin 2 (by kernel_rfl) ?_
        refine H.sr 2 (by kernel_rfl) ?_
        refine H.retP (by kernel_rfl) ?_
        obtain rfl := Option.some.inj h
        exact KEnd.retW (v := .agg #[.int .u8 1, .int .u32 (IntKind.u32.wrap x.1), .bool true, .slice none 0 0, tl 5 6 enc78 y8]) (.agg [.keep, .keep, .keep, .list 1 false, .list 5 false]) (by kernel_rfl) (by kernel_rfl) (by kernel_rfl) (by kernel_rfl)
      rw [if_pos (of_decide_eq_true hb)] at h
      refine H.drawQ ?_
      refine HQ.goP 8 (by kernel_rfl) ?_
      obtain ⟨y7, hy, h⟩ := bindS h
      refine HQ.callW hS [.keep] (intC_ok (IntKind.i64.wrap x.2.2.2.1) y7 hy W0) (by kernel_rfl) (by kernel_rfl) ?_
      refine HQ.goP 2 (by kernel_rfl) ?_
      refine HQ.goP 1 (by kernel_rfl) ?_
      refine HQ.goP 2 (by kernel_rfl) ?_
      refine HQ.done (by kernel_rfl) (by kernel_rfl) (by kernel_rfl) ?_
      refine Kblock_norm ?_
      refine Kseq_norm ?_
      refine H.regP (by kernel_rfl) ?_
      refine HO.goP 3 (by kernel_rfl) ?_
      refine HO.done (by kernel_rfl) ?_
      refine Kloop_norm ?_
      refine HL.round ?_
      refine H.seqP (by kernel_rfl) ?_
      refine H.sr 2 (by kernel_rfl) ?_
      refine H.condF (by kernel_rfl) (by kernel_rfl) ?_
      refine H.exitI 0 (by kernel_rfl) ?_
      refine Kseq_exit ?_
      refine Kloop_exit ?_
      refine Kblock_hit ?_
      refine Kseq_norm ?_
      refine H.seqP (by kernel_rfl) ?_
      refine H.sr 3 (by kernel_rfl) ?_
      refine H.condS (b := !decide (x.1 = 4)) (by kernel_rfl) (by kernel_rfl) (fun hb => ?_) (fun hb => ?_)
      rotate_left
      · rw [if_neg (ne_true hb)] at h
        refine H.skipP (by kernel_rfl) ?_
        refine Kseq_norm ?_
        refine H.sr 2 (by kernel_rfl) ?_
        refine H.wkc 5 78 5 4 [.int .u8 2, .int .u32 2, .bool false, ls 1 false (encI .u8) y7, .slice none 0 0] (.slice none 0 0) (ls 5 false enc78 []) (.list 5 false) (by kernel_rfl) ?_
        refine H.retP (by kernel_rfl) ?_
        obtain rfl := Option.some.inj h
        exact KEnd.of (v := .agg #[.int .u8 1, .int .u32 (IntKind.u32.wrap x.1), .bool true, .slice none 0 0, .slice (some ⟨5, 0, none⟩) 1 1180591620717411303424]) (by kernel_rfl) (by kernel_rfl) (PEnd.frzE 5 1 1180591620717411303424 5 78 false ([(S78.mk 2 2 false y7 [])].map enc78).toArray #[.agg #[.int .u8 2, .int .u32 2, .bool false, ls 1 false (encI .u8) y7, ls 5 false enc78 []]] [.int .u8 2, .int .u32 2, .bool false, ls 1 false (encI .u8) y7, ls 5 false enc78 []] (by simp only [List.map_cons, List.map_nil, enc78_eq]) (by kernel_rfl) (PEnd.wk (v1 := .agg #[.int .u8 1, .int .u32 (IntKind.u32.wrap x.1), .bool true, ls 1 false (encI .u8) [], ls 5 false enc78 [(S78.mk 2 2 false y7 [])]]) (.agg [.keep, .keep, .keep, .list 1 false, .list 5 false]) (by kernel_rfl) (PEnd.fin (by kernel_rfl))))
      rw [if_pos hb] at h
      refine H.regP (by kernel_rfl) ?_
      refine HO.goP 6 (by kernel_rfl) ?_
      refine HO.goP 1 (by kernel_rfl) ?_
      refine HO.fin 2 (by kernel_rfl) ?_
      refine H.sr 2 (by kernel_rfl) ?_
      refine H.wkc 7 78 5 4 [.int .u8 2, .int .u32 2, .bool false, ls 1 false (encI .u8) y7, .slice none 0 0, .int .u8 2, .int .u32 3, .bool false, ls 1 false (encI .u8) x.2.2.2.2, .slice none 0 0] (.slice none 0 0) (ls 5 false enc78 []) (.list 5 false) (by kernel_rfl) ?_
      refine H.wkc 7 78 5 9 [.int .u8 2, .int .u32 2, .bool false, ls 1 false (encI .u8) y7, ls 5 false enc78 [], .int .u8 2, .int .u32 3, .bool false, ls 1 false (encI .u8) x.2.2.2.2, .slice none 0 0] (.slice none 0 0) (ls 5 false enc78 []) (.list 5 false) (by kernel_rfl) ?_
      refine H.retP (by kernel_rfl) ?_
      obtain rfl := Option.some.inj h
      exact KEnd.of (v := .agg #[.int .u8 1, .int .u32 (IntKind.u32.wrap x.1), .bool true, .slice none 0 0, .slice (some ⟨7, 0, none⟩) 2 1180591620717411303424]) (by kernel_rfl) (by kernel_rfl) (PEnd.frzE 7 2 1180591620717411303424 5 78 false ([(S78.mk 2 2 false y7 []), (S78.mk 2 3 false x.2.2.2.2 [])].map enc78).toArray #[.agg #[.int .u8 2, .int .u32 2, .bool false, ls 1 false (encI .u8) y7, ls 5 false enc78 []], .agg #[.int .u8 2, .int .u32 3, .bool false, ls 1 false (encI .u8) x.2.2.2.2, ls 5 false enc78 []]] [.int .u8 2, .int .u32 2, .bool false, ls 1 false (encI .u8) y7, ls 5 false enc78 [], .int .u8 2, .int .u32 3, .bool false, ls 1 false (encI .u8) x.2.2.2.2, ls 5 false enc78 []] (by simp only [List.map_cons, List.map_nil, enc78_eq]) (by kernel_rfl) (PEnd.wk (v1 := .agg #[.int .u8 1, .int .u32 (IntKind.u32.wrap x.1), .bool true, ls 1 false (encI .u8) [], ls 5 false enc78 [(S78.mk 2 2 false y7 []), (S78.mk 2 3 false x.2.2.2.2 [])]]) (.agg [.keep, .keep, .keep, .list 1 false, .list 5 false]) (by kernel_rfl) (PEnd.fin (by kernel_rfl))))
    rw [if_pos (of_decide_eq_true hb)] at h
    refine H.drawQ ?_
    refine HQ.goP 8 (by kernel_rfl) ?_
    obtain ⟨y5, hy, h⟩ := bindS h
    refine HQ.callW hS [.keep] (intC_ok (IntKind.i64.wrap x.2.2.1) y5 hy W0) (by kernel_rfl) (by kernel_rfl) ?_
    refine HQ.goP 2 (by kernel_rfl) ?_
    refine HQ.goP 1 (by kernel_rfl) ?_
    refine HQ.goP 2 (by kernel_rfl) ?_
    refine HQ.done (by kernel_rfl) (by kernel_rfl) (by kernel_rfl) ?_
    refine Kblock_norm ?_
    refine Kseq_norm ?_
    refine H.regP (by kernel_rfl) ?_
    refine HO.goP 3 (by kernel_rfl) ?_
    refine HO.done (by kernel_rfl) ?_
    refine Kloop_norm ?_
    refine HL.round ?_
    refine H.seqP (by kernel_rfl) ?_
    refine H.sr 2 (by kernel_rfl) ?_
    refine H.condT (by kernel_rfl) (by kernel_rfl) ?_
    refine H.skipP (by kernel_rfl) ?_
    refine Kseq_norm ?_
    refine H.seqP (by kernel_rfl) ?_
    refine H.blockI 1 (by kernel_rfl) ?_
    refine H.sr 5 (by kernel_rfl) ?_
    refine H.condS (b := decide (0 < (IntKind.i64.wrap x.2.2.2.1))) (by kernel_rfl) (by kernel_rfl) (fun hb => ?_) (fun hb => ?_)
    rotate_left
    · rw [if_neg (of_decide_eq_false hb)] at h
      refine H.skipP (by kernel_rfl) ?_
      refine Kblock_norm ?_
      refine Kseq_norm ?_
      refine H.regP (by kernel_rfl) ?_
      refine HO.goP 3 (by kernel_rfl) ?_
      refine HO.done (by kernel_rfl) ?_
      refine Kloop_norm ?_
      refine HL.round ?_
      refine H.seqP (by kernel_rfl) ?_
      refine H.sr 2 (by kernel_rfl) ?_
      refine H.condF (by kernel_rfl) (by kernel_rfl) ?_
      refine H.exitI 0 (by kernel_rfl) ?_
      refine Kseq_exit ?_
      refine Kloop_exit ?_
      refine Kblock_hit ?_
      refine Kseq_norm ?_
      refine H.seqP (by kernel_rfl) ?_
      refine H.sr 3 (by kernel_rfl) ?_
      refine H.condS (b := !decide (x.1 = 4)) (by kernel_rfl) (by kernel_rfl) (fun hb => ?_) (fun hb => ?_)
      rotate_left
      · rw [if_neg (ne_true hb)] at h
        refine H.skipP (by kernel_rfl) ?_
        refine Kseq_norm ?_
        refine H.sr 2 (by kernel_rfl) ?_
        refine H.wkc 5 78 5 4 [.int .u8 2, .int .u32 1, .bool false, ls 1 false (encI .u8) y5, .slice none 0 0] (.slice none 0 0) (ls 5 false enc78 []) (.list 5 false) (by kernel_rfl) ?_
        refine H.retP (by kernel_rfl) ?_
        obtain rfl := Option.some.inj h
        exact KEnd.of (v := .agg #[.int .u8 1, .int .u32 (IntKind.u32.wrap x.1), .bool true, .slice none 0 0, .slice (some ⟨5, 0, none⟩) 1 1180591620717411303424]) (by kernel_rfl) (by kernel_rfl) (PEnd.frzE 5 1 1180591620717411303424 5 78 false ([(S78.mk 2 1 false y5 [])].map enc78).toArray #[.agg #[.int .u8 2, .int .u32 1, .bool false, ls 1 false (encI .u8) y5, ls 5 false enc78 []]] [.int .u8 2, .int .u32 1, .bool false, ls 1 false (encI .u8) y5, ls 5 false enc78 []] (by simp only [List.map_cons, List.map_nil, enc78_eq]) (by kernel_rfl) (PEnd.wk (v1 := .agg #[.int .u8 1, .int .u32 (IntKind.u32.wrap x.1), .bool true, ls 1 false (encI .u8) [], ls 5 false enc78 [(S78.mk 2 1 false y5 [])]]) (.agg [.keep, .keep, .keep, .list 1 false, .list 5 false]) (by kernel_rfl) (PEnd.fin (by kernel_rfl))))
      rw [if_pos hb] at h
      refine H.regP (by kernel_rfl) ?_
      refine HO.goP 6 (by kernel_rfl) ?_
      refine HO.goP 1 (by kernel_rfl) ?_
      refine HO.fin 2 (by kernel_rfl) ?_
      refine H.sr 2 (by kernel_rfl) ?_
      refine H.wkc 7 78 5 4 [.int .u8 2, .int .u32 1, .bool false, ls 1 false (encI .u8) y5, .slice none 0 0, .int .u8 2, .int .u32 3, .bool false, ls 1 false (encI .u8) x.2.2.2.2, .slice none 0 0] (.slice none 0 0) (ls 5 false enc78 []) (.list 5 false) (by kernel_rfl) ?_
      refine H.wkc 7 78 5 9 [.int .u8 2, .int .u32 1, .bool false, ls 1 false (encI .u8) y5, ls 5 false enc78 [], .int .u8 2, .int .u32 3, .bool false, ls 1 false (encI .u8) x.2.2.2.2, .slice none 0 0] (.slice none 0 0) (ls 5 false enc78 []) (.list 5 false) (by kernel_rfl) ?_
      refine H.retP (by kernel_rfl) ?_
      obtain rfl := Option.some.inj h
      exact KEnd.of (v := .agg #[.int .u8 1, .int .u32 (IntKind.u32.wrap x.1), .bool true, .slice none 0 0, .slice (some ⟨7, 0, none⟩) 2 1180591620717411303424]) (by kernel_rfl) (by kernel_rfl) (PEnd.frzE 7 2 1180591620717411303424 5 78 false ([(S78.mk 2 1 false y5 []), (S78.mk 2 3 false x.2.2.2.2 [])].map enc78).toArray #[.agg #[.int .u8 2, .int .u32 1, .bool false, ls 1 false (encI .u8) y5, ls 5 false enc78 []], .agg #[.int .u8 2, .int .u32 3, .bool false, ls 1 false (encI .u8) x.2.2.2.2, ls 5 false enc78 []]] [.int .u8 2, .int .u32 1, .bool false, ls 1 false (encI .u8) y5, ls 5 false enc78 [], .int .u8 2, .int .u32 3, .bool false, ls 1 false (encI .u8) x.2.2.2.2, ls 5 false enc78 []] (by simp only [List.map_cons, List.map_nil, enc78_eq]) (by kernel_rfl) (PEnd.wk (v1 := .agg #[.int .u8 1, .int .u32 (IntKind.u32.wrap x.1), .bool true, ls 1 false (encI .u8) [], ls 5 false enc78 [(S78.mk 2 1 false y5 []), (S78.mk 2 3 false x.2.2.2.2 [])]]) (.agg [.keep, .keep, .keep, .list 1 false, .list 5 false]) (by kernel_rfl) (PEnd.fin (by kernel_rfl))))
    rw [if_pos (of_decide_eq_true hb)] at h
    refine H.drawQ ?_
    refine HQ.goP 8 (by kernel_rfl) ?_
    obtain ⟨y6, hy, h⟩ := bindS h
    refine HQ.callW hS [.keep] (intC_ok (IntKind.i64.wrap x.2.2.2.1) y6 hy W0) (by kernel_rfl) (by kernel_rfl) ?_
    refine HQ.goP 2 (by kernel_rfl) ?_
    refine HQ.goP 1 (by kernel_rfl) ?_
    refine HQ.goP 2 (by kernel_rfl) ?_
    refine HQ.done (by kernel_rfl) (by kernel_rfl) (by kernel_rfl) ?_
    refine Kblock_norm ?_
    refine Kseq_norm ?_
    refine H.regP (by kernel_rfl) ?_
    refine HO.goP 3 (by kernel_rfl) ?_
    refine HO.done (by kernel_rfl) ?_
    refine Kloop_norm ?_
    refine HL.round ?_
    refine H.seqP (by kernel_rfl) ?_
    refine H.sr 2 (by kernel_rfl) ?_
    refine H.condF (by kernel_rfl) (by kernel_rfl) ?_
    refine H.exitI 0 (by kernel_rfl) ?_
    refine Kseq_exit ?_
    refine Kloop_exit ?_
    refine Kblock_hit ?_
    refine Kseq_norm ?_
    refine H.seqP (by kernel_rfl) ?_
    refine H.sr 3 (by kernel_rfl) ?_
    refine H.condS (b := !decide (x.1 = 4)) (by kernel_rfl) (by kernel_rfl) (fun hb => ?_) (fun hb => ?_)
    rotate_left
    · rw [if_neg (ne_true hb)] at h
      refine H.skipP (by kernel_rfl) ?_
      refine Kseq_norm ?_
      refine H.sr 2 (by kernel_rfl) ?_
      refine H.wkc 7 78 5 4 [.int .u8 2, .int .u32 1, .bool false, ls 1 false (encI .u8) y5, .slice none 0 0, .int .u8 2, .int .u32 2, .bool false, ls 1 false (encI .u8) y6, .slice none 0 0] (.slice none 0 0) (ls 5 false enc78 []) (.list 5 false) (by kernel_rfl) ?_
      refine H.wkc 7 78 5 9 [.int .u8 2, .int .u32 1, .bool false, ls 1 false (encI .u8) y5, ls 5 false enc78 [], .int .u8 2, .int .u32 2, .bool false, ls 1 false (encI .u8) y6, .slice none 0 0] (.slice none 0 0) (ls 5 false enc78 []) (.list 5 false) (by kernel_rfl) ?_
      refine H.retP (by kernel_rfl) ?_
      obtain rfl := Option.some.inj h
      exact KEnd.of (v := .agg #[.int .u8 1, .int .u32 (IntKind.u32.wrap x.1), .bool true, .slice none 0 0, .slice (some ⟨7, 0, none⟩) 2 1180591620717411303424]) (by kernel_rfl) (by kernel_rfl) (PEnd.frzE 7 2 1180591620717411303424 5 78 false ([(S78.mk 2 1 false y5 []), (S78.mk 2 2 false y6 [])].map enc78).toArray #[.agg #[.int .u8 2, .int .u32 1, .bool false, ls 1 false (encI .u8) y5, ls 5 false enc78 []], .agg #[.int .u8 2, .int .u32 2, .bool false, ls 1 false (encI .u8) y6, ls 5 false enc78 []]] [.int .u8 2, .int .u32 1, .bool false, ls 1 false (encI .u8) y5, ls 5 false enc78 [], .int .u8 2, .int .u32 2, .bool false, ls 1 false (encI .u8) y6, ls 5 false enc78 []] (by simp only [List.map_cons, List.map_nil, enc78_eq]) (by kernel_rfl) (PEnd.wk (v1 := .agg #[.int .u8 1, .int .u32 (IntKind.u32.wrap x.1), .bool true, ls 1 false (encI .u8) [], ls 5 false enc78 [(S78.mk 2 1 false y5 []), (S78.mk 2 2 false y6 [])]]) (.agg [.keep, .keep, .keep, .list 1 false, .list 5 false]) (by kernel_rfl) (PEnd.fin (by kernel_rfl))))
    rw [if_pos hb] at h
    refine H.regP (by kernel_rfl) ?_
    refine HO.goP 6 (by kernel_rfl) ?_
    refine HO.goP 1 (by kernel_rfl) ?_
    refine HO.fin 2 (by kernel_rfl) ?_
    refine H.sr 2 (by kernel_rfl) ?_
    refine H.wkc 9 78 5 4 [.int .u8 2, .int .u32 1, .bool false, ls 1 false (encI .u8) y5, .slice none 0 0, .int .u8 2, .int .u32 2, .bool false, ls 1 false (encI .u8) y6, .slice none 0 0, .int .u8 2, .int .u32 3, .bool false, ls 1 false (encI .u8) x.2.2.2.2, .slice none 0 0] (.slice none 0 0) (ls 5 false enc78 []) (.list 5 false) (by kernel_rfl) ?_
    refine H.wkc 9 78 5 9 [.int .u8 2, .int .u32 1, .bool false, ls 1 false (encI .u8) y5, ls 5 false enc78 [], .int .u8 2, .int .u32 2, .bool false, ls 1 false (encI .u8) y6, .slice none 0 0, .int .u8 2, .int .u32 3, .bool false, ls 1 false (encI .u8) x.2.2.2.2, .slice none 0 0] (.slice none 0 0) (ls 5 false enc78 []) (.list 5 false) (by kernel_rfl) ?_
    refine H.wkc 9 78 5 14 [.int .u8 2, .int .u32 1, .bool false, ls 1 false (encI .u8) y5, ls 5 false enc78 [], .int .u8 2, .int .u32 2, .bool false, ls 1 false (encI .u8) y6, ls 5 false enc78 [], .int .u8 2, .int .u32 3, .bool false, ls 1 false (encI .u8) x.2.2.2.2, .slice none 0 0] (.slice none 0 0) (ls 5 false enc78 []) (.list 5 false) (by kernel_rfl) ?_
    refine H.retP (by kernel_rfl) ?_
    obtain rfl := Option.some.inj h
    exact KEnd.of (v := .agg #[.int .u8 1, .int .u32 (IntKind.u32.wrap x.1), .bool true, .slice none 0 0, .slice (some ⟨9, 0, none⟩) 3 1180591620717411303424]) (by kernel_rfl) (by kernel_rfl) (PEnd.frzE 9 3 1180591620717411303424 5 78 false ([(S78.mk 2 1 false y5 []), (S78.mk 2 2 false y6 []), (S78.mk 2 3 false x.2.2.2.2 [])].map enc78).toArray #[.agg #[.int .u8 2, .int .u32 1, .bool false, ls 1 false (encI .u8) y5, ls 5 false enc78 []], .agg #[.int .u8 2, .int .u32 2, .bool false, ls 1 false (encI .u8) y6, ls 5 false enc78 []], .agg #[.int .u8 2, .int .u32 3, .bool false, ls 1 false (encI .u8) x.2.2.2.2, ls 5 false enc78 []]] [.int .u8 2, .int .u32 1, .bool false, ls 1 false (encI .u8) y5, ls 5 false enc78 [], .int .u8 2, .int .u32 2, .bool false, ls 1 false (encI .u8) y6, ls 5 false enc78 [], .int .u8 2, .int .u32 3, .bool false, ls 1 false (encI .u8) x.2.2.2.2, ls 5 false enc78 []] (by simp only [List.map_cons, List.map_nil, enc78_eq]) (by kernel_rfl) (PEnd.wk (v1 := .agg #[.int .u8 1, .int .u32 (IntKind.u32.wrap x.1), .bool true, ls 1 false (encI .u8) [], ls 5 false enc78 [(S78.mk 2 1 false y5 []), (S78.mk 2 2 false y6 []), (S78.mk 2 3 false x.2.2.2.2 [])]]) (.agg [.keep, .keep, .keep, .list 1 false, .list 5 false]) (by kernel_rfl) (PEnd.fin (by kernel_rfl))))
  rw [if_pos (of_decide_eq_true hb)] at h
  refine H.drawQ ?_
  refine HQ.goP 8 (by kernel_rfl) ?_
  obtain ⟨y1, hy, h⟩ := bindS h
  refine HQ.callW hS [.keep] (intC_ok (IntKind.i64.wrap x.2.1) y1 hy W0) (by kernel_rfl) (by kernel_rfl) ?_
  refine HQ.goP 2 (by kernel_rfl) ?_
  refine HQ.goP 1 (by kernel_rfl) ?_
  refine HQ.goP 2 (by kernel_rfl) ?_
  refine HQ.done (by kernel_rfl) (by kernel_rfl) (by kernel_rfl) ?_
  refine Kblock_norm ?_
  refine Kseq_norm ?_
  refine H.regP (by kernel_rfl) ?_
  refine HO.goP 3 (by kernel_rfl) ?_
  refine HO.done (by kernel_rfl) ?_
  refine Kloop_norm ?_
  refine HL.round ?_
  refine H.seqP (by kernel_rfl) ?_
  refine H.sr 2 (by kernel_rfl) ?_
  refine H.condT (by kernel_rfl) (by kernel_rfl) ?_
  refine H.skipP (by kernel_rfl) ?_
  refine Kseq_norm ?_
  refine H.seqP (by kernel_rfl) ?_
  refine H.blockI 1 (by kernel_rfl) ?_
  refine H.sr 5 (by kernel_rfl) ?_
  refine H.condS (b := decide (0 < (IntKind.i64.wrap x.2.2.1))) (by kernel_rfl) (by kernel_rfl) (fun hb => ?_) (fun hb => ?_)
  rotate_left
  · rw [if_neg (of_decide_eq_false hb)] at h
    refine H.skipP (by kernel_rfl) ?_
    refine Kblock_norm ?_
    refine Kseq_norm ?_
    refine H.regP (by kernel_rfl) ?_
    refine HO.goP 3 (by kernel_rfl) ?_
    refine HO.done (by kernel_rfl) ?_
    refine Kloop_norm ?_
    refine HL.round ?_
    refine H.seqP (by kernel_rfl) ?_
    refine H.sr 2 (by kernel_rfl) ?_
    refine H.condT (by kernel_rfl) (by kernel_rfl) ?_
    refine H.skipP (by kernel_rfl) ?_
    refine Kseq_norm ?_
    refine H.seqP (by kernel_rfl) ?_
    refine H.blockI 1 (by kernel_rfl) ?_
    refine H.sr 5 (by kernel_rfl) ?_
    refine H.condS (b := decide (0 < (IntKind.i64.wrap x.2.2.2.1))) (by kernel_rfl) (by kernel_rfl) (fun hb => ?_) (fun hb => ?_)
    rotate_left
    · rw [if_neg (of_decide_eq_false hb)] at h
      refine H.skipP (by kernel_rfl) ?_
      refine Kblock_norm ?_
      refine Kseq_norm ?_
      refine H.regP (by kernel_rfl) ?_
      refine HO.goP 3 (by kernel_rfl) ?_
      refine HO.done (by kernel_rfl) ?_
      refine Kloop_norm ?_
      refine HL.round ?_
      refine H.seqP (by kernel_rfl) ?_
      refine H.sr 2 (by kernel_rfl) ?_
      refine H.condF (by kernel_rfl) (by kernel_rfl) ?_
      refine H.exitI 0 (by kernel_rfl) ?_
      refine Kseq_exit ?_
      refine Kloop_exit ?_
      refine Kblock_hit ?_
      refine Kseq_norm ?_
      refine H.seqP (by kernel_rfl) ?_
      refine H.sr 3 (by kernel_rfl) ?_
      refine H.condS (b := !decide (x.1 = 4)) (by kernel_rfl) (by kernel_rfl) (fun hb => ?_) (fun hb => ?_)
      rotate_left
      · rw [if_neg (ne_true hb)] at h
        refine H.skipP (by kernel_rfl) ?_
        refine Kseq_norm ?_
        refine H.sr 2 (by kernel_rfl) ?_
        refine H.wkc 5 78 5 4 [.int .u8 2, .int .u32 0, .bool false, ls 1 false (encI .u8) y1, .slice none 0 0] (.slice none 0 0) (ls 5 false enc78 []) (.list 5 false) (by kernel_rfl) ?_
        refine H.retP (by kernel_rfl) ?_
        obtain rfl := Option.some.inj h
        exact KEnd.of (v := .agg #[.int .u8 1, .int .u32 (IntKind.u32.wrap x.1), .bool true, .slice none 0 0, .slice (some ⟨5, 0, none⟩) 1 1180591620717411303424]) (by kernel_rfl) (by kernel_rfl) (PEnd.frzE 5 1 1180591620717411303424 5 78 false ([(S78.mk 2 0 false y1 [])].map enc78).toArray #[.agg #[.int .u8 2, .int .u32 0, .bool false, ls 1 false (encI .u8) y1, ls 5 false enc78 []]] [.int .u8 2, .int .u32 0, .bool false, ls 1 false (encI .u8) y1, ls 5 false enc78 []] (by simp only [List.map_cons, List.map_nil, enc78_eq]) (by kernel_rfl) (PEnd.wk (v1 := .agg #[.int .u8 1, .int .u32 (IntKind.u32.wrap x.1), .bool true, ls 1 false (encI .u8) [], ls 5 false enc78 [(S78.mk 2 0 false y1 [])]]) (.agg [.keep, .keep, .keep, .list 1 false, .list 5 false]) (by kernel_rfl) (PEnd.fin (by kernel_rfl))))
      rw [if_pos hb] at h
      refine H.regP (by kernel_rfl) ?_
      refine HO.goP 6 (by kernel_rfl) ?_
      refine HO.goP 1 (by kernel_rfl) ?_
      refine HO.fin 2 (by kernel_rfl) ?_
      refine H.sr 2 (by kernel_rfl) ?_
      refine H.wkc 7 78 5 4 [.int .u8 2, .int .u32 0, .bool false, ls 1 false (encI .u8) y1, .slice none 0 0, .int .u8 2, .int .u32 3, .bool false, ls 1 false (encI .u8) x.2.2.2.2, .slice none 0 0] (.slice none 0 0) (ls 5 false enc78 []) (.list 5 false) (by kernel_rfl) ?_
      refine H.wkc 7 78 5 9 [.int .u8 2, .int .u32 0, .bool false, ls 1 false (encI .u8) y1, ls 5 false enc78 [], .int .u8 2, .int .u32 3, .bool false, ls 1 false (encI .u8) x.2.2.2.2, .slice none 0 0] (.slice none 0 0) (ls 5 false enc78 []) (.list 5 false) (by kernel_rfl) ?_
      refine H.retP (by kernel_rfl) ?_
      obtain rfl := Option.some.inj h
      exact KEnd.of (v := .agg #[.int .u8 1, .int .u32 (IntKind.u32.wrap x.1), .bool true, .slice none 0 0, .slice (some ⟨7, 0, none⟩) 2 1180591620717411303424]) (by kernel_rfl) (by kernel_rfl) (PEnd.frzE 7 2 1180591620717411303424 5 78 false ([(S78.mk 2 0 false y1 []), (S78.mk 2 3 false x.2.2.2.2 [])].map enc78).toArray #[.agg #[.int .u8 2, .int .u32 0, .bool false, ls 1 false (encI .u8) y1, ls 5 false enc78 []], .agg #[.int .u8 2, .int .u32 3, .bool false, ls 1 false (encI .u8) x.2.2.2.2, ls 5 false enc78 []]] [.int .u8 2, .int .u32 0, .bool false, ls 1 false (encI .u8) y1, ls 5 false enc78 [], .int .u8 2, .int .u32 3, .bool false, ls 1 false (encI .u8) x.2.2.2.2, ls 5 false enc78 []] (by simp only [List.map_cons, List.map_nil, enc78_eq]) (by kernel_rfl) (PEnd.wk (v1 := .agg #[.int .u8 1, .int .u32 (IntKind.u32.wrap x.1), .bool true, ls 1 false (encI .u8) [], ls 5 false enc78 [(S78.mk 2 0 false y1 []), (S78.mk 2 3 false x.2.2.2.2 [])]]) (.agg [.keep, .keep, .keep, .list 1 false, .list 5 false]) (by kernel_rfl) (PEnd.fin (by kernel_rfl))))
    rw [if_pos (of_decide_eq_true hb)] at h
    refine H.drawQ ?_
    refine HQ.goP 8 (by kernel_rfl) ?_
    obtain ⟨y4, hy, h⟩ := bindS h
    refine HQ.callW hS [.keep] (intC_ok (IntKind.i64.wrap x.2.2.2.1) y4 hy W0) (by kernel_rfl) (by kernel_rfl) ?_
    refine HQ.goP 2 (by kernel_rfl) ?_
    refine HQ.goP 1 (by kernel_rfl) ?_
    refine HQ.goP 2 (by kernel_rfl) ?_
    refine HQ.done (by kernel_rfl) (by kernel_rfl) (by kernel_rfl) ?_
    refine Kblock_norm ?_
    refine Kseq_norm ?_
    refine H.regP (by kernel_rfl) ?_
    refine HO.goP 3 (by kernel_rfl) ?_
    refine HO.done (by kernel_rfl) ?_
    refine Kloop_norm ?_
    refine HL.round ?_
    refine H.seqP (by kernel_rfl) ?_
    refine H.sr 2 (by kernel_rfl) ?_
    refine H.condF (by kernel_rfl) (by kernel_rfl) ?_
    refine H.exitI 0 (by kernel_rfl) ?_
    refine Kseq_exit ?_
    refine Kloop_exit ?_
    refine Kblock_hit ?_
    refine Kseq_norm ?_
    refine H.seqP (by kernel_rfl) ?_
    refine H.sr 3 (by kernel_rfl) ?_
    refine H.condS (b := !decide (x.1 = 4)) (by kernel_rfl) (by kernel_rfl) (fun hb => ?_) (fun hb => ?_)
    rotate_left
    · rw [if_neg (ne_true hb)] at h
      refine H.skipP (by kernel_rfl) ?_
      refine Kseq_norm ?_
      refine H.sr 2 (by kernel_rfl) ?_
      refine H.wkc 7 78 5 4 [.int .u8 2, .int .u32 0, .bool false, ls 1 false (encI .u8) y1, .slice none 0 0, .int .u8 2, .int .u32 2, .bool false, ls 1 false (encI .u8) y4, .slice none 0 0] (.slice none 0 0) (ls 5 false enc78 []) (.list 5 false) (by kernel_rfl) ?_
      refine H.wkc 7 78 5 9 [.int .u8 2, .int .u32 0, .bool false, ls 1 false (encI .u8) y1, ls 5 false enc78 [], .int .u8 2, .int .u32 2, .bool false, ls 1 false (encI .u8) y4, .slice none 0 0] (.slice none 0 0) (ls 5 false enc78 []) (.list 5 false) (by kernel_rfl) ?_
      refine H.retP (by kernel_rfl) ?_
      obtain rfl := Option.some.inj h
      exact KEnd.of (v := .agg #[.int .u8 1, .int .u32 (IntKind.u32.wrap x.1), .bool true, .slice none 0 0, .slice (some ⟨7, 0, none⟩) 2 1180591620717411303424]) (by kernel_rfl) (by kernel_rfl) (PEnd.frzE 7 2 1180591620717411303424 5 78 false ([(S78.mk 2 0 false y1 []), (S78.mk 2 2 false y4 [])].map enc78).toArray #[.agg #[.int .u8 2, .int .u32 0, .bool false, ls 1 false (encI .u8) y1, ls 5 false enc78 []], .agg #[.int .u8 2, .int .u32 2, .bool false, ls 1 false (encI .u8) y4, ls 5 false enc78 []]] [.int .u8 2, .int .u32 0, .bool false, ls 1 false (encI .u8) y1, ls 5 false enc78 [], .int .u8 2, .int .u32 2, .bool false, ls 1 false (encI .u8) y4, ls 5 false enc78 []] (by simp only [List.map_cons, List.map_nil, enc78_eq]) (by kernel_rfl) (PEnd.wk (v1 := .agg #[.int .u8 1, .int .u32 (IntKind.u32.wrap x.1), .bool true, ls 1 false (encI .u8) [], ls 5 false enc78 [(S78.mk 2 0 false y1 []), (S78.mk 2 2 false y4 [])]]) (.agg [.keep, .keep, .keep, .list 1 false, .list 5 false]) (by kernel_rfl) (PEnd.fin (by kernel_rfl))))
    rw [if_pos hb] at h
    refine H.regP (by kernel_rfl) ?_
    refine HO.goP 6 (by kernel_rfl) ?_
    refine HO.goP 1 (by kernel_rfl) ?_
    refine HO.fin 2 (by kernel_rfl) ?_
    refine H.sr 2 (by kernel_rfl) ?_
    refine H.wkc 9 78 5 4 [.int .u8 2, .int .u32 0, .bool false, ls 1 false (encI .u8) y1, .slice none 0 0, .int .u8 2, .int .u32 2, .bool false, ls 1 false (encI .u8) y4, .slice none 0 0, .int .u8 2, .int .u32 3, .bool false, ls 1 false (encI .u8) x.2.2.2.2, .slice none 0 0] (.slice none 0 0) (ls 5 false enc78 []) (.list 5 false) (by kernel_rfl) ?_
    refine H.wkc 9 78 5 9 [.int .u8 2, .int .u32 0, .bool false, ls 1 false (encI .u8) y1, ls 5 false enc78 [], .int .u8 2, .int .u32 2, .bool false, ls 1 false (encI .u8) y4, .slice none 0 0, .int .u8 2, .int .u32 3, .bool false, ls 1 false (encI .u8) x.2.2.2.2, .slice none 0 0] (.slice none 0 0) (ls 5 false enc78 []) (.list 5 false) (by kernel_rfl) ?_
    refine H.wkc 9 78 5 14 [.int .u8 2, .int .u32 0, .bool false, ls 1 false (encI .u8) y1, ls 5 false enc78 [], .int .u8 2, .int .u32 2, .bool false, ls 1 false (encI .u8) y4, ls 5 false enc78 [], .int .u8 2, .int .u32 3, .bool false, ls 1 false (encI .u8) x.2.2.2.2, .slice none 0 0] (.slice none 0 0) (ls 5 false enc78 []) (.list 5 false) (by kernel_rfl) ?_
    refine H.retP (by kernel_rfl) ?_
    obtain rfl := Option.some.inj h
    exact KEnd.of (v := .agg #[.int .u8 1, .int .u32 (IntKind.u32.wrap x.1), .bool true, .slice none 0 0, .slice (some ⟨9, 0, none⟩) 3 1180591620717411303424]) (by kernel_rfl) (by kernel_rfl) (PEnd.frzE 9 3 1180591620717411303424 5 78 false ([(S78.mk 2 0 false y1 []), (S78.mk 2 2 false y4 []), (S78.mk 2 3 false x.2.2.2.2 [])].map enc78).toArray #[.agg #[.int .u8 2, .int .u32 0, .bool false, ls 1 false (encI .u8) y1, ls 5 false enc78 []], .agg #[.int .u8 2, .int .u32 2, .bool false, ls 1 false (encI .u8) y4, ls 5 false enc78 []], .agg #[.int .u8 2, .int .u32 3, .bool false, ls 1 false (encI .u8) x.2.2.2.2, ls 5 false enc78 []]] [.int .u8 2, .int .u32 0, .bool false, ls 1 false (encI .u8) y1, ls 5 false enc78 [], .int .u8 2, .int .u32 2, .bool false, ls 1 false (encI .u8) y4, ls 5 false enc78 [], .int .u8 2, .int .u32 3, .bool false, ls 1 false (encI .u8) x.2.2.2.2, ls 5 false enc78 []] (by simp only [List.map_cons, List.map_nil, enc78_eq]) (by kernel_rfl) (PEnd.wk (v1 := .agg #[.int .u8 1, .int .u32 (IntKind.u32.wrap x.1), .bool true, ls 1 false (encI .u8) [], ls 5 false enc78 [(S78.mk 2 0 false y1 []), (S78.mk 2 2 false y4 []), (S78.mk 2 3 false x.2.2.2.2 [])]]) (.agg [.keep, .keep, .keep, .list 1 false, .list 5 false]) (by kernel_rfl) (PEnd.fin (by kernel_rfl))))
  rw [if_pos (of_decide_eq_true hb)] at h
  refine H.drawQ ?_
  refine HQ.goP 8 (by kernel_rfl) ?_
  obtain ⟨y2, hy, h⟩ := bindS h
  refine HQ.callW hS [.keep] (intC_ok (IntKind.i64.wrap x.2.2.1) y2 hy W0) (by kernel_rfl) (by kernel_rfl) ?_
  refine HQ.goP 2 (by kernel_rfl) ?_
  refine HQ.goP 1 (by kernel_rfl) ?_
  refine HQ.goP 2 (by kernel_rfl) ?_
  refine HQ.done (by kernel_rfl) (by kernel_rfl) (by kernel_rfl) ?_
  refine Kblock_norm ?_
  refine Kseq_norm ?_
  refine H.regP (by kernel_rfl) ?_
  refine HO.goP 3 (by kernel_rfl) ?_
  refine HO.done (by kernel_rfl) ?_
  refine Kloop_norm ?_
  refine HL.round ?_
  refine H.seqP (by kernel_rfl) ?_
  refine H.sr 2 (by kernel_rfl) ?_
  refine H.condT (by kernel_rfl) (by kernel_rfl) ?_
  refine H.skipP (by kernel_rfl) ?_
  refine Kseq_norm ?_
  refine H.seqP (by kernel_rfl) ?_
  refine H.blockI 1 (by kernel_rfl) ?_
  refine H.sr 5 (by kernel_rfl) ?_
  refine H.condS (b := decide (0 < (IntKind.i64.wrap x.2.2.2.1))) (by kernel_rfl) (by kernel_rfl) (fun hb => ?_) (fun hb => ?_)
  rotate_left
  · rw [if_neg (of_decide_eq_false hb)] at h
    refine H.skipP (by kernel_rfl) ?_
    refine Kblock_norm ?_
    refine Kseq_norm ?_
    refine H.regP (by kernel_rfl) ?_
    refine HO.goP 3 (by kernel_rfl) ?_
    refine HO.done (by kernel_rfl) ?_
    refine Kloop_norm ?_
    refine HL.round ?_
    refine H.seqP (by kernel_rfl) ?_
    refine H.sr 2 (by kernel_rfl) ?_
    refine H.condF (by kernel_rfl) (by kernel_rfl) ?_
    refine H.exitI 0 (by kernel_rfl) ?_
    refine Kseq_exit ?_
    refine Kloop_exit ?_
    refine Kblock_hit ?_
    refine Kseq_norm ?_
    refine H.seqP (by kernel_rfl) ?_
    refine H.sr 3 (by kernel_rfl) ?_
    refine H.condS (b := !decide (x.1 = 4)) (by kernel_rfl) (by kernel_rfl) (fun hb => ?_) (fun hb => ?_)
    rotate_left
    · rw [if_neg (ne_true hb)] at h
      refine H.skipP (by kernel_rfl) ?_
      refine Kseq_norm ?_
      refine H.sr 2 (by kernel_rfl) ?_
      refine H.wkc 7 78 5 4 [.int .u8 2, .int .u32 0, .bool false, ls 1 false (encI .u8) y1, .slice none 0 0, .int .u8 2, .int .u32 1, .bool false, ls 1 false (encI .u8) y2, .slice none 0 0] (.slice none 0 0) (ls 5 false enc78 []) (.list 5 false) (by kernel_rfl) ?_
      refine H.wkc 7 78 5 9 [.int .u8 2, .int .u32 0, .bool false, ls 1 false (encI .u8) y1, ls 5 false enc78 [], .int .u8 2, .int .u32 1, .bool false, ls 1 false (encI .u8) y2, .slice none 0 0] (.slice none 0 0) (ls 5 false enc78 []) (.list 5 false) (by kernel_rfl) ?_
      refine H.retP (by kernel_rfl) ?_
      obtain rfl := Option.some.inj h
      exact KEnd.of (v := .agg #[.int .u8 1, .int .u32 (IntKind.u32.wrap x.1), .bool true, .slice none 0 0, .slice (some ⟨7, 0, none⟩) 2 1180591620717411303424]) (by kernel_rfl) (by kernel_rfl) (PEnd.frzE 7 2 1180591620717411303424 5 78 false ([(S78.mk 2 0 false y1 []), (S78.mk 2 1 false y2 [])].map enc78).toArray #[.agg #[.int .u8 2, .int .u32 0, .bool false, ls 1 false (encI .u8) y1, ls 5 false enc78 []], .agg #[.int .u8 2, .int .u32 1, .bool false, ls 1 false (encI .u8) y2, ls 5 false enc78 []]] [.int .u8 2, .int .u32 0, .bool false, ls 1 false (encI .u8) y1, ls 5 false enc78 [], .int .u8 2, .int .u32 1, .bool false, ls 1 false (encI .u8) y2, ls 5 false enc78 []] (by simp only [List.map_cons, List.map_nil, enc78_eq]) (by kernel_rfl) (PEnd.wk (v1 := .agg #[.int .u8 1, .int .u32 (IntKind.u32.wrap x.1), .bool true, ls 1 false (encI .u8) [], ls 5 false enc78 [(S78.mk 2 0 false y1 []), (S78.mk 2 1 false y2 [])]]) (.agg [.keep, .keep, .keep, .list 1 false, .list 5 false]) (by kernel_rfl) (PEnd.fin (by kernel_rfl))))
    rw [if_pos hb] at h
    refine H.regP (by kernel_rfl) ?_
    refine HO.goP 6 (by kernel_rfl) ?_
    refine HO.goP 1 (by kernel_rfl) ?_
    refine HO.fin 2 (by kernel_rfl) ?_
    refine H.sr 2 (by kernel_rfl) ?_
    refine H.wkc 9 78 5 4 [.int .u8 2, .int .u32 0, .bool false, ls 1 false (encI .u8) y1, .slice none 0 0, .int .u8 2, .int .u32 1, .bool false, ls 1 false (encI .u8) y2, .slice none 0 0, .int .u8 2, .int .u32 3, .bool false, ls 1 false (encI .u8) x.2.2.2.2, .slice none 0 0] (.slice none 0 0) (ls 5 false enc78 []) (.list 5 false) (by kernel_rfl) ?_
    refine H.wkc 9 78 5 9 [.int .u8 2, .int .u32 0, .bool false, ls 1 false (encI .u8) y1, ls 5 false enc78 [], .int .u8 2, .int .u32 1, .bool false, ls 1 false (encI .u8) y2, .slice none 0 0, .int .u8 2, .int .u32 3, .bool false, ls 1 false (encI .u8) x.2.2.2.2, .slice none 0 0] (.slice none 0 0) (ls 5 false enc78 []) (.list 5 false) (by kernel_rfl) ?_
    refine H.wkc 9 78 5 14 [.int .u8 2, .int .u32 0, .bool false, ls 1 false (encI .u8) y1, ls 5 false enc78 [], .int .u8 2, .int .u32 1, .bool false, ls 1 false (encI .u8) y2, ls 5 false enc78 [], .int .u8 2, .int .u32 3, .bool false, ls 1 false (encI .u8) x.2.2.2.2, .slice none 0 0] (.slice none 0 0) (ls 5 false enc78 []) (.list 5 false) (by kernel_rfl) ?_
    refine H.retP (by kernel_rfl) ?_
    obtain rfl := Option.some.inj h
    exact KEnd.of (v := .agg #[.int .u8 1, .int .u32 (IntKind.u32.wrap x.1), .bool true, .slice none 0 0, .slice (some ⟨9, 0, none⟩) 3 1180591620717411303424]) (by kernel_rfl) (by kernel_rfl) (PEnd.frzE 9 3 1180591620717411303424 5 78 false ([(S78.mk 2 0 false y1 []), (S78.mk 2 1 false y2 []), (S78.mk 2 3 false x.2.2.2.2 [])].map enc78).toArray #[.agg #[.int .u8 2, .int .u32 0, .bool false, ls 1 false (encI .u8) y1, ls 5 false enc78 []], .agg #[.int .u8 2, .int .u32 1, .bool false, ls 1 false (encI .u8) y2, ls 5 false enc78 []], .agg #[.int .u8 2, .int .u32 3, .bool false, ls 1 false (encI .u8) x.2.2.2.2, ls 5 false enc78 []]] [.int .u8 2, .int .u32 0, .bool false, ls 1 false (encI .u8) y1, ls 5 false enc78 [], .int .u8 2, .int .u32 1, .bool false, ls 1 false (encI .u8) y2, ls 5 false enc78 [], .int .u8 2, .int .u32 3, .bool false, ls 1 false (encI .u8) x.2.2.2.2, ls 5 false enc78 []] (by simp only [List.map_cons, List.map_nil, enc78_eq]) (by kernel_rfl) (PEnd.wk (v1 := .agg #[.int .u8 1, .int .u32 (IntKind.u32.wrap x.1), .bool true, ls 1 false (encI .u8) [], ls 5 false enc78 [(S78.mk 2 0 false y1 []), (S78.mk 2 1 false y2 []), (S78.mk 2 3 false x.2.2.2.2 [])]]) (.agg [.keep, .keep, .keep, .list 1 false, .list 5 false]) (by kernel_rfl) (PEnd.fin (by kernel_rfl))))
  rw [if_pos (of_decide_eq_true hb)] at h
  refine H.drawQ ?_
  refine HQ.goP 8 (by kernel_rfl) ?_
  obtain ⟨y3, hy, h⟩ := bindS h
  refine HQ.callW hS [.keep] (intC_ok (IntKind.i64.wrap x.2.2.2.1) y3 hy W0) (by kernel_rfl) (by kernel_rfl) ?_
  refine HQ.goP 2 (by kernel_rfl) ?_
  refine HQ.goP 1 (by kernel_rfl) ?_
  refine HQ.goP 2 (by kernel_rfl) ?_
  refine HQ.done (by kernel_rfl) (by kernel_rfl) (by kernel_rfl) ?_
  refine Kblock_norm ?_
  refine Kseq_norm ?_
  refine H.regP (by kernel_rfl) ?_
  refine HO.goP 3 (by kernel_rfl) ?_
  refine HO.done (by kernel_rfl) ?_
  refine Kloop_norm ?_
  refine HL.round ?_
  refine H.seqP (by kernel_rfl) ?_
  refine H.sr 2 (by kernel_rfl) ?_
  refine H.condF (by kernel_rfl) (by kernel_rfl) ?_
  refine H.exitI 0 (by kernel_rfl) ?_
  refine Kseq_exit ?_
  refine Kloop_exit ?_
  refine Kblock_hit ?_
  refine Kseq_norm ?_
  refine H.seqP (by kernel_rfl) ?_
  refine H.sr 3 (by kernel_rfl) ?_
  refine H.condS (b := !decide (x.1 = 4)) (by kernel_rfl) (by kernel_rfl) (fun hb => ?_) (fun hb => ?_)
  rotate_left
  · rw [if_neg (ne_true hb)] at h
    refine H.skipP (by kernel_rfl) ?_
    refine Kseq_norm ?_
    refine H.sr 2 (by kernel_rfl) ?_
    refine H.wkc 9 78 5 4 [.int .u8 2, .int .u32 0, .bool false, ls 1 false (encI .u8) y1, .slice none 0 0, .int .u8 2, .int .u32 1, .bool false, ls 1 false (encI .u8) y2, .slice none 0 0, .int .u8 2, .int .u32 2, .bool false, ls 1 false (encI .u8) y3, .slice none 0 0] (.slice none 0 0) (ls 5 false enc78 []) (.list 5 false) (by kernel_rfl) ?_
    refine H.wkc 9 78 5 9 [.int .u8 2, .int .u32 0, .bool false, ls 1 false (encI .u8) y1, ls 5 false enc78 [], .int .u8 2, .int .u32 1, .bool false, ls 1 false (encI .u8) y2, .slice none 0 0, .int .u8 2, .int .u32 2, .bool false, ls 1 false (encI .u8) y3, .slice none 0 0] (.slice none 0 0) (ls 5 false enc78 []) (.list 5 false) (by kernel_rfl) ?_
    refine H.wkc 9 78 5 14 [.int .u8 2, .int .u32 0, .bool false, ls 1 false (encI .u8) y1, ls 5 false enc78 [], .int .u8 2, .int .u32 1, .bool false, ls 1 false (encI .u8) y2, ls 5 false enc78 [], .int .u8 2, .int .u32 2, .bool false, ls 1 false (encI .u8) y3, .slice none 0 0] (.slice none 0 0) (ls 5 false enc78 []) (.list 5 false) (by kernel_rfl) ?_
    refine H.retP (by kernel_rfl) ?_
    obtain rfl := Option.some.inj h
    exact KEnd.of (v := .agg #[.int .u8 1, .int .u32 (IntKind.u32.wrap x.1), .bool true, .slice none 0 0, .slice (some ⟨9, 0, none⟩) 3 1180591620717411303424]) (by kernel_rfl) (by kernel_rfl) (PEnd.frzE 9 3 1180591620717411303424 5 78 false ([(S78.mk 2 0 false y1 []), (S78.mk 2 1 false y2 []), (S78.mk 2 2 false y3 [])].map enc78).toArray #[.agg #[.int .u8 2, .int .u32 0, .bool false, ls 1 false (encI .u8) y1, ls 5 false enc78 []], .agg #[.int .u8 2, .int .u32 1, .bool false, ls 1 false (encI .u8) y2, ls 5 false enc78 []], .agg #[.int .u8 2, .int .u32 2, .bool false, ls 1 false (encI .u8) y3, ls 5 false enc78 []]] [.int .u8 2, .int .u32 0, .bool false, ls 1 false (encI .u8) y1, ls 5 false enc78 [], .int .u8 2, .int .u32 1, .bool false, ls 1 false (encI .u8) y2, ls 5 false enc78 [], .int .u8 2, .int .u32 2, .bool false, ls 1 false (encI .u8) y3, ls 5 false enc78 []] (by simp only [List.map_cons, List.map_nil, enc78_eq]) (by kernel_rfl) (PEnd.wk (v1 := .agg #[.int .u8 1, .int .u32 (IntKind.u32.wrap x.1), .bool true, ls 1 false (encI .u8) [], ls 5 false enc78 [(S78.mk 2 0 false y1 []), (S78.mk 2 1 false y2 []), (S78.mk 2 2 false y3 [])]]) (.agg [.keep, .keep, .keep, .list 1 false, .list 5 false]) (by kernel_rfl) (PEnd.fin (by kernel_rfl))))
  rw [if_pos hb] at h
  refine H.regP (by kernel_rfl) ?_
  refine HO.goP 6 (by kernel_rfl) ?_
  refine HO.goP 1 (by kernel_rfl) ?_
  refine HO.fin 2 (by kernel_rfl) ?_
  refine H.sr 2 (by kernel_rfl) ?_
  refine H.wkc 11 78 5 4 [.int .u8 2, .int .u32 0, .bool false, ls 1 false (encI .u8) y1, .slice none 0 0, .int .u8 2, .int .u32 1, .bool false, ls 1 false (encI .u8) y2, .slice none 0 0, .int .u8 2, .int .u32 2, .bool false, ls 1 false (encI .u8) y3, .slice none 0 0, .int .u8 2, .int .u32 3, .bool false, ls 1 false (encI .u8) x.2.2.2.2, .slice none 0 0] (.slice none 0 0) (ls 5 false enc78 []) (.list 5 false) (by kernel_rfl) ?_
  refine H.wkc 11 78 5 9 [.int .u8 2, .int .u32 0, .bool false, ls 1 false (encI .u8) y1, ls 5 false enc78 [], .int .u8 2, .int .u32 1, .bool false, ls 1 false (encI .u8) y2, .slice none 0 0, .int .u8 2, .int .u32 2, .bool false, ls 1 false (encI .u8) y3, .slice none 0 0, .int .u8 2, .int .u32 3, .bool false, ls 1 false (encI .u8) x.2.2.2.2, .slice none 0 0] (.slice none 0 0) (ls 5 false enc78 []) (.list 5 false) (by kernel_rfl) ?_
  refine H.wkc 11 78 5 14 [.int .u8 2, .int .u32 0, .bool false, ls 1 false (encI .u8) y1, ls 5 false enc78 [], .int .u8 2, .int .u32 1, .bool false, ls 1 false (encI .u8) y2, ls 5 false enc78 [], .int .u8 2, .int .u32 2, .bool false, ls 1 false (encI .u8) y3, .slice none 0 0, .int .u8 2, .int .u32 3, .bool false, ls 1 false (encI .u8) x.2.2.2.2, .slice none 0 0] (.slice none 0 0) (ls 5 false enc78 []) (.list 5 false) (by kernel_rfl) ?_
  refine H.wkc 11 78 5 19 [.int .u8 2, .int .u32 0, .bool false, ls 1 false (encI .u8) y1, ls 5 false enc78 [], .int .u8 2, .int .u32 1, .bool false, ls 1 false (encI .u8) y2, ls 5 false enc78 [], .int .u8 2, .int .u32 2, .bool false, ls 1 false (encI .u8) y3, ls 5 false enc78 [], .int .u8 2, .int .u32 3, .bool false, ls 1 false (encI .u8) x.2.2.2.2, .slice none 0 0] (.slice none 0 0) (ls 5 false enc78 []) (.list 5 false) (by kernel_rfl) ?_
  refine H.retP (by kernel_rfl) ?_
  obtain rfl := Option.some.inj h
  exact KEnd.of (v := .agg #[.int .u8 1, .int .u32 (IntKind.u32.wrap x.1), .bool true, .slice none 0 0, .slice (some ⟨11, 0, none⟩) 4 1180591620717411303424]) (by kernel_rfl) (by kernel_rfl) (PEnd.frzE 11 4 1180591620717411303424 5 78 false ([(S78.mk 2 0 false y1 []), (S78.mk 2 1 false y2 []), (S78.mk 2 2 false y3 []), (S78.mk 2 3 false x.2.2.2.2 [])].map enc78).toArray #[.agg #[.int .u8 2, .int .u32 0, .bool false, ls 1 false (encI .u8) y1, ls 5 false enc78 []], .agg #[.int .u8 2, .int .u32 1, .bool false, ls 1 false (encI .u8) y2, ls 5 false enc78 []], .agg #[.int .u8 2, .int .u32 2, .bool false, ls 1 false (encI .u8) y3, ls 5 false enc78 []], .agg #[.int .u8 2, .int .u32 3, .bool false, ls 1 false (encI .u8) x.2.2.2.2, ls 5 false enc78 []]] [.int .u8 2, .int .u32 0, .bool false, ls 1 false (encI .u8) y1, ls 5 false enc78 [], .int .u8 2, .int .u32 1, .bool false, ls 1 false (encI .u8) y2, ls 5 false enc78 [], .int .u8 2, .int .u32 2, .bool false, ls 1 false (encI .u8) y3, ls 5 false enc78 [], .int .u8 2, .int .u32 3, .bool false, ls 1 false (encI .u8) x.2.2.2.2, ls 5 false enc78 []] (by simp only [List.map_cons, List.map_nil, enc78_eq]) (by kernel_rfl) (PEnd.wk (v1 := .agg #[.int .u8 1, .int .u32 (IntKind.u32.wrap x.1), .bool true, ls 1 false (encI .u8) [], ls 5 false enc78 [(S78.mk 2 0 false y1 []), (S78.mk 2 1 false y2 []), (S78.mk 2 2 false y3 []), (S78.mk 2 3 false x.2.2.2.2 [])]]) (.agg [.keep, .keep, .keep, .list 1 false, .list 5 false]) (by kernel_rfl) (PEnd.fin (by kernel_rfl))))
def must (x : Bool × Int) : Option (Except Int Unit) :=
  if (!x.1) = true then
    some (.error x.2)
  else
    some (.ok ())
theorem must_ok : ∀ (x : Bool × Int) (r : Except Int Unit), must x = some r → ∀ W0 : World, PTo Try.prog W0 86 #[.bool x.1, .int .i64 x.2] (match r with | .ok r => .returned (.tuple #[]) | .error e => panE (.iface 32 (.int .i64 e))) := by
  intro x r h
  unfold must at h
  intro W0
  refine PTo.of_body (fn := Try.f86) (code := cB Try.f86) Try.func86 rfl rfl ?_
  intro w0 S hS
  haveI := hS.noEx Try.prog
  refine H.sr 2 (by kernel_rfl) ?_
  refine H.condS (b := !x.1) (by kernel_rfl) (by kernel_rfl) (fun hb => ?_) (fun hb => ?_)
  rotate_left
  · rw [if_neg (ne_true hb)] at h
    refine H.skipP (by kernel_rfl) ?_
    obtain rfl := Option.some.inj h
    exact KEnd.ret (by kernel_rfl) (by kernel_rfl) (by kernel_rfl)
  rw [if_pos hb] at h
  refine H.regP (by kernel_rfl) ?_
  refine HO.goP 2 (by kernel_rfl) ?_
  refine HO.pan1 (.iface 32 (.int .i64 x.2)) (by kernel_rfl) ?_
  obtain rfl := Option.some.inj h
  exact KEnd.pan (by kernel_rfl) (by kernel_rfl)
def take (x : Int × (List Int) × Int) : Option (Except Int ((List Int) × (List Int) × Int)) :=
  if (x.2.1.length : Int) < x.1 then
    some (.error 4)
  else
    (sub' x.2.1 0 x.1) >>= fun y1 =>
    (sub' x.2.1 x.1 (x.2.1.length : Int)) >>= fun y2 =>
    some (.ok (y1, y2, x.2.2))
theorem take_ok : ∀ (x : Int × (List Int) × Int) (r : Except Int ((List Int) × (List Int) × Int)), take x = some r → ∀ W0 : World, FTo Try.prog W0 91 #[.pointer (some ⟨0, 0, none⟩), .int .i64 x.1] (mkW 1 [] [(0, .cells [ls 1 false (encI .u8) x.2.1, .int .i64 x.2.2] 138 2)]) (match r with | .ok r => .returned (ls 1 false (encI .u8) r.1) | .error e => panE (.iface 32 (.int .i64 e))) (match r with | .ok r => (mkW 1 [] [(0, .cells [ls 1 false (encI .u8) r.2.1, .int .i64 r.2.2] 138 2)]) | .error _ => (mkW 1 [] [])) := by
  intro x r h
  unfold take at h
  intro W0
  refine FTo.of_body (fn := Try.f91) (code := cB Try.f91) Try.func91 rfl rfl ?_
  intro w0 S hS
  haveI := hS.noEx Try.prog
  refine H.sr 1 (by kernel_rfl) ?_
  refine H.seqP (by kernel_rfl) ?_
  refine H.sg (by kernel_rfl) ?_
  refine HO.goP 5 (by kernel_rfl) ?_
  refine HO.len (by kernel_rfl) (by kernel_rfl) (ls_size (encI .u8) x.2.1) ?_
  refine HO.fin 1 (by kernel_rfl) ?_
  refine H.condS (b := decide ((x.2.1.length : Int) < x.1)) (by kernel_rfl) (by kernel_rfl) (fun hb => ?_) (fun hb => ?_)
  · rw [if_pos (of_decide_eq_true hb)] at h
    refine H.regP (by kernel_rfl) ?_
    refine HO.goP 1 (by kernel_rfl) ?_
    refine HO.pan1 (.iface 32 (.int .i64 4)) (by kernel_rfl) ?_
    refine Kseq_pan ?_
    obtain rfl := Option.some.inj h
    exact KEnd.ofPan (by kernel_rfl) (FEnd.pan hS [0] [] [] (by kernel_rfl))
  rw [if_neg (of_decide_eq_false hb)] at h
  refine H.skipP (by kernel_rfl) ?_
  refine Kseq_norm ?_
  refine H.sg (by kernel_rfl) ?_
  refine HO.goP 5 (by kernel_rfl) ?_
  obtain ⟨y1, hy, h⟩ := bindS h
  refine HO.valA (sl2_aop (enc := (encI .u8)) (k := 1) (j := .i64) hy (by kernel_rfl)) ?_
  refine HO.fin 1 (by kernel_rfl) ?_
  refine H.sg (by kernel_rfl) ?_
  refine HO.goP 6 (by kernel_rfl) ?_
  obtain ⟨y2, hy, h⟩ := bindS h
  refine HO.valA (sl1_aop (enc := (encI .u8)) (k := 1) (j := .i64) false hy (by kernel_rfl)) ?_
  refine HO.fin 3 (by kernel_rfl) ?_
  refine H.sr 2 (by kernel_rfl) ?_
  refine H.retP (by kernel_rfl) ?_
  obtain rfl := Option.some.inj h
  exact KEnd.of (v := ls 1 false (encI .u8) y1) (by kernel_rfl) (by kernel_rfl) (FEnd.wk (v1 := ls 1 false (encI .u8) y1) (.list 1 false) (by kernel_rfl) (FEnd.ren hS [0] _ _ (by kernel_rfl)))
def next (x : (List Int) × Int) : Option (Except Int (Int × (List Int) × Int)) :=
  (take (1, x.1, x.2)) >>= fun y1 =>
  match y1 with
  | .error y1 =>
    some (.error y1)
  | .ok y1 =>
    (at' y1.1 0) >>= fun y2 =>
    some (.ok (y2, y1.2.1, y1.2.2))
theorem next_ok : ∀ (x : (List Int) × Int) (r : Except Int (Int × (List Int) × Int)), next x = some r → ∀ W0 : World, FTo Try.prog W0 87 #[.pointer (some ⟨0, 0, none⟩)] (mkW 1 [] [(0, .cells [ls 1 false (encI .u8) x.1, .int .i64 x.2] 138 2)]) (match r with | .ok r => .returned (.int .u8 r.1) | .error e => panE (.iface 32 (.int .i64 e))) (match r with | .ok r => (mkW 1 [] [(0, .cells [ls 1 false (encI .u8) r.2.1, .int .i64 r.2.2] 138 2)]) | .error _ => (mkW 1 [] [])) := by
  intro x r h
  unfold next at h
  intro W0
  refine FTo.of_body (fn := Try.f87) (code := cB Try.f87) Try.func87 rfl rfl ?_
  intro w0 S hS
  haveI := hS.noEx Try.prog
  refine H.sr 1 (by kernel_rfl) ?_
  refine H.sg (by kernel_rfl) ?_
  refine HO.goP 1 (by kernel_rfl) ?_
  obtain ⟨y1, hy, h⟩ := bindS h
  rcases y1 with y1 | y1
  · dsimp only at h
    refine HO.panFW hS 1 [] [] [0] [.keep, .keep] (take_ok (1, x.1, x.2) (.error y1) hy W0) (by kernel_rfl) (by kernel_rfl) ?_
    refine Kseq_pan ?_
    obtain rfl := Option.some.inj h
    exact KEnd.ofPan (by kernel_rfl) (FEnd.pan hS [0] [] [] (by kernel_rfl))
  dsimp only at h
  refine HO.callFW hS (ls 1 false (encI .u8) y1.1) 1 [] [(0, .cells [ls 1 false (encI .u8) y1.2.1, .int .i64 y1.2.2] 138 2)] [0] [.keep, .keep] (take_ok (1, x.1, x.2) (.ok y1) hy W0) (by kernel_rfl) (by kernel_rfl) ?_
  obtain ⟨y2, hy, h⟩ := bindS h
  refine HO.idx (.int .u8 y2) hy rfl (by kernel_rfl) ?_
  refine HO.fin 2 (by kernel_rfl) ?_
  refine H.retP (by kernel_rfl) ?_
  obtain rfl := Option.some.inj h
  exact KEnd.of (v := .int .u8 y2) (by kernel_rfl) (by kernel_rfl) (FEnd.ren hS [0] _ _ (by kernel_rfl))
mutual
def numberT_L2 (x : Int × Int × (List Int) × Int) : Option (Except Int (Int × (List Int) × Int)) :=
  (must ((decide ((bOr .u32 (shlI .u32 x.1 7) (IntKind.u32.wrap (bAnd .u8 x.2.1 127))) ≤ 2097151)), 3)) >>= fun y4 =>
  match y4 with
  | .error y4 =>
    some (.error y4)
  | .ok y4 =>
    if x.2.1 < 128 then
      (must ((decide (31 ≤ (bOr .u32 (shlI .u32 x.1 7) (IntKind.u32.wrap (bAnd .u8 x.2.1 127))))), 4)) >>= fun y5 =>
      match y5 with
      | .error y5 =>
        some (.error y5)
      | .ok y5 =>
        some (.ok ((bOr .u32 (shlI .u32 x.1 7) (IntKind.u32.wrap (bAnd .u8 x.2.1 127))), x.2.2.1, x.2.2.2))
    else
      numberT_L1 ((bOr .u32 (shlI .u32 x.1 7) (IntKind.u32.wrap (bAnd .u8 x.2.1 127))), false, x.2.2.1, x.2.2.2)
partial_fixpoint
def numberT_L1 (x : Int × Bool × (List Int) × Int) : Option (Except Int (Int × (List Int) × Int)) :=
  (next (x.2.2.1, x.2.2.2)) >>= fun y1 =>
  match y1 with
  | .error y1 =>
    some (.error y1)
  | .ok y1 =>
    if (!x.2.1) = true then
      (must (true, 4)) >>= fun y2 =>
      match y2 with
      | .error y2 =>
        some (.error y2)
      | .ok y2 =>
        numberT_L2 (x.1, y1.1, y1.2.1, y1.2.2)
    else
      (must ((!decide (y1.1 = 128)), 4)) >>= fun y3 =>
      match y3 with
      | .error y3 =>
        some (.error y3)
      | .ok y3 =>
        numberT_L2 (x.1, y1.1, y1.2.1, y1.2.2)
partial_fixpoint
end
theorem numberT_L2_grp : (∀ (x : Int × Int × (List Int) × Int) (r : Except Int (Int × (List Int) × Int)), numberT_L2 x = some r → ∀ (W0 w0 : World) (S : Own), Std W0 w0 S 1 → H Try.prog w0 S 32 (cR (cR (cL (cL (cL (cL (cR (cR (cR (cB Try.f88)))))))))) (mkS [(0, .pointer (some ⟨0, 0, none⟩)), (3, .int .u32 x.1), (5, .int .u8 x.2.1)] [(0, .cells [ls 1 false (encI .u8) x.2.2.1, .int .i64 x.2.2.2] 138 2)] 1 []) (Kblock 1 (Kseq Try.prog w0 S 32 (cR (cL (cL (cR (cR (cR (cB Try.f88))))))) (Kloop Try.prog w0 S 32 (cL (cL (cR (cR (cR (cB Try.f88)))))) (Kblock 0 (KEnd Try.prog Try.f88 (FEnd w0 S (match r with | .ok r => .returned (.int .u32 r.1) | .error e => panE (.iface 32 (.int .i64 e))) (match r with | .ok r => (mkW 1 [] [(0, .cells [ls 1 false (encI .u8) r.2.1, .int .i64 r.2.2] 138 2)]) | .error _ => (mkW 1 [] []))))))))) ∧
  (∀ (x : Int × Bool × (List Int) × Int) (r : Except Int (Int × (List Int) × Int)), numberT_L1 x = some r → ∀ (W0 w0 : World) (S : Own), Std W0 w0 S 1 → HL Try.prog w0 S 32 (cL (cL (cR (cR (cR (cB Try.f88)))))) (mkS [(0, .pointer (some ⟨0, 0, none⟩)), (3, .int .u32 x.1), (4, .bool x.2.1)] [(0, .cells [ls 1 false (encI .u8) x.2.2.1, .int .i64 x.2.2.2] 138 2)] 1 []) (Kblock 0 (KEnd Try.prog Try.f88 (FEnd w0 S (match r with | .ok r => .returned (.int .u32 r.1) | .error e => panE (.iface 32 (.int .i64 e))) (match r with | .ok r => (mkW 1 [] [(0, .cells [ls 1 false (encI .u8) r.2.1, .int .i64 r.2.2] 138 2)]) | .error _ => (mkW 1 [] [])))))) := by
  refine numberT_L2.mutual_partial_correctness (fun (x : Int × Int × (List Int) × Int) (r : Except Int (Int × (List Int) × Int)) => ∀ (W0 w0 : World) (S : Own), Std W0 w0 S 1 → H Try.prog w0 S 32 (cR (cR (cL (cL (cL (cL (cR (cR (cR (cB Try.f88)))))))))) (mkS [(0, .pointer (some ⟨0, 0, none⟩)), (3, .int .u32 x.1), (5, .int .u8 x.2.1)] [(0, .cells [ls 1 false (encI .u8) x.2.2.1, .int .i64 x.2.2.2] 138 2)] 1 []) (Kblock 1 (Kseq Try.prog w0 S 32 (cR (cL (cL (cR (cR (cR (cB Try.f88))))))) (Kloop Try.prog w0 S 32 (cL (cL (cR (cR (cR (cB Try.f88)))))) (Kblock 0 (KEnd Try.prog Try.f88 (FEnd w0 S (match r with | .ok r => .returned (.int .u32 r.1) | .error e => panE (.iface 32 (.int .i64 e))) (match r with | .ok r => (mkW 1 [] [(0, .cells [ls 1 false (encI .u8) r.2.1, .int .i64 r.2.2] 138 2)]) | .error _ => (mkW 1 [] []))))))))) (fun (x : Int × Bool × (List Int) × Int) (r : Except Int (Int × (List Int) × Int)) => ∀ (W0 w0 : World) (S : Own), Std W0 w0 S 1 → HL Try.prog w0 S 32 (cL (cL (cR (cR (cR (cB Try.f88)))))) (mkS [(0, .pointer (some ⟨0, 0, none⟩)), (3, .int .u32 x.1), (4, .bool x.2.1)] [(0, .cells [ls 1 false (encI .u8) x.2.2.1, .int .i64 x.2.2.2] 138 2)] 1 []) (Kblock 0 (KEnd Try.prog Try.f88 (FEnd w0 S (match r with | .ok r => .returned (.int .u32 r.1) | .error e => panE (.iface 32 (.int .i64 e))) (match r with | .ok r => (mkW 1 [] [(0, .cells [ls 1 false (encI .u8) r.2.1, .int .i64 r.2.2] 138 2)]) | .error _ => (mkW 1 [] [])))))) ?_ ?_
  · intro g_numberT_L1 ih_numberT_L1 x r h
    intro W0 w0 S hS
    haveI := hS.noEx Try.prog
    refine H.sr 7 (by kernel_rfl) ?_
    refine H.sg (by kernel_rfl) ?_
    refine HO.goP 2 (by kernel_rfl) ?_
    obtain ⟨y4, hy, h⟩ := bindS h
    rcases y4 with y4 | y4
    · dsimp only at h
      refine HO.panW hS [.keep, .keep] (must_ok ((decide ((bOr .u32 (shlI .u32 x.1 7) (IntKind.u32.wrap (bAnd .u8 x.2.1 127))) ≤ 2097151)), 3) (.error y4) hy W0) (by kernel_rfl) (by kernel_rfl) ?_
      refine Kseq_pan ?_
      refine Kblock_pan ?_
      refine Kseq_pan ?_
      refine Kloop_pan ?_
      refine Kblock_pan ?_
      obtain rfl := Option.some.inj h
      exact KEnd.ofPan (by kernel_rfl) (FEnd.pan hS [0] [] [] (by kernel_rfl))
    dsimp only at h
    refine HO.callW hS [.keep, .keep] (must_ok ((decide ((bOr .u32 (shlI .u32 x.1 7) (IntKind.u32.wrap (bAnd .u8 x.2.1 127))) ≤ 2097151)), 3) (.ok y4) hy W0) (by kernel_rfl) (by kernel_rfl) ?_
    refine HO.fin 0 (by kernel_rfl) ?_
    refine H.sr 2 (by kernel_rfl) ?_
    refine H.condS (b := decide (x.2.1 < 128)) (by kernel_rfl) (by kernel_rfl) (fun hb => ?_) (fun hb => ?_)
    rotate_left
    · rw [if_neg (of_decide_eq_false hb)] at h
      refine H.skipP (by kernel_rfl) ?_
      refine Kblock_norm ?_
      refine Kseq_norm ?_
      refine H.regP (by kernel_rfl) ?_
      refine HO.goP 1 (by kernel_rfl) ?_
      refine HO.done (by kernel_rfl) ?_
      refine Kloop_norm ?_
      exact HL.ren hS [0] _ _ _ (by kernel_rfl) (ih_numberT_L1 ((bOr .u32 (shlI .u32 x.1 7) (IntKind.u32.wrap (bAnd .u8 x.2.1 127))), false, x.2.2.1, x.2.2.2) r h W0 w0 S hS)
    rw [if_pos (of_decide_eq_true hb)] at h
    refine H.sg (by kernel_rfl) ?_
    refine HO.goP 2 (by kernel_rfl) ?_
    obtain ⟨y5, hy, h⟩ := bindS h
    rcases y5 with y5 | y5
    · dsimp only at h
      refine HO.panW hS [.keep, .keep] (must_ok ((decide (31 ≤ (bOr .u32 (shlI .u32 x.1 7) (IntKind.u32.wrap (bAnd .u8 x.2.1 127))))), 4) (.error y5) hy W0) (by kernel_rfl) (by kernel_rfl) ?_
      refine Kseq_pan ?_
      refine Kblock_pan ?_
      refine Kseq_pan ?_
      refine Kloop_pan ?_
      refine Kblock_pan ?_
      obtain rfl := Option.some.inj h
      exact KEnd.ofPan (by kernel_rfl) (FEnd.pan hS [0] [] [] (by kernel_rfl))
    dsimp only at h
    refine HO.callW hS [.keep, .keep] (must_ok ((decide (31 ≤ (bOr .u32 (shlI .u32 x.1 7) (IntKind.u32.wrap (bAnd .u8 x.2.1 127))))), 4) (.ok y5) hy W0) (by kernel_rfl) (by kernel_rfl) ?_
    refine HO.fin 0 (by kernel_rfl) ?_
    refine H.sr 2 (by kernel_rfl) ?_
    refine H.retP (by kernel_rfl) ?_
    refine Kblock_ret ?_
    refine Kseq_ret ?_
    refine Kloop_ret ?_
    refine Kblock_ret ?_
    obtain rfl := Option.some.inj h
    exact KEnd.of (v := .int .u32 (bOr .u32 (shlI .u32 x.1 7) (IntKind.u32.wrap (bAnd .u8 x.2.1 127)))) (by kernel_rfl) (by kernel_rfl) (FEnd.ren hS [0] _ _ (by kernel_rfl))
  · intro g_numberT_L2 ih_numberT_L2 x r h
    intro W0 w0 S hS
    haveI := hS.noEx Try.prog
    refine HL.round ?_
    refine H.seqP (by kernel_rfl) ?_
    refine H.blockI 1 (by kernel_rfl) ?_
    refine H.sg (by kernel_rfl) ?_
    refine HO.goP 3 (by kernel_rfl) ?_
    obtain ⟨y1, hy, h⟩ := bindS h
    rcases y1 with y1 | y1
    · dsimp only at h
      refine HO.panFW hS 1 [] [] [0] [.keep] (next_ok (x.2.2.1, x.2.2.2) (.error y1) hy W0) (by kernel_rfl) (by kernel_rfl) ?_
      refine Kseq_pan ?_
      refine Kblock_pan ?_
      refine Kseq_pan ?_
      refine Kloop_pan ?_
      refine Kblock_pan ?_
      obtain rfl := Option.some.inj h
      exact KEnd.ofPan (by kernel_rfl) (FEnd.pan hS [0] [] [] (by kernel_rfl))
    dsimp only at h
    refine HO.callFW hS (.int .u8 y1.1) 1 [] [(0, .cells [ls 1 false (encI .u8) y1.2.1, .int .i64 y1.2.2] 138 2)] [0] [.keep] (next_ok (x.2.2.1, x.2.2.2) (.ok y1) hy W0) (by kernel_rfl) (by kernel_rfl) ?_
    refine HO.fin 1 (by kernel_rfl) ?_
    refine H.sg (by kernel_rfl) ?_
    refine HO.goP 2 (by kernel_rfl) ?_
    refine HO.boolP (!x.2.1) (by kernel_rfl) (by kernel_rfl) (fun hb => ?_) (fun hb => ?_)
    · rw [if_pos hb] at h
      refine HO.goP 3 (by kernel_rfl) ?_
      obtain ⟨y2, hy, h⟩ := bindS h
      rcases y2 with y2 | y2
      rotate_left
      · dsimp only at h
        refine HO.callW hS [.keep, .keep] (must_ok (true, 4) (.ok y2) hy W0) (by kernel_rfl) (by kernel_rfl) ?_
        refine HO.fin 0 (by kernel_rfl) ?_
        exact H.ren hS [0] _ _ _ (by kernel_rfl) (ih_numberT_L2 (x.1, y1.1, y1.2.1, y1.2.2) r h W0 w0 S hS)
      dsimp only at h
      refine HO.panW hS [.keep, .keep] (must_ok (true, 4) (.error y2) hy W0) (by kernel_rfl) (by kernel_rfl) ?_
      refine Kseq_pan ?_
      refine Kblock_pan ?_
      refine Kseq_pan ?_
      refine Kloop_pan ?_
      refine Kblock_pan ?_
      obtain rfl := Option.some.inj h
      exact KEnd.ofPan (by kernel_rfl) (FEnd.pan hS [0] [] [] (by kernel_rfl))
    rw [if_neg (ne_true hb)] at h
    refine HO.goP 3 (by kernel_rfl) ?_
    obtain ⟨y3, hy, h⟩ := bindS h
    rcases y3 with y3 | y3
    rotate_left
    · dsimp only at h
      refine HO.callW hS [.keep, .keep] (must_ok ((!decide (y1.1 = 128)), 4) (.ok y3) hy W0) (by kernel_rfl) (by kernel_rfl) ?_
      refine HO.fin 0 (by kernel_rfl) ?_
      exact H.ren hS [0] _ _ _ (by kernel_rfl) (ih_numberT_L2 (x.1, y1.1, y1.2.1, y1.2.2) r h W0 w0 S hS)
    dsimp only at h
    refine HO.panW hS [.keep, .keep] (must_ok ((!decide (y1.1 = 128)), 4) (.error y3) hy W0) (by kernel_rfl) (by kernel_rfl) ?_
    refine Kseq_pan ?_
    refine Kblock_pan ?_
    refine Kseq_pan ?_
    refine Kloop_pan ?_
    refine Kblock_pan ?_
    obtain rfl := Option.some.inj h
    exact KEnd.ofPan (by kernel_rfl) (FEnd.pan hS [0] [] [] (by kernel_rfl))
theorem numberT_L2_ok : ∀ (x : Int × Int × (List Int) × Int) (r : Except Int (Int × (List Int) × Int)), numberT_L2 x = some r → ∀ (W0 w0 : World) (S : Own), Std W0 w0 S 1 → H Try.prog w0 S 32 (cR (cR (cL (cL (cL (cL (cR (cR (cR (cB Try.f88)))))))))) (mkS [(0, .pointer (some ⟨0, 0, none⟩)), (3, .int .u32 x.1), (5, .int .u8 x.2.1)] [(0, .cells [ls 1 false (encI .u8) x.2.2.1, .int .i64 x.2.2.2] 138 2)] 1 []) (Kblock 1 (Kseq Try.prog w0 S 32 (cR (cL (cL (cR (cR (cR (cB Try.f88))))))) (Kloop Try.prog w0 S 32 (cL (cL (cR (cR (cR (cB Try.f88)))))) (Kblock 0 (KEnd Try.prog Try.f88 (FEnd w0 S (match r with | .ok r => .returned (.int .u32 r.1) | .error e => panE (.iface 32 (.int .i64 e))) (match r with | .ok r => (mkW 1 [] [(0, .cells [ls 1 false (encI .u8) r.2.1, .int .i64 r.2.2] 138 2)]) | .error _ => (mkW 1 [] [])))))))) := numberT_L2_grp.1
theorem numberT_L1_ok : ∀ (x : Int × Bool × (List Int) × Int) (r : Except Int (Int × (List Int) × Int)), numberT_L1 x = some r → ∀ (W0 w0 : World) (S : Own), Std W0 w0 S 1 → HL Try.prog w0 S 32 (cL (cL (cR (cR (cR (cB Try.f88)))))) (mkS [(0, .pointer (some ⟨0, 0, none⟩)), (3, .int .u32 x.1), (4, .bool x.2.1)] [(0, .cells [ls 1 false (encI .u8) x.2.2.1, .int .i64 x.2.2.2] 138 2)] 1 []) (Kblock 0 (KEnd Try.prog Try.f88 (FEnd w0 S (match r with | .ok r => .returned (.int .u32 r.1) | .error e => panE (.iface 32 (.int .i64 e))) (match r with | .ok r => (mkW 1 [] [(0, .cells [ls 1 false (encI .u8) r.2.1, .int .i64 r.2.2] 138 2)]) | .error _ => (mkW 1 [] []))))) := numberT_L2_grp.2
def numberT (x : (List Int) × Int) : Option (Except Int (Int × (List Int) × Int)) :=
  numberT_L1 (0, true, x.1, x.2)
theorem numberT_ok : ∀ (x : (List Int) × Int) (r : Except Int (Int × (List Int) × Int)), numberT x = some r → ∀ W0 : World, FTo Try.prog W0 88 #[.pointer (some ⟨0, 0, none⟩)] (mkW 1 [] [(0, .cells [ls 1 false (encI .u8) x.1, .int .i64 x.2] 138 2)]) (match r with | .ok r => .returned (.int .u32 r.1) | .error e => panE (.iface 32 (.int .i64 e))) (match r with | .ok r => (mkW 1 [] [(0, .cells [ls 1 false (encI .u8) r.2.1, .int .i64 r.2.2] 138 2)]) | .error _ => (mkW 1 [] [])) := by
  intro x r h
  unfold numberT at h
  intro W0
  refine FTo.of_body (fn := Try.f88) (code := cB Try.f88) Try.func88 rfl rfl ?_
  intro w0 S hS
  haveI := hS.noEx Try.prog
  refine H.sr 1 (by kernel_rfl) ?_
  refine H.sr 1 (by kernel_rfl) ?_
  refine H.sr 1 (by kernel_rfl) ?_
  refine H.blockI 0 (by kernel_rfl) ?_
  refine H.loopP (by kernel_rfl) ?_
  exact HL.ren hS [0] _ _ _ (by kernel_rfl) (numberT_L1_ok (0, true, x.1, x.2) r h W0 w0 S hS)
def lengthT_L1 (x : Int × (List Int) × Int × Int × (List Int) × Int) : Option (Except Int (Int × Bool × (List Int) × Int)) :=
  if x.2.2.2.1 < x.2.2.1 then
    (at' x.2.1 x.2.2.2.1) >>= fun y5 =>
    lengthT_L1 ((minI (bOr .i64 (shlI .i64 x.1 8) (IntKind.i64.wrap y5)) 65537), x.2.1, x.2.2.1, (IntKind.i64.wrap (x.2.2.2.1 + 1)), x.2.2.2.2.1, x.2.2.2.2.2)
  else
    some (.ok (x.1, true, x.2.2.2.2.1, x.2.2.2.2.2))
partial_fixpoint
theorem lengthT_L1_ok : ∀ (x : Int × (List Int) × Int × Int × (List Int) × Int) (r : Except Int (Int × Bool × (List Int) × Int)), lengthT_L1 x = some r → ∀ (W0 w0 : World) (S : Own), Std W0 w0 S 1 → HL Try.prog w0 S 48 (cL (cL (cR (cL (cR (cR (cR (cR (cR (cB Try.f89)))))))))) (mkS [(7, .int .i64 x.1), (34, ls 1 false (encI .u8) x.2.1), (35, .int .i64 x.2.2.1), (36, .int .i64 x.2.2.2.1)] [(0, .cells [ls 1 false (encI .u8) x.2.2.2.2.1, .int .i64 x.2.2.2.2.2] 138 2)] 1 []) (Kblock 1 (Kseq Try.prog w0 S 48 (cR (cR (cR (cR (cR (cR (cB Try.f89))))))) (KEnd Try.prog Try.f89 (FEnd w0 S (match r with | .ok r => .returned (.tuple #[.int .i64 r.1, .bool r.2.1]) | .error e => panE (.iface 32 (.int .i64 e))) (match r with | .ok r => (mkW 1 [] [(0, .cells [ls 1 false (encI .u8) r.2.2.1, .int .i64 r.2.2.2] 138 2)]) | .error _ => (mkW 1 [] [])))))) := by
  refine lengthT_L1.partial_correctness (fun (x : Int × (List Int) × Int × Int × (List Int) × Int) (r : Except Int (Int × Bool × (List Int) × Int)) => ∀ (W0 w0 : World) (S : Own), Std W0 w0 S 1 → HL Try.prog w0 S 48 (cL (cL (cR (cL (cR (cR (cR (cR (cR (cB Try.f89)))))))))) (mkS [(7, .int .i64 x.1), (34, ls 1 false (encI .u8) x.2.1), (35, .int .i64 x.2.2.1), (36, .int .i64 x.2.2.2.1)] [(0, .cells [ls 1 false (encI .u8) x.2.2.2.2.1, .int .i64 x.2.2.2.2.2] 138 2)] 1 []) (Kblock 1 (Kseq Try.prog w0 S 48 (cR (cR (cR (cR (cR (cR (cB Try.f89))))))) (KEnd Try.prog Try.f89 (FEnd w0 S (match r with | .ok r => .returned (.tuple #[.int .i64 r.1, .bool r.2.1]) | .error e => panE (.iface 32 (.int .i64 e))) (match r with | .ok r => (mkW 1 [] [(0, .cells [ls 1 false (encI .u8) r.2.2.1, .int .i64 r.2.2.2] 138 2)]) | .error _ => (mkW 1 [] []))))))) ?_
  intro self ih_lengthT_L1 x r h
  intro W0 w0 S hS
  haveI := hS.noEx Try.prog
  refine HL.round ?_
  refine H.sr 1 (by kernel_rfl) ?_
  refine H.seqP (by kernel_rfl) ?_
  refine H.condS (b := decide (x.2.2.2.1 < x.2.2.1)) (by kernel_rfl) (by kernel_rfl) (fun hb => ?_) (fun hb => ?_)
  rotate_left
  · rw [if_neg (of_decide_eq_false hb)] at h
    refine H.exitI 1 (by kernel_rfl) ?_
    refine Kseq_exit ?_
    refine Kloop_exit ?_
    refine Kblock_hit ?_
    refine Kseq_norm ?_
    refine H.sr 3 (by kernel_rfl) ?_
    refine H.retP (by kernel_rfl) ?_
    obtain rfl := Option.some.inj h
    exact KEnd.of (v := .tuple #[.int .i64 x.1, .bool true]) (by kernel_rfl) (by kernel_rfl) (FEnd.ren hS [0] _ _ (by kernel_rfl))
  rw [if_pos (of_decide_eq_true hb)] at h
  refine H.skipP (by kernel_rfl) ?_
  refine Kseq_norm ?_
  refine H.seqP (by kernel_rfl) ?_
  refine H.blockI 2 (by kernel_rfl) ?_
  refine H.sg (by kernel_rfl) ?_
  obtain ⟨y5, hy, h⟩ := bindS h
  refine HO.idx (.int .u8 y5) hy rfl (by kernel_rfl) ?_
  refine HO.fin 2 (by kernel_rfl) ?_
  refine H.regP (by kernel_rfl) ?_
  refine HO.goP 7 (by kernel_rfl) ?_
  refine HO.done (by kernel_rfl) ?_
  refine Kblock_norm ?_
  refine Kseq_norm ?_
  refine H.regP (by kernel_rfl) ?_
  refine HO.goP 2 (by kernel_rfl) ?_
  refine HO.done (by kernel_rfl) ?_
  refine Kloop_norm ?_
  exact HL.ren hS [0] _ _ _ (by kernel_rfl) (ih_lengthT_L1 ((minI (bOr .i64 (shlI .i64 x.1 8) (IntKind.i64.wrap y5)) 65537), x.2.1, x.2.2.1, (IntKind.i64.wrap (x.2.2.2.1 + 1)), x.2.2.2.2.1, x.2.2.2.2.2) r h W0 w0 S hS)
def lengthT (x : Int × Int × Bool × (List Int) × (List S78) × (List Int) × Int) : Option (Except Int (Int × Bool × (List Int) × Int)) :=
  (next (x.2.2.2.2.2.1, x.2.2.2.2.2.2)) >>= fun y1 =>
  match y1 with
  | .error y1 =>
    some (.error y1)
  | .ok y1 =>
    if y1.1 < 128 then
      some (.ok ((IntKind.i64.wrap y1.1), true, y1.2.1, y1.2.2))
    else
      if y1.1 = 128 then
        (must (x.2.2.1, 4)) >>= fun y2 =>
        match y2 with
        | .error y2 =>
          some (.error y2)
        | .ok y2 =>
          some (.ok (0, false, y1.2.1, y1.2.2))
      else
        (must ((!decide (y1.1 = 255)), 4)) >>= fun y3 =>
        match y3 with
        | .error y3 =>
          some (.error y3)
        | .ok y3 =>
          (take ((IntKind.i64.wrap (IntKind.u8.wrap (y1.1 - 128))), y1.2.1, y1.2.2)) >>= fun y4 =>
          match y4 with
          | .error y4 =>
            some (.error y4)
          | .ok y4 =>
            lengthT_L1 (0, y4.1, (y4.1.length : Int), 0, y4.2.1, y4.2.2)
theorem lengthT_ok : ∀ (x : Int × Int × Bool × (List Int) × (List S78) × (List Int) × Int) (r : Except Int (Int × Bool × (List Int) × Int)), lengthT x = some r → ∀ W0 : World, FTo Try.prog W0 89 #[.pointer (some ⟨0, 0, none⟩), .agg #[.int .u8 x.1, .int .u32 x.2.1, .bool x.2.2.1, ls 1 false (encI .u8) x.2.2.2.1, ls 5 false enc78 x.2.2.2.2.1]] (mkW 1 [] [(0, .cells [ls 1 false (encI .u8) x.2.2.2.2.2.1, .int .i64 x.2.2.2.2.2.2] 138 2)]) (match r with | .ok r => .returned (.tuple #[.int .i64 r.1, .bool r.2.1]) | .error e => panE (.iface 32 (.int .i64 e))) (match r with | .ok r => (mkW 1 [] [(0, .cells [ls 1 false (encI .u8) r.2.2.1, .int .i64 r.2.2.2] 138 2)]) | .error _ => (mkW 1 [] [])) := by
  intro x r h
  unfold lengthT at h
  intro W0
  refine FTo.of_body (fn := Try.f89) (code := cB Try.f89) Try.func89 rfl rfl ?_
  intro w0 S hS
  haveI := hS.noEx Try.prog
  refine H.sr 3 (by kernel_rfl) ?_
  refine H.sg (by kernel_rfl) ?_
  refine HO.goP 3 (by kernel_rfl) ?_
  obtain ⟨y1, hy, h⟩ := bindS h
  rcases y1 with y1 | y1
  · dsimp only at h
    refine HO.panFW hS 2 [] [(1, .cells [.int .u8 x.1, .int .u32 x.2.1, .bool x.2.2.1, ls 1 false (encI .u8) x.2.2.2.1, ls 5 false enc78 x.2.2.2.2.1] 78 5)] [0] [.keep] (next_ok (x.2.2.2.2.2.1, x.2.2.2.2.2.2) (.error y1) hy W0) (by kernel_rfl) (by kernel_rfl) ?_
    refine Kseq_pan ?_
    obtain rfl := Option.some.inj h
    exact KEnd.ofPan (by kernel_rfl) (FEnd.pan hS [0] [] [] (by kernel_rfl))
  dsimp only at h
  refine HO.callFW hS (.int .u8 y1.1) 2 [] [(0, .cells [ls 1 false (encI .u8) y1.2.1, .int .i64 y1.2.2] 138 2), (1, .cells [.int .u8 x.1, .int .u32 x.2.1, .bool x.2.2.1, ls 1 false (encI .u8) x.2.2.2.1, ls 5 false enc78 x.2.2.2.2.1] 78 5)] [0] [.keep] (next_ok (x.2.2.2.2.2.1, x.2.2.2.2.2.2) (.ok y1) hy W0) (by kernel_rfl) (by kernel_rfl) ?_
  refine HO.fin 1 (by kernel_rfl) ?_
  refine H.seqP (by kernel_rfl) ?_
  refine H.blockI 0 (by kernel_rfl) ?_
  refine H.sr 3 (by kernel_rfl) ?_
  refine H.condS (b := decide (y1.1 < 128)) (by kernel_rfl) (by kernel_rfl) (fun hb => ?_) (fun hb => ?_)
  · rw [if_pos (of_decide_eq_true hb)] at h
    refine H.sr 4 (by kernel_rfl) ?_
    refine H.retP (by kernel_rfl) ?_
    refine Kblock_ret ?_
    refine Kseq_ret ?_
    obtain rfl := Option.some.inj h
    exact KEnd.of (v := .tuple #[.int .i64 (IntKind.i64.wrap y1.1), .bool true]) (by kernel_rfl) (by kernel_rfl) (FEnd.ren hS [0] _ _ (by kernel_rfl))
  rw [if_neg (of_decide_eq_false hb)] at h
  refine H.sr 3 (by kernel_rfl) ?_
  refine H.condS (b := decide (y1.1 = 128)) (by kernel_rfl) (by kernel_rfl) (fun hb => ?_) (fun hb => ?_)
  · rw [if_pos (of_decide_eq_true hb)] at h
    refine H.sg (by kernel_rfl) ?_
    refine HO.goP 2 (by kernel_rfl) ?_
    obtain ⟨y2, hy, h⟩ := bindS h
    rcases y2 with y2 | y2
    · dsimp only at h
      refine HO.panW hS [.keep, .keep] (must_ok (x.2.2.1, 4) (.error y2) hy W0) (by kernel_rfl) (by kernel_rfl) ?_
      refine Kseq_pan ?_
      refine Kblock_pan ?_
      refine Kseq_pan ?_
      obtain rfl := Option.some.inj h
      exact KEnd.ofPan (by kernel_rfl) (FEnd.pan hS [0] [] [] (by kernel_rfl))
    dsimp only at h
    refine HO.callW hS [.keep, .keep] (must_ok (x.2.2.1, 4) (.ok y2) hy W0) (by kernel_rfl) (by kernel_rfl) ?_
    refine HO.fin 0 (by kernel_rfl) ?_
    refine H.sr 2 (by kernel_rfl) ?_
    refine H.retP (by kernel_rfl) ?_
    refine Kblock_ret ?_
    refine Kseq_ret ?_
    obtain rfl := Option.some.inj h
    exact KEnd.of (v := .tuple #[.int .i64 0, .bool false]) (by kernel_rfl) (by kernel_rfl) (FEnd.ren hS [0] _ _ (by kernel_rfl))
  rw [if_neg (of_decide_eq_false hb)] at h
  refine H.skipP (by kernel_rfl) ?_
  refine Kblock_norm ?_
  refine Kseq_norm ?_
  refine H.sg (by kernel_rfl) ?_
  refine HO.goP 2 (by kernel_rfl) ?_
  obtain ⟨y3, hy, h⟩ := bindS h
  rcases y3 with y3 | y3
  · dsimp only at h
    refine HO.panW hS [.keep, .keep] (must_ok ((!decide (y1.1 = 255)), 4) (.error y3) hy W0) (by kernel_rfl) (by kernel_rfl) ?_
    refine Kseq_pan ?_
    obtain rfl := Option.some.inj h
    exact KEnd.ofPan (by kernel_rfl) (FEnd.pan hS [0] [] [] (by kernel_rfl))
  dsimp only at h
  refine HO.callW hS [.keep, .keep] (must_ok ((!decide (y1.1 = 255)), 4) (.ok y3) hy W0) (by kernel_rfl) (by kernel_rfl) ?_
  refine HO.fin 0 (by kernel_rfl) ?_
  refine H.sr 1 (by kernel_rfl) ?_
  refine H.seqP (by kernel_rfl) ?_
  refine H.sg (by kernel_rfl) ?_
  refine HO.goP 6 (by kernel_rfl) ?_
  obtain ⟨y4, hy, h⟩ := bindS h
  rcases y4 with y4 | y4
  · dsimp only at h
    refine HO.panFW hS 2 [] [(1, .cells [.int .u8 x.1, .int .u32 x.2.1, .bool x.2.2.1, ls 1 false (encI .u8) x.2.2.2.1, ls 5 false enc78 x.2.2.2.2.1] 78 5)] [0] [.keep, .keep] (take_ok ((IntKind.i64.wrap (IntKind.u8.wrap (y1.1 - 128))), y1.2.1, y1.2.2) (.error y4) hy W0) (by kernel_rfl) (by kernel_rfl) ?_
    refine Kseq_pan ?_
    refine Kseq_pan ?_
    obtain rfl := Option.some.inj h
    exact KEnd.ofPan (by kernel_rfl) (FEnd.pan hS [0] [] [] (by kernel_rfl))
  dsimp only at h
  refine HO.callFW hS (ls 1 false (encI .u8) y4.1) 2 [] [(0, .cells [ls 1 false (encI .u8) y4.2.1, .int .i64 y4.2.2] 138 2), (1, .cells [.int .u8 x.1, .int .u32 x.2.1, .bool x.2.2.1, ls 1 false (encI .u8) x.2.2.2.1, ls 5 false enc78 x.2.2.2.2.1] 78 5)] [0] [.keep, .keep] (take_ok ((IntKind.i64.wrap (IntKind.u8.wrap (y1.1 - 128))), y1.2.1, y1.2.2) (.ok y4) hy W0) (by kernel_rfl) (by kernel_rfl) ?_
  refine HO.len (by kernel_rfl) (by kernel_rfl) (ls_size (encI .u8) y4.1) ?_
  refine HO.fin 1 (by kernel_rfl) ?_
  refine H.blockI 1 (by kernel_rfl) ?_
  refine H.loopP (by kernel_rfl) ?_
  exact HL.ren hS [0] _ _ _ (by kernel_rfl) (lengthT_L1_ok (0, y4.1, (y4.1.length : Int), 0, y4.2.1, y4.2.2) r h W0 w0 S hS)
def ahead (x : (List Int) × Int) : Option (Except Int (Bool × (List Int) × Int)) :=
  (must ((decide (0 < (x.1.length : Int))), 4)) >>= fun y1 =>
  match y1 with
  | .error y1 =>
    some (.error y1)
  | .ok y1 =>
    (at' x.1 0) >>= fun y2 =>
    if (!decide (y2 = 0)) = true then
      some (.ok (true, x.1, x.2))
    else
      (take (2, x.1, x.2)) >>= fun y3 =>
      match y3 with
      | .error y3 =>
        some (.error y3)
      | .ok y3 =>
        (at' y3.1 1) >>= fun y4 =>
        (must ((decide (y4 = 0)), 4)) >>= fun y5 =>
        match y5 with
        | .error y5 =>
          some (.error y5)
        | .ok y5 =>
          some (.ok (false, y3.2.1, y3.2.2))
theorem ahead_ok : ∀ (x : (List Int) × Int) (r : Except Int (Bool × (List Int) × Int)), ahead x = some r → ∀ W0 : World, FTo Try.prog W0 90 #[.pointer (some ⟨0, 0, none⟩)] (mkW 1 [] [(0, .cells [ls 1 false (encI .u8) x.1, .int .i64 x.2] 138 2)]) (match r with | .ok r => .returned (.bool r.1) | .error e => panE (.iface 32 (.int .i64 e))) (match r with | .ok r => (mkW 1 [] [(0, .cells [ls 1 false (encI .u8) r.2.1, .int .i64 r.2.2] 138 2)]) | .error _ => (mkW 1 [] [])) := by
  intro x r h
  unfold ahead at h
  intro W0
  refine FTo.of_body (fn := Try.f90) (code := cB Try.f90) Try.func90 rfl rfl ?_
  intro w0 S hS
  haveI := hS.noEx Try.prog
  refine H.sr 1 (by kernel_rfl) ?_
  refine H.sg (by kernel_rfl) ?_
  refine HO.goP 5 (by kernel_rfl) ?_
  refine HO.len (by kernel_rfl) (by kernel_rfl) (ls_size (encI .u8) x.1) ?_
  refine HO.goP 1 (by kernel_rfl) ?_
  obtain ⟨y1, hy, h⟩ := bindS h
  rcases y1 with y1 | y1
  · dsimp only at h
    refine HO.panW hS [.keep, .keep] (must_ok ((decide (0 < (x.1.length : Int))), 4) (.error y1) hy W0) (by kernel_rfl) (by kernel_rfl) ?_
    refine Kseq_pan ?_
    obtain rfl := Option.some.inj h
    exact KEnd.ofPan (by kernel_rfl) (FEnd.pan hS [0] [] [] (by kernel_rfl))
  dsimp only at h
  refine HO.callW hS [.keep, .keep] (must_ok ((decide (0 < (x.1.length : Int))), 4) (.ok y1) hy W0) (by kernel_rfl) (by kernel_rfl) ?_
  refine HO.fin 0 (by kernel_rfl) ?_
  refine H.seqP (by kernel_rfl) ?_
  refine H.sg (by kernel_rfl) ?_
  refine HO.goP 5 (by kernel_rfl) ?_
  obtain ⟨y2, hy, h⟩ := bindS h
  refine HO.idx (.int .u8 y2) hy rfl (by kernel_rfl) ?_
  refine HO.fin 2 (by kernel_rfl) ?_
  refine H.condS (b := !decide (y2 = 0)) (by kernel_rfl) (by kernel_rfl) (fun hb => ?_) (fun hb => ?_)
  · rw [if_pos hb] at h
    refine H.sr 1 (by kernel_rfl) ?_
    refine H.retP (by kernel_rfl) ?_
    refine Kseq_ret ?_
    obtain rfl := Option.some.inj h
    exact KEnd.of (v := .bool true) (by kernel_rfl) (by kernel_rfl) (FEnd.ren hS [0] _ _ (by kernel_rfl))
  rw [if_neg (ne_true hb)] at h
  refine H.skipP (by kernel_rfl) ?_
  refine Kseq_norm ?_
  refine H.sg (by kernel_rfl) ?_
  refine HO.goP 3 (by kernel_rfl) ?_
  obtain ⟨y3, hy, h⟩ := bindS h
  rcases y3 with y3 | y3
  · dsimp only at h
    refine HO.panFW hS 1 [] [] [0] [.keep, .keep] (take_ok (2, x.1, x.2) (.error y3) hy W0) (by kernel_rfl) (by kernel_rfl) ?_
    refine Kseq_pan ?_
    obtain rfl := Option.some.inj h
    exact KEnd.ofPan (by kernel_rfl) (FEnd.pan hS [0] [] [] (by kernel_rfl))
  dsimp only at h
  refine HO.callFW hS (ls 1 false (encI .u8) y3.1) 1 [] [(0, .cells [ls 1 false (encI .u8) y3.2.1, .int .i64 y3.2.2] 138 2)] [0] [.keep, .keep] (take_ok (2, x.1, x.2) (.ok y3) hy W0) (by kernel_rfl) (by kernel_rfl) ?_
  obtain ⟨y4, hy, h⟩ := bindS h
  refine HO.idx (.int .u8 y4) hy rfl (by kernel_rfl) ?_
  refine HO.goP 2 (by kernel_rfl) ?_
  obtain ⟨y5, hy, h⟩ := bindS h
  rcases y5 with y5 | y5
  · dsimp only at h
    refine HO.panW hS [.keep, .keep] (must_ok ((decide (y4 = 0)), 4) (.error y5) hy W0) (by kernel_rfl) (by kernel_rfl) ?_
    refine Kseq_pan ?_
    obtain rfl := Option.some.inj h
    exact KEnd.ofPan (by kernel_rfl) (FEnd.pan hS [0] [] [] (by kernel_rfl))
  dsimp only at h
  refine HO.callW hS [.keep, .keep] (must_ok ((decide (y4 = 0)), 4) (.ok y5) hy W0) (by kernel_rfl) (by kernel_rfl) ?_
  refine HO.fin 0 (by kernel_rfl) ?_
  refine H.sr 1 (by kernel_rfl) ?_
  refine H.retP (by kernel_rfl) ?_
  obtain rfl := Option.some.inj h
  exact KEnd.of (v := .bool false) (by kernel_rfl) (by kernel_rfl) (FEnd.ren hS [0] _ _ (by kernel_rfl))
def clipT (x : (List S78)) : Option ((List S78)) :=
  (sub' x 0 (x.length : Int)) >>= fun y1 =>
  some y1
theorem clipT_ok : ∀ (x : (List S78)) (r : (List S78)), clipT x = some r → ∀ W0 : World, PTo Try.prog W0 93 #[ls 5 false enc78 x] (.returned (ls 5 true enc78 r)) := by
  intro x r h
  unfold clipT at h
  intro W0
  refine PTo.of_body (fn := Try.f93) (code := cB Try.f93) Try.func93 rfl rfl ?_
  intro w0 S hS
  haveI := hS.noEx Try.prog
  refine H.sr 1 (by kernel_rfl) ?_
  refine H.sg (by kernel_rfl) ?_
  refine HO.goP 2 (by kernel_rfl) ?_
  refine HO.len (by kernel_rfl) (by kernel_rfl) (ls_size enc78 x) ?_
  refine HO.goP 1 (by kernel_rfl) ?_
  refine HO.len (by kernel_rfl) (by kernel_rfl) (ls_size enc78 x) ?_
  obtain ⟨y1, hy, h⟩ := bindS h
  refine HO.valA (sl4_aop (enc := enc78) (k := 5) (j := .i64) (j' := .i64) false hy (by kernel_rfl)) ?_
  refine HO.fin 1 (by kernel_rfl) ?_
  refine H.retP (by kernel_rfl) ?_
  obtain rfl := Option.some.inj h
  exact KEnd.retW (v := ls 5 true enc78 y1) (.list 5 true) (by kernel_rfl) (by kernel_rfl) (by kernel_rfl) (by kernel_rfl)
def element_L6 (x : (List Int) × Int × Int × Int × Bool × (List Int) × (List S78)) : Option (Except Int (Int × Int × Bool × (List Int) × (List S78) × (List Int) × Int)) :=
  (clipT x.2.2.2.2.2.2) >>= fun y17 =>
  some (.ok (x.2.2.1, x.2.2.2.1, x.2.2.2.2.1, x.2.2.2.2.2.1, y17, x.1, x.2.1))
theorem element_L6_ok : ∀ (x : (List Int) × Int × Int × Int × Bool × (List Int) × (List S78)) (r : Except Int (Int × Int × Bool × (List Int) × (List S78) × (List Int) × Int)), element_L6 x = some r → ∀ (W0 w0 : World) (S : Own), Std W0 w0 S 1 → H Try.prog w0 S 128 (cR (cR (cR (cR (cR (cR (cR (cR (cR (cB Try.f70)))))))))) (mkS [(4, .pointer (some ⟨1, 0, none⟩)), (6, .pointer (some ⟨2, 0, none⟩))] [(0, .cells [ls 1 false (encI .u8) x.1, .int .i64 x.2.1] 138 2), (1, .cells [.int .u8 0, .int .u32 0, .bool false, .slice none 0 0, tl 5 3 enc78 []] 78 5), (2, .cells [.int .u8 x.2.2.1, .int .u32 x.2.2.2.1, .bool x.2.2.2.2.1, ls 1 true (encI .u8) x.2.2.2.2.2.1, tl 5 4 enc78 x.2.2.2.2.2.2] 78 5)] 5 [4, 3]) (KEnd Try.prog Try.f70 (FEnd w0 S (match r with | .ok r => .returned (.agg #[.int .u8 r.1, .int .u32 r.2.1, .bool r.2.2.1, ls 1 false (encI .u8) r.2.2.2.1, ls 5 false enc78 r.2.2.2.2.1]) | .error e => panE (.iface 32 (.int .i64 e))) (match r with | .ok r => (mkW 1 [] [(0, .cells [ls 1 false (encI .u8) r.2.2.2.2.2.1, .int .i64 r.2.2.2.2.2.2] 138 2)]) | .error _ => (mkW 1 [] [])))) := by
  intro x r h
  unfold element_L6 at h
  intro W0 w0 S hS
  haveI := hS.noEx Try.prog
  refine H.sg (by kernel_rfl) ?_
  refine HO.goP 2 (by kernel_rfl) ?_
  obtain ⟨y17, hy, h⟩ := bindS h
  refine HO.callW hS [.list 5 false] (clipT_ok x.2.2.2.2.2.2 y17 hy W0) (by kernel_rfl) (by kernel_rfl) ?_
  refine HO.fin 2 (by kernel_rfl) ?_
  refine H.sr 2 (by kernel_rfl) ?_
  refine H.retP (by kernel_rfl) ?_
  obtain rfl := Option.some.inj h
  exact KEnd.of (v := .agg #[.int .u8 x.2.2.1, .int .u32 x.2.2.2.1, .bool x.2.2.2.2.1, ls 1 true (encI .u8) x.2.2.2.2.2.1, ls 5 true enc78 y17]) (by kernel_rfl) (by kernel_rfl) (FEnd.wk (v1 := .agg #[.int .u8 x.2.2.1, .int .u32 x.2.2.2.1, .bool x.2.2.2.2.1, ls 1 false (encI .u8) x.2.2.2.2.2.1, ls 5 false enc78 y17]) (.agg [.keep, .keep, .keep, .list 1 false, .list 5 false]) (by kernel_rfl) (FEnd.ren hS [0] _ _ (by kernel_rfl)))
mutual
def element_L5 (x : Int × (List Int) × (List Int) × Int × Int × Int × Bool × (List S78)) : Option (Except Int (Int × Int × Bool × (List Int) × (List S78) × (List Int) × Int)) :=
  if 0 < (x.2.2.1.length : Int) then
    (element ((IntKind.i64.wrap (x.1 + 1)), x.2.2.1, x.2.2.2.1)) >>= fun y15 =>
    match y15 with
    | .error y15 =>
      some (.error y15)
    | .ok y15 =>
      (app' 64 x.2.2.2.2.2.2.2 [(S78.mk y15.1 y15.2.1 y15.2.2.1 y15.2.2.2.1 y15.2.2.2.2.1)]) >>= fun y16 =>
      element_L5 (x.1, x.2.1, y15.2.2.2.2.2.1, y15.2.2.2.2.2.2, x.2.2.2.2.1, x.2.2.2.2.2.1, x.2.2.2.2.2.2.1, y16)
  else
    element_L6 (x.2.1, x.2.2.2.1, x.2.2.2.2.1, x.2.2.2.2.2.1, x.2.2.2.2.2.2.1, [], x.2.2.2.2.2.2.2)
partial_fixpoint
def element (x : Int × (List Int) × Int) : Option (Except Int (Int × Int × Bool × (List Int) × (List S78) × (List Int) × Int)) :=
  if x.1 ≤ 16 then
    (must ((decide (x.2.2 < 1024)), 3)) >>= fun y1 =>
    match y1 with
    | .error y1 =>
      some (.error y1)
    | .ok y1 =>
      element_L1 (x.1, x.2.1, x.2.2)
  else
    (must (false, 3)) >>= fun y2 =>
    match y2 with
    | .error y2 =>
      some (.error y2)
    | .ok y2 =>
      element_L1 (x.1, x.2.1, x.2.2)
partial_fixpoint
def element_L1 (x : Int × (List Int) × Int) : Option (Except Int (Int × Int × Bool × (List Int) × (List S78) × (List Int) × Int)) :=
  (next (x.2.1, (IntKind.i64.wrap (x.2.2 + 1)))) >>= fun y3 =>
  match y3 with
  | .error y3 =>
    some (.error y3)
  | .ok y3 =>
    if (IntKind.u32.wrap (bAnd .u8 y3.1 31)) = 31 then
      (numberT (y3.2.1, y3.2.2)) >>= fun y4 =>
      match y4 with
      | .error y4 =>
        some (.error y4)
      | .ok y4 =>
        element_L2 (x.1, y4.2.1, y4.2.2, (shrI .u8 y3.1 6), y4.1, (decide (0 < (bAnd .u8 y3.1 32))))
    else
      element_L2 (x.1, y3.2.1, y3.2.2, (shrI .u8 y3.1 6), (IntKind.u32.wrap (bAnd .u8 y3.1 31)), (decide (0 < (bAnd .u8 y3.1 32))))
partial_fixpoint
def element_L2 (x : Int × (List Int) × Int × Int × Int × Bool) : Option (Except Int (Int × Int × Bool × (List Int) × (List S78) × (List Int) × Int)) :=
  if 0 < x.2.2.2.1 then
    (must (true, 4)) >>= fun y5 =>
    match y5 with
    | .error y5 =>
      some (.error y5)
    | .ok y5 =>
      element_L3 (x.1, x.2.1, x.2.2.1, x.2.2.2.1, x.2.2.2.2.1, x.2.2.2.2.2)
  else
    (must ((decide (0 < x.2.2.2.2.1)), 4)) >>= fun y6 =>
    match y6 with
    | .error y6 =>
      some (.error y6)
    | .ok y6 =>
      element_L3 (x.1, x.2.1, x.2.2.1, x.2.2.2.1, x.2.2.2.2.1, x.2.2.2.2.2)
partial_fixpoint
def element_L3 (x : Int × (List Int) × Int × Int × Int × Bool) : Option (Except Int (Int × Int × Bool × (List Int) × (List S78) × (List Int) × Int)) :=
  (lengthT (x.2.2.2.1, x.2.2.2.2.1, x.2.2.2.2.2, [], [], x.2.1, x.2.2.1)) >>= fun y7 =>
  match y7 with
  | .error y7 =>
    some (.error y7)
  | .ok y7 =>
    if (!y7.2.1) = true then
      element_L4 (x.1, y7.2.2.1, y7.2.2.2, x.2.2.2.1, x.2.2.2.2.1, x.2.2.2.2.2, [])
    else
      if x.2.2.2.2.2 = true then
        (take (y7.1, y7.2.2.1, y7.2.2.2)) >>= fun y11 =>
        match y11 with
        | .error y11 =>
          some (.error y11)
        | .ok y11 =>
          element_L5 (x.1, y11.2.1, y11.1, y11.2.2, x.2.2.2.1, x.2.2.2.2.1, x.2.2.2.2.2, [])
      else
        (take (y7.1, y7.2.2.1, y7.2.2.2)) >>= fun y12 =>
        match y12 with
        | .error y12 =>
          some (.error y12)
        | .ok y12 =>
          (cloneB y12.1) >>= fun y13 =>
          (clip y13) >>= fun y14 =>
          element_L6 (y12.2.1, y12.2.2, x.2.2.2.1, x.2.2.2.2.1, x.2.2.2.2.2, y14, [])
partial_fixpoint
def element_L4 (x : Int × (List Int) × Int × Int × Int × Bool × (List S78)) : Option (Except Int (Int × Int × Bool × (List Int) × (List S78) × (List Int) × Int)) :=
  (ahead (x.2.1, x.2.2.1)) >>= fun y8 =>
  match y8 with
  | .error y8 =>
    some (.error y8)
  | .ok y8 =>
    if y8.1 = true then
      (element ((IntKind.i64.wrap (x.1 + 1)), y8.2.1, y8.2.2)) >>= fun y9 =>
      match y9 with
      | .error y9 =>
        some (.error y9)
      | .ok y9 =>
        (app' 64 x.2.2.2.2.2.2 [(S78.mk y9.1 y9.2.1 y9.2.2.1 y9.2.2.2.1 y9.2.2.2.2.1)]) >>= fun y10 =>
        element_L4 (x.1, y9.2.2.2.2.2.1, y9.2.2.2.2.2.2, x.2.2.2.1, x.2.2.2.2.1, x.2.2.2.2.2.1, y10)
    else
      element_L6 (y8.2.1, y8.2.2, x.2.2.2.1, x.2.2.2.2.1, x.2.2.2.2.2.1, [], x.2.2.2.2.2.2)
partial_fixpoint
end
theorem element_L5_grp : (∀ (x : Int × (List Int) × (List Int) × Int × Int × Int × Bool × (List S78)) (r : Except Int (Int × Int × Bool × (List Int) × (List S78) × (List Int) × Int)), element_L5 x = some r → ∀ (W0 w0 : World) (S : Own), Std W0 w0 S 1 → HL Try.prog w0 S 128 (cL (cL (cR (cL (cR (cR (cL (cR (cR (cR (cL (cL (cR (cR (cR (cR (cR (cR (cR (cR (cB Try.f70))))))))))))))))))))) (mkS [(0, .pointer (some ⟨0, 0, none⟩)), (1, .int .i64 x.1), (4, .pointer (some ⟨1, 0, none⟩)), (6, .pointer (some ⟨2, 0, none⟩)), (10, ls 1 false (encI .u8) x.2.1)] [(0, .cells [ls 1 false (encI .u8) x.2.2.1, .int .i64 x.2.2.2.1] 138 2), (1, .cells [.int .u8 0, .int .u32 0, .bool false, .slice none 0 0, tl 5 3 enc78 []] 78 5), (2, .cells [.int .u8 x.2.2.2.2.1, .int .u32 x.2.2.2.2.2.1, .bool x.2.2.2.2.2.2.1, .slice none 0 0, tl 5 4 enc78 x.2.2.2.2.2.2.2] 78 5)] 5 [4, 3]) (Kblock 3 (Kseq Try.prog w0 S 128 (cR (cR (cR (cL (cR (cR (cR (cL (cL (cR (cR (cR (cR (cR (cR (cR (cR (cB Try.f70)))))))))))))))))) (Kblock 0 (Kseq Try.prog w0 S 128 (cR (cR (cR (cR (cR (cR (cR (cR (cR (cB Try.f70)))))))))) (KEnd Try.prog Try.f70 (FEnd w0 S (match r with | .ok r => .returned (.agg #[.int .u8 r.1, .int .u32 r.2.1, .bool r.2.2.1, ls 1 false (encI .u8) r.2.2.2.1, ls 5 false enc78 r.2.2.2.2.1]) | .error e => panE (.iface 32 (.int .i64 e))) (match r with | .ok r => (mkW 1 [] [(0, .cells [ls 1 false (encI .u8) r.2.2.2.2.2.1, .int .i64 r.2.2.2.2.2.2] 138 2)]) | .error _ => (mkW 1 [] []))))))))) ∧
  (∀ (x : Int × (List Int) × Int) (r : Except Int (Int × Int × Bool × (List Int) × (List S78) × (List Int) × Int)), element x = some r → ∀ W0 : World, FTo Try.prog W0 70 #[.pointer (some ⟨0, 0, none⟩), .int .i64 x.1] (mkW 1 [] [(0, .cells [ls 1 false (encI .u8) x.2.1, .int .i64 x.2.2] 138 2)]) (match r with | .ok r => .returned (.agg #[.int .u8 r.1, .int .u32 r.2.1, .bool r.2.2.1, ls 1 false (encI .u8) r.2.2.2.1, ls 5 false enc78 r.2.2.2.2.1]) | .error e => panE (.iface 32 (.int .i64 e))) (match r with | .ok r => (mkW 1 [] [(0, .cells [ls 1 false (encI .u8) r.2.2.2.2.2.1, .int .i64 r.2.2.2.2.2.2] 138 2)]) | .error _ => (mkW 1 [] []))) ∧
  (∀ (x : Int × (List Int) × Int) (r : Except Int (Int × Int × Bool × (List Int) × (List S78) × (List Int) × Int)), element_L1 x = some r → ∀ (W0 w0 : World) (S : Own), Std W0 w0 S 1 → H Try.prog w0 S 128 (cR (cR (cB Try.f70))) (mkS [(0, .pointer (some ⟨0, 0, none⟩)), (1, .int .i64 x.1), (4, .pointer (some ⟨1, 0, none⟩))] [(0, .cells [ls 1 false (encI .u8) x.2.1, .int .i64 x.2.2] 138 2), (1, .cells [.int .u8 0, .int .u32 0, .bool false, .slice none 0 0, .slice none 0 0] 78 5)] 2 []) (KEnd Try.prog Try.f70 (FEnd w0 S (match r with | .ok r => .returned (.agg #[.int .u8 r.1, .int .u32 r.2.1, .bool r.2.2.1, ls 1 false (encI .u8) r.2.2.2.1, ls 5 false enc78 r.2.2.2.2.1]) | .error e => panE (.iface 32 (.int .i64 e))) (match r with | .ok r => (mkW 1 [] [(0, .cells [ls 1 false (encI .u8) r.2.2.2.2.2.1, .int .i64 r.2.2.2.2.2.2] 138 2)]) | .error _ => (mkW 1 [] []))))) ∧
  (∀ (x : Int × (List Int) × Int × Int × Int × Bool) (r : Except Int (Int × Int × Bool × (List Int) × (List S78) × (List Int) × Int)), element_L2 x = some r → ∀ (W0 w0 : World) (S : Own), Std W0 w0 S 1 → H Try.prog w0 S 128 (cR (cR (cR (cR (cR (cR (cB Try.f70))))))) (mkS [(0, .pointer (some ⟨0, 0, none⟩)), (1, .int .i64 x.1), (4, .pointer (some ⟨1, 0, none⟩)), (6, .pointer (some ⟨2, 0, none⟩))] [(0, .cells [ls 1 false (encI .u8) x.2.1, .int .i64 x.2.2.1] 138 2), (1, .cells [.int .u8 0, .int .u32 0, .bool false, .slice none 0 0, .slice none 0 0] 78 5), (2, .cells [.int .u8 x.2.2.2.1, .int .u32 x.2.2.2.2.1, .bool x.2.2.2.2.2, .slice none 0 0, .slice none 0 0] 78 5)] 3 []) (KEnd Try.prog Try.f70 (FEnd w0 S (match r with | .ok r => .returned (.agg #[.int .u8 r.1, .int .u32 r.2.1, .bool r.2.2.1, ls 1 false (encI .u8) r.2.2.2.1, ls 5 false enc78 r.2.2.2.2.1]) | .error e => panE (.iface 32 (.int .i64 e))) (match r with | .ok r => (mkW 1 [] [(0, .cells [ls 1 false (encI .u8) r.2.2.2.2.2.1, .int .i64 r.2.2.2.2.2.2] 138 2)]) | .error _ => (mkW 1 [] []))))) ∧
  (∀ (x : Int × (List Int) × Int × Int × Int × Bool) (r : Except Int (Int × Int × Bool × (List Int) × (List S78) × (List Int) × Int)), element_L3 x = some r → ∀ (W0 w0 : World) (S : Own), Std W0 w0 S 1 → H Try.prog w0 S 128 (cR (cR (cR (cR (cR (cR (cR (cB Try.f70)))))))) (mkS [(0, .pointer (some ⟨0, 0, none⟩)), (1, .int .i64 x.1), (4, .pointer (some ⟨1, 0, none⟩)), (6, .pointer (some ⟨2, 0, none⟩))] [(0, .cells [ls 1 false (encI .u8) x.2.1, .int .i64 x.2.2.1] 138 2), (1, .cells [.int .u8 0, .int .u32 0, .bool false, .slice none 0 0, .slice none 0 0] 78 5), (2, .cells [.int .u8 x.2.2.2.1, .int .u32 x.2.2.2.2.1, .bool x.2.2.2.2.2, .slice none 0 0, .slice none 0 0] 78 5)] 3 []) (KEnd Try.prog Try.f70 (FEnd w0 S (match r with | .ok r => .returned (.agg #[.int .u8 r.1, .int .u32 r.2.1, .bool r.2.2.1, ls 1 false (encI .u8) r.2.2.2.1, ls 5 false enc78 r.2.2.2.2.1]) | .error e => panE (.iface 32 (.int .i64 e))) (match r with | .ok r => (mkW 1 [] [(0, .cells [ls 1 false (encI .u8) r.2.2.2.2.2.1, .int .i64 r.2.2.2.2.2.2] 138 2)]) | .error _ => (mkW 1 [] []))))) ∧
  (∀ (x : Int × (List Int) × Int × Int × Int × Bool × (List S78)) (r : Except Int (Int × Int × Bool × (List Int) × (List S78) × (List Int) × Int)), element_L4 x = some r → ∀ (W0 w0 : World) (S : Own), Std W0 w0 S 1 → HL Try.prog w0 S 128 (cL (cL (cL (cR (cL (cL (cR (cR (cR (cR (cR (cR (cR (cR (cB Try.f70))))))))))))))) (mkS [(0, .pointer (some ⟨0, 0, none⟩)), (1, .int .i64 x.1), (4, .pointer (some ⟨1, 0, none⟩)), (6, .pointer (some ⟨2, 0, none⟩))] [(0, .cells [ls 1 false (encI .u8) x.2.1, .int .i64 x.2.2.1] 138 2), (1, .cells [.int .u8 0, .int .u32 0, .bool false, .slice none 0 0, tl 5 3 enc78 []] 78 5), (2, .cells [.int .u8 x.2.2.2.1, .int .u32 x.2.2.2.2.1, .bool x.2.2.2.2.2.1, .slice none 0 0, tl 5 4 enc78 x.2.2.2.2.2.2] 78 5)] 5 [4, 3]) (Kblock 1 (Kblock 0 (Kseq Try.prog w0 S 128 (cR (cR (cR (cR (cR (cR (cR (cR (cR (cB Try.f70)))))))))) (KEnd Try.prog Try.f70 (FEnd w0 S (match r with | .ok r => .returned (.agg #[.int .u8 r.1, .int .u32 r.2.1, .bool r.2.2.1, ls 1 false (encI .u8) r.2.2.2.1, ls 5 false enc78 r.2.2.2.2.1]) | .error e => panE (.iface 32 (.int .i64 e))) (match r with | .ok r => (mkW 1 [] [(0, .cells [ls 1 false (encI .u8) r.2.2.2.2.2.1, .int .i64 r.2.2.2.2.2.2] 138 2)]) | .error _ => (mkW 1 [] [])))))))) := by
  refine element_L5.mutual_partial_correctness (fun (x : Int × (List Int) × (List Int) × Int × Int × Int × Bool × (List S78)) (r : Except Int (Int × Int × Bool × (List Int) × (List S78) × (List Int) × Int)) => ∀ (W0 w0 : World) (S : Own), Std W0 w0 S 1 → HL Try.prog w0 S 128 (cL (cL (cR (cL (cR (cR (cL (cR (cR (cR (cL (cL (cR (cR (cR (cR (cR (cR (cR (cR (cB Try.f70))))))))))))))))))))) (mkS [(0, .pointer (some ⟨0, 0, none⟩)), (1, .int .i64 x.1), (4, .pointer (some ⟨1, 0, none⟩)), (6, .pointer (some ⟨2, 0, none⟩)), (10, ls 1 false (encI .u8) x.2.1)] [(0, .cells [ls 1 false (encI .u8) x.2.2.1, .int .i64 x.2.2.2.1] 138 2), (1, .cells [.int .u8 0, .int .u32 0, .bool false, .slice none 0 0, tl 5 3 enc78 []] 78 5), (2, .cells [.int .u8 x.2.2.2.2.1, .int .u32 x.2.2.2.2.2.1, .bool x.2.2.2.2.2.2.1, .slice none 0 0, tl 5 4 enc78 x.2.2.2.2.2.2.2] 78 5)] 5 [4, 3]) (Kblock 3 (Kseq Try.prog w0 S 128 (cR (cR (cR (cL (cR (cR (cR (cL (cL (cR (cR (cR (cR (cR (cR (cR (cR (cB Try.f70)))))))))))))))))) (Kblock 0 (Kseq Try.prog w0 S 128 (cR (cR (cR (cR (cR (cR (cR (cR (cR (cB Try.f70)))))))))) (KEnd Try.prog Try.f70 (FEnd w0 S (match r with | .ok r => .returned (.agg #[.int .u8 r.1, .int .u32 r.2.1, .bool r.2.2.1, ls 1 false (encI .u8) r.2.2.2.1, ls 5 false enc78 r.2.2.2.2.1]) | .error e => panE (.iface 32 (.int .i64 e))) (match r with | .ok r => (mkW 1 [] [(0, .cells [ls 1 false (encI .u8) r.2.2.2.2.2.1, .int .i64 r.2.2.2.2.2.2] 138 2)]) | .error _ => (mkW 1 [] []))))))))) (fun (x : Int × (List Int) × Int) (r : Except Int (Int × Int × Bool × (List Int) × (List S78) × (List Int) × Int)) => ∀ W0 : World, FTo Try.prog W0 70 #[.pointer (some ⟨0, 0, none⟩), .int .i64 x.1] (mkW 1 [] [(0, .cells [ls 1 false (encI .u8) x.2.1, .int .i64 x.2.2] 138 2)]) (match r with | .ok r => .returned (.agg #[.int .u8 r.1, .int .u32 r.2.1, .bool r.2.2.1, ls 1 false (encI .u8) r.2.2.2.1, ls 5 false enc78 r.2.2.2.2.1]) | .error e => panE (.iface 32 (.int .i64 e))) (match r with | .ok r => (mkW 1 [] [(0, .cells [ls 1 false (encI .u8) r.2.2.2.2.2.1, .int .i64 r.2.2.2.2.2.2] 138 2)]) | .error _ => (mkW 1 [] []))) (fun (x : Int × (List Int) × Int) (r : Except Int (Int × Int × Bool × (List Int) × (List S78) × (List Int) × Int)) => ∀ (W0 w0 : World) (S : Own), Std W0 w0 S 1 → H Try.prog w0 S 128 (cR (cR (cB Try.f70))) (mkS [(0, .pointer (some ⟨0, 0, none⟩)), (1, .int .i64 x.1), (4, .pointer (some ⟨1, 0, none⟩))] [(0, .cells [ls 1 false (encI .u8) x.2.1, .int .i64 x.2.2] 138 2), (1, .cells [.int .u8 0, .int .u32 0, .bool false, .slice none 0 0, .slice none 0 0] 78 5)] 2 []) (KEnd Try.prog Try.f70 (FEnd w0 S (match r with | .ok r => .returned (.agg #[.int .u8 r.1, .int .u32 r.2.1, .bool r.2.2.1, ls 1 false (encI .u8) r.2.2.2.1, ls 5 false enc78 r.2.2.2.2.1]) | .error e => panE (.iface 32 (.int .i64 e))) (match r with | .ok r => (mkW 1 [] [(0, .cells [ls 1 false (encI .u8) r.2.2.2.2.2.1, .int .i64 r.2.2.2.2.2.2] 138 2)]) | .error _ => (mkW 1 [] []))))) (fun (x : Int × (List Int) × Int × Int × Int × Bool) (r : Except Int (Int × Int × Bool × (List Int) × (List S78) × (List Int) × Int)) => ∀ (W0 w0 : World) (S : Own), Std W0 w0 S 1 → H Try.prog w0 S 128 (cR (cR (cR (cR (cR (cR (cB Try.f70))))))) (mkS [(0, .pointer (some ⟨0, 0, none⟩)), (1, .int .i64 x.1), (4, .pointer (some ⟨1, 0, none⟩)), (6, .pointer (some ⟨2, 0, none⟩))] [(0, .cells [ls 1 false (encI .u8) x.2.1, .int .i64 x.2.2.1] 138 2), (1, .cells [.int .u8 0, .int .u32 0, .bool false, .slice none 0 0, .slice none 0 0] 78 5), (2, .cells [.int .u8 x.2.2.2.1, .int .u32 x.2.2.2.2.1, .bool x.2.2.2.2.2, .slice none 0 0, .slice none 0 0] 78 5)] 3 []) (KEnd Try.prog Try.f70 (FEnd w0 S (match r with | .ok r => .returned (.agg #[.int .u8 r.1, .int .u32 r.2.1, .bool r.2.2.1, ls 1 false (encI .u8) r.2.2.2.1, ls 5 false enc78 r.2.2.2.2.1]) | .error e => panE (.iface 32 (.int .i64 e))) (match r with | .ok r => (mkW 1 [] [(0, .cells [ls 1 false (encI .u8) r.2.2.2.2.2.1, .int .i64 r.2.2.2.2.2.2] 138 2)]) | .error _ => (mkW 1 [] []))))) (fun (x : Int × (List Int) × Int × Int × Int × Bool) (r : Except Int (Int × Int × Bool × (List Int) × (List S78) × (List Int) × Int)) => ∀ (W0 w0 : World) (S : Own), Std W0 w0 S 1 → H Try.prog w0 S 128 (cR (cR (cR (cR (cR (cR (cR (cB Try.f70)))))))) (mkS [(0, .pointer (some ⟨0, 0, none⟩)), (1, .int .i64 x.1), (4, .pointer (some ⟨1, 0, none⟩)), (6, .pointer (some ⟨2, 0, none⟩))] [(0, .cells [ls 1 false (encI .u8) x.2.1, .int .i64 x.2.2.1] 138 2), (1, .cells [.int .u8 0, .int .u32 0, .bool false, .slice none 0 0, .slice none 0 0] 78 5), (2, .cells [.int .u8 x.2.2.2.1, .int .u32 x.2.2.2.2.1, .bool x.2.2.2.2.2, .slice none 0 0, .slice none 0 0] 78 5)] 3 []) (KEnd Try.prog Try.f70 (FEnd w0 S (match r with | .ok r => .returned (.agg #[.int .u8 r.1, .int .u32 r.2.1, .bool r.2.2.1, ls 1 false (encI .u8) r.2.2.2.1, ls 5 false enc78 r.2.2.2.2.1]) | .error e => panE (.iface 32 (.int .i64 e))) (match r with | .ok r => (mkW 1 [] [(0, .cells [ls 1 false (encI .u8) r.2.2.2.2.2.1, .int .i64 r.2.2.2.2.2.2] 138 2)]) | .error _ => (mkW 1 [] []))))) (fun (x : Int × (List Int) × Int × Int × Int × Bool × (List S78)) (r : Except Int (Int × Int × Bool × (List Int) × (List S78) × (List Int) × Int)) => ∀ (W0 w0 : World) (S : Own), Std W0 w0 S 1 → HL Try.prog w0 S 128 (cL (cL (cL (cR (cL (cL (cR (cR (cR (cR (cR (cR (cR (cR (cB Try.f70))))))))))))))) (mkS [(0, .pointer (some ⟨0, 0, none⟩)), (1, .int .i64 x.1), (4, .pointer (some ⟨1, 0, none⟩)), (6, .pointer (some ⟨2, 0, none⟩))] [(0, .cells [ls 1 false (encI .u8) x.2.1, .int .i64 x.2.2.1] 138 2), (1, .cells [.int .u8 0, .int .u32 0, .bool false, .slice none 0 0, tl 5 3 enc78 []] 78 5), (2, .cells [.int .u8 x.2.2.2.1, .int .u32 x.2.2.2.2.1, .bool x.2.2.2.2.2.1, .slice none 0 0, tl 5 4 enc78 x.2.2.2.2.2.2] 78 5)] 5 [4, 3]) (Kblock 1 (Kblock 0 (Kseq Try.prog w0 S 128 (cR (cR (cR (cR (cR (cR (cR (cR (cR (cB Try.f70)))))))))) (KEnd Try.prog Try.f70 (FEnd w0 S (match r with | .ok r => .returned (.agg #[.int .u8 r.1, .int .u32 r.2.1, .bool r.2.2.1, ls 1 false (encI .u8) r.2.2.2.1, ls 5 false enc78 r.2.2.2.2.1]) | .error e => panE (.iface 32 (.int .i64 e))) (match r with | .ok r => (mkW 1 [] [(0, .cells [ls 1 false (encI .u8) r.2.2.2.2.2.1, .int .i64 r.2.2.2.2.2.2] 138 2)]) | .error _ => (mkW 1 [] [])))))))) ?_ ?_ ?_ ?_ ?_ ?_
  · intro g_element_L5 g_element ih_element_L5 ih_element x r h
    intro W0 w0 S hS
    haveI := hS.noEx Try.prog
    refine HL.round ?_
    refine H.seqP (by kernel_rfl) ?_
    refine H.sg (by kernel_rfl) ?_
    refine HO.goP 5 (by kernel_rfl) ?_
    refine HO.len (by kernel_rfl) (by kernel_rfl) (ls_size (encI .u8) x.2.2.1) ?_
    refine HO.fin 1 (by kernel_rfl) ?_
    refine H.condS (b := decide (0 < (x.2.2.1.length : Int))) (by kernel_rfl) (by kernel_rfl) (fun hb => ?_) (fun hb => ?_)
    rotate_left
    · rw [if_neg (of_decide_eq_false hb)] at h
      refine H.exitI 3 (by kernel_rfl) ?_
      refine Kseq_exit ?_
      refine Kloop_exit ?_
      refine Kblock_hit ?_
      refine Kseq_norm ?_
      refine H.regP (by kernel_rfl) ?_
      refine HO.goP 6 (by kernel_rfl) ?_
      refine HO.done (by kernel_rfl) ?_
      refine Kblock_norm ?_
      refine Kseq_norm ?_
      refine H.wkc 2 78 5 3 [.int .u8 x.2.2.2.2.1, .int .u32 x.2.2.2.2.2.1, .bool x.2.2.2.2.2.2.1, .slice none 0 0, tl 5 4 enc78 x.2.2.2.2.2.2.2] (.slice none 0 0) (ls 1 true (encI .u8) []) (.list 1 true) (by kernel_rfl) ?_
      exact H.ren hS [0, 1, 2, 3, 4] _ _ _ (by kernel_rfl) (element_L6_ok (x.2.1, x.2.2.2.1, x.2.2.2.2.1, x.2.2.2.2.2.1, x.2.2.2.2.2.2.1, [], x.2.2.2.2.2.2.2) r h W0 w0 S hS)
    rw [if_pos (of_decide_eq_true hb)] at h
    refine H.skipP (by kernel_rfl) ?_
    refine Kseq_norm ?_
    refine H.blockI 4 (by kernel_rfl) ?_
    refine H.drawQ ?_
    refine HQ.goP 5 (by kernel_rfl) ?_
    obtain ⟨y15, hy, h⟩ := bindS h
    rcases y15 with y15 | y15
    · dsimp only at h
      refine HQ.panFW hS [4] 5 [4, 3] [(1, .cells [.int .u8 0, .int .u32 0, .bool false, .slice none 0 0, tl 5 3 enc78 []] 78 5), (2, .cells [.int .u8 x.2.2.2.2.1, .int .u32 x.2.2.2.2.2.1, .bool x.2.2.2.2.2.2.1, .slice none 0 0, tl 5 4 enc78 x.2.2.2.2.2.2.2] 78 5)] [0] [.keep, .keep] (ih_element ((IntKind.i64.wrap (x.1 + 1)), x.2.2.1, x.2.2.2.1) (.error y15) hy W0) (by kernel_rfl) (by kernel_rfl) (by kernel_rfl) (by kernel_rfl) ?_
      refine Kblock_pan ?_
      refine Kloop_pan ?_
      refine Kblock_pan ?_
      refine Kseq_pan ?_
      refine Kblock_pan ?_
      refine Kseq_pan ?_
      obtain rfl := Option.some.inj h
      exact KEnd.ofPan (by kernel_rfl) (FEnd.pan hS [0] [] [] (by kernel_rfl))
    dsimp only at h
    refine HQ.callFW hS (.agg #[.int .u8 y15.1, .int .u32 y15.2.1, .bool y15.2.2.1, ls 1 false (encI .u8) y15.2.2.2.1, ls 5 false enc78 y15.2.2.2.2.1]) 5 [4, 3] [(0, .cells [ls 1 false (encI .u8) y15.2.2.2.2.2.1, .int .i64 y15.2.2.2.2.2.2] 138 2), (1, .cells [.int .u8 0, .int .u32 0, .bool false, .slice none 0 0, tl 5 3 enc78 []] 78 5), (2, .cells [.int .u8 x.2.2.2.2.1, .int .u32 x.2.2.2.2.2.1, .bool x.2.2.2.2.2.2.1, .slice none 0 0, tl 5 4 enc78 x.2.2.2.2.2.2.2] 78 5)] [0] [.keep, .keep] (ih_element ((IntKind.i64.wrap (x.1 + 1)), x.2.2.1, x.2.2.2.1) (.ok y15) hy W0) (by kernel_rfl) (by kernel_rfl) ?_
    refine HQ.goP 1 (by kernel_rfl) ?_
    obtain ⟨y16, hy, h⟩ := bindS h
    refine HQ.effA (app1_aop (enc := enc78) (k := 5) true 1 [.int .u8 y15.1, .int .u32 y15.2.1, .bool y15.2.2.1, ls 1 false (encI .u8) y15.2.2.2.1, ls 5 false enc78 y15.2.2.2.2.1] [3] hy (by kernel_rfl) (by kernel_rfl) (by simp only [List.map_cons, List.map_nil, enc78_eq]; kernel_rfl)) ?_
    refine HQ.goP 2 (by kernel_rfl) ?_
    refine HQ.done (by kernel_rfl) (by kernel_rfl) (by kernel_rfl) ?_
    refine Kblock_norm ?_
    refine Kloop_norm ?_
    exact HL.ren hS [0, 1, 2, 3, 6] _ _ _ (by kernel_rfl) (ih_element_L5 (x.1, x.2.1, y15.2.2.2.2.2.1, y15.2.2.2.2.2.2, x.2.2.2.2.1, x.2.2.2.2.2.1, x.2.2.2.2.2.2.1, y16) r h W0 w0 S hS)
  · intro g_element_L1 ih_element_L1 x r h
    intro W0
    refine FTo.of_body (fn := Try.f70) (code := cB Try.f70) Try.func70 rfl rfl ?_
    intro w0 S hS
    haveI := hS.noEx Try.prog
    refine H.sr 1 (by kernel_rfl) ?_
    refine H.sg (by kernel_rfl) ?_
    refine HO.goP 2 (by kernel_rfl) ?_
    refine HO.boolP (decide (x.1 ≤ 16)) (by kernel_rfl) (by kernel_rfl) (fun hb => ?_) (fun hb => ?_)
    · rw [if_pos (of_decide_eq_true hb)] at h
      refine HO.goP 6 (by kernel_rfl) ?_
      obtain ⟨y1, hy, h⟩ := bindS h
      rcases y1 with y1 | y1
      · dsimp only at h
        refine HO.panW hS [.keep, .keep] (must_ok ((decide (x.2.2 < 1024)), 3) (.error y1) hy W0) (by kernel_rfl) (by kernel_rfl) ?_
        refine Kseq_pan ?_
        obtain rfl := Option.some.inj h
        exact KEnd.ofPan (by kernel_rfl) (FEnd.pan hS [0] [] [] (by kernel_rfl))
      dsimp only at h
      refine HO.callW hS [.keep, .keep] (must_ok ((decide (x.2.2 < 1024)), 3) (.ok y1) hy W0) (by kernel_rfl) (by kernel_rfl) ?_
      refine HO.fin 0 (by kernel_rfl) ?_
      exact H.ren hS [0, 1] _ _ _ (by kernel_rfl) (ih_element_L1 (x.1, x.2.1, x.2.2) r h W0 w0 S hS)
    rw [if_neg (of_decide_eq_false hb)] at h
    refine HO.goP 6 (by kernel_rfl) ?_
    obtain ⟨y2, hy, h⟩ := bindS h
    rcases y2 with y2 | y2
    · dsimp only at h
      refine HO.panW hS [.keep, .keep] (must_ok (false, 3) (.error y2) hy W0) (by kernel_rfl) (by kernel_rfl) ?_
      refine Kseq_pan ?_
      obtain rfl := Option.some.inj h
      exact KEnd.ofPan (by kernel_rfl) (FEnd.pan hS [0] [] [] (by kernel_rfl))
    dsimp only at h
    refine HO.callW hS [.keep, .keep] (must_ok (false, 3) (.ok y2) hy W0) (by kernel_rfl) (by kernel_rfl) ?_
    refine HO.fin 0 (by kernel_rfl) ?_
    exact H.ren hS [0, 1] _ _ _ (by kernel_rfl) (ih_element_L1 (x.1, x.2.1, x.2.2) r h W0 w0 S hS)
  · intro g_element_L2 ih_element_L2 x r h
    intro W0 w0 S hS
    haveI := hS.noEx Try.prog
    refine H.sr 8 (by kernel_rfl) ?_
    refine H.sg (by kernel_rfl) ?_
    refine HO.goP 3 (by kernel_rfl) ?_
    obtain ⟨y3, hy, h⟩ := bindS h
    rcases y3 with y3 | y3
    · dsimp only at h
      refine HO.panFW hS 2 [] [(1, .cells [.int .u8 0, .int .u32 0, .bool false, .slice none 0 0, .slice none 0 0] 78 5)] [0] [.keep] (next_ok (x.2.1, (IntKind.i64.wrap (x.2.2 + 1))) (.error y3) hy W0) (by kernel_rfl) (by kernel_rfl) ?_
      refine Kseq_pan ?_
      obtain rfl := Option.some.inj h
      exact KEnd.ofPan (by kernel_rfl) (FEnd.pan hS [0] [] [] (by kernel_rfl))
    dsimp only at h
    refine HO.callFW hS (.int .u8 y3.1) 2 [] [(0, .cells [ls 1 false (encI .u8) y3.2.1, .int .i64 y3.2.2] 138 2), (1, .cells [.int .u8 0, .int .u32 0, .bool false, .slice none 0 0, .slice none 0 0] 78 5)] [0] [.keep] (next_ok (x.2.1, (IntKind.i64.wrap (x.2.2 + 1))) (.ok y3) hy W0) (by kernel_rfl) (by kernel_rfl) ?_
    refine HO.fin 1 (by kernel_rfl) ?_
    refine H.sr 11 (by kernel_rfl) ?_
    refine H.seqP (by kernel_rfl) ?_
    refine H.sr 3 (by kernel_rfl) ?_
    refine H.condS (b := decide ((IntKind.u32.wrap (bAnd .u8 y3.1 31)) = 31)) (by kernel_rfl) (by kernel_rfl) (fun hb => ?_) (fun hb => ?_)
    rotate_left
    · rw [if_neg (of_decide_eq_false hb)] at h
      refine H.skipP (by kernel_rfl) ?_
      refine Kseq_norm ?_
      exact H.ren hS [0, 1, 2] _ _ _ (by kernel_rfl) (ih_element_L2 (x.1, y3.2.1, y3.2.2, (shrI .u8 y3.1 6), (IntKind.u32.wrap (bAnd .u8 y3.1 31)), (decide (0 < (bAnd .u8 y3.1 32)))) r h W0 w0 S hS)
    rw [if_pos (of_decide_eq_true hb)] at h
    refine H.regP (by kernel_rfl) ?_
    refine HO.goP 1 (by kernel_rfl) ?_
    obtain ⟨y4, hy, h⟩ := bindS h
    rcases y4 with y4 | y4
    · dsimp only at h
      refine HO.panFW hS 3 [] [(1, .cells [.int .u8 0, .int .u32 0, .bool false, .slice none 0 0, .slice none 0 0] 78 5), (2, .cells [.int .u8 (shrI .u8 y3.1 6), .int .u32 (IntKind.u32.wrap (bAnd .u8 y3.1 31)), .bool (decide (0 < (bAnd .u8 y3.1 32))), .slice none 0 0, .slice none 0 0] 78 5)] [0] [.keep] (numberT_ok (y3.2.1, y3.2.2) (.error y4) hy W0) (by kernel_rfl) (by kernel_rfl) ?_
      refine Kseq_pan ?_
      obtain rfl := Option.some.inj h
      exact KEnd.ofPan (by kernel_rfl) (FEnd.pan hS [0] [] [] (by kernel_rfl))
    dsimp only at h
    refine HO.callFW hS (.int .u32 y4.1) 3 [] [(0, .cells [ls 1 false (encI .u8) y4.2.1, .int .i64 y4.2.2] 138 2), (1, .cells [.int .u8 0, .int .u32 0, .bool false, .slice none 0 0, .slice none 0 0] 78 5), (2, .cells [.int .u8 (shrI .u8 y3.1 6), .int .u32 (IntKind.u32.wrap (bAnd .u8 y3.1 31)), .bool (decide (0 < (bAnd .u8 y3.1 32))), .slice none 0 0, .slice none 0 0] 78 5)] [0] [.keep] (numberT_ok (y3.2.1, y3.2.2) (.ok y4) hy W0) (by kernel_rfl) (by kernel_rfl) ?_
    refine HO.fin 2 (by kernel_rfl) ?_
    exact H.ren hS [0, 1, 2] _ _ _ (by kernel_rfl) (ih_element_L2 (x.1, y4.2.1, y4.2.2, (shrI .u8 y3.1 6), y4.1, (decide (0 < (bAnd .u8 y3.1 32)))) r h W0 w0 S hS)
  · intro g_element_L3 ih_element_L3 x r h
    intro W0 w0 S hS
    haveI := hS.noEx Try.prog
    refine H.sg (by kernel_rfl) ?_
    refine HO.goP 3 (by kernel_rfl) ?_
    refine HO.boolP (decide (0 < x.2.2.2.1)) (by kernel_rfl) (by kernel_rfl) (fun hb => ?_) (fun hb => ?_)
    · rw [if_pos (of_decide_eq_true hb)] at h
      refine HO.goP 4 (by kernel_rfl) ?_
      obtain ⟨y5, hy, h⟩ := bindS h
      rcases y5 with y5 | y5
      · dsimp only at h
        refine HO.panW hS [.keep, .keep] (must_ok (true, 4) (.error y5) hy W0) (by kernel_rfl) (by kernel_rfl) ?_
        refine Kseq_pan ?_
        obtain rfl := Option.some.inj h
        exact KEnd.ofPan (by kernel_rfl) (FEnd.pan hS [0] [] [] (by kernel_rfl))
      dsimp only at h
      refine HO.callW hS [.keep, .keep] (must_ok (true, 4) (.ok y5) hy W0) (by kernel_rfl) (by kernel_rfl) ?_
      refine HO.fin 0 (by kernel_rfl) ?_
      exact H.ren hS [0, 1, 2] _ _ _ (by kernel_rfl) (ih_element_L3 (x.1, x.2.1, x.2.2.1, x.2.2.2.1, x.2.2.2.2.1, x.2.2.2.2.2) r h W0 w0 S hS)
    rw [if_neg (of_decide_eq_false hb)] at h
    refine HO.goP 4 (by kernel_rfl) ?_
    obtain ⟨y6, hy, h⟩ := bindS h
    rcases y6 with y6 | y6
    · dsimp only at h
      refine HO.panW hS [.keep, .keep] (must_ok ((decide (0 < x.2.2.2.2.1)), 4) (.error y6) hy W0) (by kernel_rfl) (by kernel_rfl) ?_
      refine Kseq_pan ?_
      obtain rfl := Option.some.inj h
      exact KEnd.ofPan (by kernel_rfl) (FEnd.pan hS [0] [] [] (by kernel_rfl))
    dsimp only at h
    refine HO.callW hS [.keep, .keep] (must_ok ((decide (0 < x.2.2.2.2.1)), 4) (.ok y6) hy W0) (by kernel_rfl) (by kernel_rfl) ?_
    refine HO.fin 0 (by kernel_rfl) ?_
    exact H.ren hS [0, 1, 2] _ _ _ (by kernel_rfl) (ih_element_L3 (x.1, x.2.1, x.2.2.1, x.2.2.2.1, x.2.2.2.2.1, x.2.2.2.2.2) r h W0 w0 S hS)
  · intro g_element_L5 g_element_L4 ih_element_L5 ih_element_L4 x r h
    intro W0 w0 S hS
    haveI := hS.noEx Try.prog
    refine H.sg (by kernel_rfl) ?_
    refine HO.goP 2 (by kernel_rfl) ?_
    obtain ⟨y7, hy, h⟩ := bindS h
    rcases y7 with y7 | y7
    · dsimp only at h
      refine HO.panFW hS 3 [] [(1, .cells [.int .u8 0, .int .u32 0, .bool false, .slice none 0 0, .slice none 0 0] 78 5), (2, .cells [.int .u8 x.2.2.2.1, .int .u32 x.2.2.2.2.1, .bool x.2.2.2.2.2, .slice none 0 0, .slice none 0 0] 78 5)] [0] [.keep, .agg [.keep, .keep, .keep, .list 1 false, .list 5 false]] (lengthT_ok (x.2.2.2.1, x.2.2.2.2.1, x.2.2.2.2.2, [], [], x.2.1, x.2.2.1) (.error y7) hy W0) (by kernel_rfl) (by kernel_rfl) ?_
      refine Kseq_pan ?_
      obtain rfl := Option.some.inj h
      exact KEnd.ofPan (by kernel_rfl) (FEnd.pan hS [0] [] [] (by kernel_rfl))
    dsimp only at h
    refine HO.callFW hS (.tuple #[.int .i64 y7.1, .bool y7.2.1]) 3 [] [(0, .cells [ls 1 false (encI .u8) y7.2.2.1, .int .i64 y7.2.2.2] 138 2), (1, .cells [.int .u8 0, .int .u32 0, .bool false, .slice none 0 0, .slice none 0 0] 78 5), (2, .cells [.int .u8 x.2.2.2.1, .int .u32 x.2.2.2.2.1, .bool x.2.2.2.2.2, .slice none 0 0, .slice none 0 0] 78 5)] [0] [.keep, .agg [.keep, .keep, .keep, .list 1 false, .list 5 false]] (lengthT_ok (x.2.2.2.1, x.2.2.2.2.1, x.2.2.2.2.2, [], [], x.2.1, x.2.2.1) (.ok y7) hy W0) (by kernel_rfl) (by kernel_rfl) ?_
    refine HO.fin 5 (by kernel_rfl) ?_
    refine H.seqP (by kernel_rfl) ?_
    refine H.blockI 0 (by kernel_rfl) ?_
    refine H.sr 3 (by kernel_rfl) ?_
    refine H.condS (b := !y7.2.1) (by kernel_rfl) (by kernel_rfl) (fun hb => ?_) (fun hb => ?_)
    · rw [if_pos hb] at h
      refine H.blockI 1 (by kernel_rfl) ?_
      refine H.loopP (by kernel_rfl) ?_
      refine HL.tkc 1 78 5 4 5 [.int .u8 0, .int .u32 0, .bool false, .slice none 0 0, .slice none 0 0] (.slice none 0 0) #[] (by kernel_rfl) ?_
      refine HL.tkc 2 78 5 4 5 [.int .u8 x.2.2.2.1, .int .u32 x.2.2.2.2.1, .bool x.2.2.2.2.2, .slice none 0 0, .slice none 0 0] (.slice none 0 0) #[] (by kernel_rfl) ?_
      exact HL.ren hS [0, 1, 2, 3, 4] _ _ _ (by kernel_rfl) (ih_element_L4 (x.1, y7.2.2.1, y7.2.2.2, x.2.2.2.1, x.2.2.2.2.1, x.2.2.2.2.2, []) r h W0 w0 S hS)
    rw [if_neg (ne_true hb)] at h
    refine H.sr 3 (by kernel_rfl) ?_
    refine H.condS (b := x.2.2.2.2.2) (by kernel_rfl) (by kernel_rfl) (fun hb => ?_) (fun hb => ?_)
    rotate_left
    · rw [if_neg (ne_true hb)] at h
      refine H.regP (by kernel_rfl) ?_
      refine HO.goP 4 (by kernel_rfl) ?_
      obtain ⟨y12, hy, h⟩ := bindS h
      rcases y12 with y12 | y12
      · dsimp only at h
        refine HO.panFW hS 3 [] [(1, .cells [.int .u8 0, .int .u32 0, .bool false, .slice none 0 0, .slice none 0 0] 78 5), (2, .cells [.int .u8 x.2.2.2.1, .int .u32 x.2.2.2.2.1, .bool x.2.2.2.2.2, .slice none 0 0, .slice none 0 0] 78 5)] [0] [.keep, .keep] (take_ok (y7.1, y7.2.2.1, y7.2.2.2) (.error y12) hy W0) (by kernel_rfl) (by kernel_rfl) ?_
        refine Kblock_pan ?_
        refine Kseq_pan ?_
        obtain rfl := Option.some.inj h
        exact KEnd.ofPan (by kernel_rfl) (FEnd.pan hS [0] [] [] (by kernel_rfl))
      dsimp only at h
      refine HO.callFW hS (ls 1 false (encI .u8) y12.1) 3 [] [(0, .cells [ls 1 false (encI .u8) y12.2.1, .int .i64 y12.2.2] 138 2), (1, .cells [.int .u8 0, .int .u32 0, .bool false, .slice none 0 0, .slice none 0 0] 78 5), (2, .cells [.int .u8 x.2.2.2.1, .int .u32 x.2.2.2.2.1, .bool x.2.2.2.2.2, .slice none 0 0, .slice none 0 0] 78 5)] [0] [.keep, .keep] (take_ok (y7.1, y7.2.2.1, y7.2.2.2) (.ok y12) hy W0) (by kernel_rfl) (by kernel_rfl) ?_
      obtain ⟨y13, hy, h⟩ := bindS h
      refine HO.callW hS [.list 1 false] (cloneB_ok y12.1 y13 hy W0) (by kernel_rfl) (by kernel_rfl) ?_
      obtain ⟨y14, hy, h⟩ := bindS h
      refine HO.callW hS [.list 1 false] (clip_ok y13 y14 hy W0) (by kernel_rfl) (by kernel_rfl) ?_
      refine HO.goP 2 (by kernel_rfl) ?_
      refine HO.done (by kernel_rfl) ?_
      refine Kblock_norm ?_
      refine Kseq_norm ?_
      refine H.tkc 1 78 5 4 5 [.int .u8 0, .int .u32 0, .bool false, .slice none 0 0, .slice none 0 0] (.slice none 0 0) #[] (by kernel_rfl) ?_
      refine H.tkc 2 78 5 4 5 [.int .u8 x.2.2.2.1, .int .u32 x.2.2.2.2.1, .bool x.2.2.2.2.2, ls 1 true (encI .u8) y14, .slice none 0 0] (.slice none 0 0) #[] (by kernel_rfl) ?_
      exact H.ren hS [0, 1, 2, 3, 4] _ _ _ (by kernel_rfl) (element_L6_ok (y12.2.1, y12.2.2, x.2.2.2.1, x.2.2.2.2.1, x.2.2.2.2.2, y14, []) r h W0 w0 S hS)
    rw [if_pos hb] at h
    refine H.sg (by kernel_rfl) ?_
    refine HO.goP 4 (by kernel_rfl) ?_
    obtain ⟨y11, hy, h⟩ := bindS h
    rcases y11 with y11 | y11
    · dsimp only at h
      refine HO.panFW hS 3 [] [(1, .cells [.int .u8 0, .int .u32 0, .bool false, .slice none 0 0, .slice none 0 0] 78 5), (2, .cells [.int .u8 x.2.2.2.1, .int .u32 x.2.2.2.2.1, .bool x.2.2.2.2.2, .slice none 0 0, .slice none 0 0] 78 5)] [0] [.keep, .keep] (take_ok (y7.1, y7.2.2.1, y7.2.2.2) (.error y11) hy W0) (by kernel_rfl) (by kernel_rfl) ?_
      refine Kseq_pan ?_
      refine Kblock_pan ?_
      refine Kseq_pan ?_
      obtain rfl := Option.some.inj h
      exact KEnd.ofPan (by kernel_rfl) (FEnd.pan hS [0] [] [] (by kernel_rfl))
    dsimp only at h
    refine HO.callFW hS (ls 1 false (encI .u8) y11.1) 3 [] [(0, .cells [ls 1 false (encI .u8) y11.2.1, .int .i64 y11.2.2] 138 2), (1, .cells [.int .u8 0, .int .u32 0, .bool false, .slice none 0 0, .slice none 0 0] 78 5), (2, .cells [.int .u8 x.2.2.2.1, .int .u32 x.2.2.2.2.1, .bool x.2.2.2.2.2, .slice none 0 0, .slice none 0 0] 78 5)] [0] [.keep, .keep] (take_ok (y7.1, y7.2.2.1, y7.2.2.2) (.ok y11) hy W0) (by kernel_rfl) (by kernel_rfl) ?_
    refine HO.fin 1 (by kernel_rfl) ?_
    refine H.sr 6 (by kernel_rfl) ?_
    refine H.seqP (by kernel_rfl) ?_
    refine H.sr 6 (by kernel_rfl) ?_
    refine H.blockI 3 (by kernel_rfl) ?_
    refine H.loopP (by kernel_rfl) ?_
    refine HL.tkc 1 78 5 4 5 [.int .u8 0, .int .u32 0, .bool false, .slice none 0 0, .slice none 0 0] (.slice none 0 0) #[] (by kernel_rfl) ?_
    refine HL.tkc 2 78 5 4 5 [.int .u8 x.2.2.2.1, .int .u32 x.2.2.2.2.1, .bool x.2.2.2.2.2, .slice none 0 0, .slice none 0 0] (.slice none 0 0) #[] (by kernel_rfl) ?_
    exact HL.ren hS [0, 1, 2, 3, 4] _ _ _ (by kernel_rfl) (ih_element_L5 (x.1, y11.2.1, y11.1, y11.2.2, x.2.2.2.1, x.2.2.2.2.1, x.2.2.2.2.2, []) r h W0 w0 S hS)
  · intro g_element g_element_L4 ih_element ih_element_L4 x r h
    intro W0 w0 S hS
    haveI := hS.noEx Try.prog
    refine HL.round ?_
    refine H.seqP (by kernel_rfl) ?_
    refine H.sg (by kernel_rfl) ?_
    refine HO.goP 1 (by kernel_rfl) ?_
    obtain ⟨y8, hy, h⟩ := bindS h
    rcases y8 with y8 | y8
    · dsimp only at h
      refine HO.panFW hS 5 [4, 3] [(1, .cells [.int .u8 0, .int .u32 0, .bool false, .slice none 0 0, tl 5 3 enc78 []] 78 5), (2, .cells [.int .u8 x.2.2.2.1, .int .u32 x.2.2.2.2.1, .bool x.2.2.2.2.2.1, .slice none 0 0, tl 5 4 enc78 x.2.2.2.2.2.2] 78 5)] [0] [.keep] (ahead_ok (x.2.1, x.2.2.1) (.error y8) hy W0) (by kernel_rfl) (by kernel_rfl) ?_
      refine Kseq_pan ?_
      refine Kseq_pan ?_
      refine Kloop_pan ?_
      refine Kblock_pan ?_
      refine Kblock_pan ?_
      refine Kseq_pan ?_
      obtain rfl := Option.some.inj h
      exact KEnd.ofPan (by kernel_rfl) (FEnd.pan hS [0] [] [] (by kernel_rfl))
    dsimp only at h
    refine HO.callFW hS (.bool y8.1) 5 [4, 3] [(0, .cells [ls 1 false (encI .u8) y8.2.1, .int .i64 y8.2.2] 138 2), (1, .cells [.int .u8 0, .int .u32 0, .bool false, .slice none 0 0, tl 5 3 enc78 []] 78 5), (2, .cells [.int .u8 x.2.2.2.1, .int .u32 x.2.2.2.2.1, .bool x.2.2.2.2.2.1, .slice none 0 0, tl 5 4 enc78 x.2.2.2.2.2.2] 78 5)] [0] [.keep] (ahead_ok (x.2.1, x.2.2.1) (.ok y8) hy W0) (by kernel_rfl) (by kernel_rfl) ?_
    refine HO.fin 0 (by kernel_rfl) ?_
    refine H.condS (b := y8.1) (by kernel_rfl) (by kernel_rfl) (fun hb => ?_) (fun hb => ?_)
    rotate_left
    · rw [if_neg (ne_true hb)] at h
      refine H.exitI 1 (by kernel_rfl) ?_
      refine Kseq_exit ?_
      refine Kloop_exit ?_
      refine Kblock_hit ?_
      refine Kblock_norm ?_
      refine Kseq_norm ?_
      refine H.wkc 2 78 5 3 [.int .u8 x.2.2.2.1, .int .u32 x.2.2.2.2.1, .bool x.2.2.2.2.2.1, .slice none 0 0, tl 5 4 enc78 x.2.2.2.2.2.2] (.slice none 0 0) (ls 1 true (encI .u8) []) (.list 1 true) (by kernel_rfl) ?_
      exact H.ren hS [0, 1, 2, 3, 4] _ _ _ (by kernel_rfl) (element_L6_ok (y8.2.1, y8.2.2, x.2.2.2.1, x.2.2.2.2.1, x.2.2.2.2.2.1, [], x.2.2.2.2.2.2) r h W0 w0 S hS)
    rw [if_pos hb] at h
    refine H.skipP (by kernel_rfl) ?_
    refine Kseq_norm ?_
    refine H.blockI 2 (by kernel_rfl) ?_
    refine H.drawQ ?_
    refine HQ.goP 5 (by kernel_rfl) ?_
    obtain ⟨y9, hy, h⟩ := bindS h
    rcases y9 with y9 | y9
    · dsimp only at h
      refine HQ.panFW hS [4] 5 [4, 3] [(1, .cells [.int .u8 0, .int .u32 0, .bool false, .slice none 0 0, tl 5 3 enc78 []] 78 5), (2, .cells [.int .u8 x.2.2.2.1, .int .u32 x.2.2.2.2.1, .bool x.2.2.2.2.2.1, .slice none 0 0, tl 5 4 enc78 x.2.2.2.2.2.2] 78 5)] [0] [.keep, .keep] (ih_element ((IntKind.i64.wrap (x.1 + 1)), y8.2.1, y8.2.2) (.error y9) hy W0) (by kernel_rfl) (by kernel_rfl) (by kernel_rfl) (by kernel_rfl) ?_
      refine Kblock_pan ?_
      refine Kloop_pan ?_
      refine Kblock_pan ?_
      refine Kblock_pan ?_
      refine Kseq_pan ?_
      obtain rfl := Option.some.inj h
      exact KEnd.ofPan (by kernel_rfl) (FEnd.pan hS [0] [] [] (by kernel_rfl))
    dsimp only at h
    refine HQ.callFW hS (.agg #[.int .u8 y9.1, .int .u32 y9.2.1, .bool y9.2.2.1, ls 1 false (encI .u8) y9.2.2.2.1, ls 5 false enc78 y9.2.2.2.2.1]) 5 [4, 3] [(0, .cells [ls 1 false (encI .u8) y9.2.2.2.2.2.1, .int .i64 y9.2.2.2.2.2.2] 138 2), (1, .cells [.int .u8 0, .int .u32 0, .bool false, .slice none 0 0, tl 5 3 enc78 []] 78 5), (2, .cells [.int .u8 x.2.2.2.1, .int .u32 x.2.2.2.2.1, .bool x.2.2.2.2.2.1, .slice none 0 0, tl 5 4 enc78 x.2.2.2.2.2.2] 78 5)] [0] [.keep, .keep] (ih_element ((IntKind.i64.wrap (x.1 + 1)), y8.2.1, y8.2.2) (.ok y9) hy W0) (by kernel_rfl) (by kernel_rfl) ?_
    refine HQ.goP 1 (by kernel_rfl) ?_
    obtain ⟨y10, hy, h⟩ := bindS h
    refine HQ.effA (app1_aop (enc := enc78) (k := 5) true 1 [.int .u8 y9.1, .int .u32 y9.2.1, .bool y9.2.2.1, ls 1 false (encI .u8) y9.2.2.2.1, ls 5 false enc78 y9.2.2.2.2.1] [3] hy (by kernel_rfl) (by kernel_rfl) (by simp only [List.map_cons, List.map_nil, enc78_eq]; kernel_rfl)) ?_
    refine HQ.goP 2 (by kernel_rfl) ?_
    refine HQ.done (by kernel_rfl) (by kernel_rfl) (by kernel_rfl) ?_
    refine Kblock_norm ?_
    refine Kloop_norm ?_
    exact HL.ren hS [0, 1, 2, 3, 6] _ _ _ (by kernel_rfl) (ih_element_L4 (x.1, y9.2.2.2.2.2.1, y9.2.2.2.2.2.2, x.2.2.2.1, x.2.2.2.2.1, x.2.2.2.2.2.1, y10) r h W0 w0 S hS)
theorem element_L5_ok : ∀ (x : Int × (List Int) × (List Int) × Int × Int × Int × Bool × (List S78)) (r : Except Int (Int × Int × Bool × (List Int) × (List S78) × (List Int) × Int)), element_L5 x = some r → ∀ (W0 w0 : World) (S : Own), Std W0 w0 S 1 → HL Try.prog w0 S 128 (cL (cL (cR (cL (cR (cR (cL (cR (cR (cR (cL (cL (cR (cR (cR (cR (cR (cR (cR (cR (cB Try.f70))))))))))))))))))))) (mkS [(0, .pointer (some ⟨0, 0, none⟩)), (1, .int .i64 x.1), (4, .pointer (some ⟨1, 0, none⟩)), (6, .pointer (some ⟨2, 0, none⟩)), (10, ls 1 false (encI .u8) x.2.1)] [(0, .cells [ls 1 false (encI .u8) x.2.2.1, .int .i64 x.2.2.2.1] 138 2), (1, .cells [.int .u8 0, .int .u32 0, .bool false, .slice none 0 0, tl 5 3 enc78 []] 78 5), (2, .cells [.int .u8 x.2.2.2.2.1, .int .u32 x.2.2.2.2.2.1, .bool x.2.2.2.2.2.2.1, .slice none 0 0, tl 5 4 enc78 x.2.2.2.2.2.2.2] 78 5)] 5 [4, 3]) (Kblock 3 (Kseq Try.prog w0 S 128 (cR (cR (cR (cL (cR (cR (cR (cL (cL (cR (cR (cR (cR (cR (cR (cR (cR (cB Try.f70)))))))))))))))))) (Kblock 0 (Kseq Try.prog w0 S 128 (cR (cR (cR (cR (cR (cR (cR (cR (cR (cB Try.f70)))))))))) (KEnd Try.prog Try.f70 (FEnd w0 S (match r with | .ok r => .returned (.agg #[.int .u8 r.1, .int .u32 r.2.1, .bool r.2.2.1, ls 1 false (encI .u8) r.2.2.2.1, ls 5 false enc78 r.2.2.2.2.1]) | .error e => panE (.iface 32 (.int .i64 e))) (match r with | .ok r => (mkW 1 [] [(0, .cells [ls 1 false (encI .u8) r.2.2.2.2.2.1, .int .i64 r.2.2.2.2.2.2] 138 2)]) | .error _ => (mkW 1 [] [])))))))) := element_L5_grp.1
theorem element_ok : ∀ (x : Int × (List Int) × Int) (r : Except Int (Int × Int × Bool × (List Int) × (List S78) × (List Int) × Int)), element x = some r → ∀ W0 : World, FTo Try.prog W0 70 #[.pointer (some ⟨0, 0, none⟩), .int .i64 x.1] (mkW 1 [] [(0, .cells [ls 1 false (encI .u8) x.2.1, .int .i64 x.2.2] 138 2)]) (match r with | .ok r => .returned (.agg #[.int .u8 r.1, .int .u32 r.2.1, .bool r.2.2.1, ls 1 false (encI .u8) r.2.2.2.1, ls 5 false enc78 r.2.2.2.2.1]) | .error e => panE (.iface 32 (.int .i64 e))) (match r with | .ok r => (mkW 1 [] [(0, .cells [ls 1 false (encI .u8) r.2.2.2.2.2.1, .int .i64 r.2.2.2.2.2.2] 138 2)]) | .error _ => (mkW 1 [] [])) := element_L5_grp.2.1
theorem element_L1_ok : ∀ (x : Int × (List Int) × Int) (r : Except Int (Int × Int × Bool × (List Int) × (List S78) × (List Int) × Int)), element_L1 x = some r → ∀ (W0 w0 : World) (S : Own), Std W0 w0 S 1 → H Try.prog w0 S 128 (cR (cR (cB Try.f70))) (mkS [(0, .pointer (some ⟨0, 0, none⟩)), (1, .int .i64 x.1), (4, .pointer (some ⟨1, 0, none⟩))] [(0, .cells [ls 1 false (encI .u8) x.2.1, .int .i64 x.2.2] 138 2), (1, .cells [.int .u8 0, .int .u32 0, .bool false, .slice none 0 0, .slice none 0 0] 78 5)] 2 []) (KEnd Try.prog Try.f70 (FEnd w0 S (match r with | .ok r => .returned (.agg #[.int .u8 r.1, .int .u32 r.2.1, .bool r.2.2.1, ls 1 false (encI .u8) r.2.2.2.1, ls 5 false enc78 r.2.2.2.2.1]) | .error e => panE (.iface 32 (.int .i64 e))) (match r with | .ok r => (mkW 1 [] [(0, .cells [ls 1 false (encI .u8) r.2.2.2.2.2.1, .int .i64 r.2.2.2.2.2.2] 138 2)]) | .error _ => (mkW 1 [] [])))) := element_L5_grp.2.2.1
theorem element_L2_ok : ∀ (x : Int × (List Int) × Int × Int × Int × Bool) (r : Except Int (Int × Int × Bool × (List Int) × (List S78) × (List Int) × Int)), element_L2 x = some r → ∀ (W0 w0 : World) (S : Own), Std W0 w0 S 1 → H Try.prog w0 S 128 (cR (cR (cR (cR (cR (cR (cB Try.f70))))))) (mkS [(0, .pointer (some ⟨0, 0, none⟩)), (1, .int .i64 x.1), (4, .pointer (some ⟨1, 0, none⟩)), (6, .pointer (some ⟨2, 0, none⟩))] [(0, .cells [ls 1 false (encI .u8) x.2.1, .int .i64 x.2.2.1] 138 2), (1, .cells [.int .u8 0, .int .u32 0, .bool false, .slice none 0 0, .slice none 0 0] 78 5), (2, .cells [.int .u8 x.2.2.2.1, .int .u32 x.2.2.2.2.1, .bool x.2.2.2.2.2, .slice none 0 0, .slice none 0 0] 78 5)] 3 []) (KEnd Try.prog Try.f70 (FEnd w0 S (match r with | .ok r => .returned (.agg #[.int .u8 r.1, .int .u32 r.2.1, .bool r.2.2.1, ls 1 false (encI .u8) r.2.2.2.1, ls 5 false enc78 r.2.2.2.2.1]) | .error e => panE (.iface 32 (.int .i64 e))) (match r with | .ok r => (mkW 1 [] [(0, .cells [ls 1 false (encI .u8) r.2.2.2.2.2.1, .int .i64 r.2.2.2.2.2.2] 138 2)]) | .error _ => (mkW 1 [] [])))) := element_L5_grp.2.2.2.1
theorem element_L3_ok : ∀ (x : Int × (List Int) × Int × Int × Int × Bool) (r : Except Int (Int × Int × Bool × (List Int) × (List S78) × (List Int) × Int)), element_L3 x = some r → ∀ (W0 w0 : World) (S : Own), Std W0 w0 S 1 → H Try.prog w0 S 128 (cR (cR (cR (cR (cR (cR (cR (cB Try.f70)))))))) (mkS [(0, .pointer (some ⟨0, 0, none⟩)), (1, .int .i64 x.1), (4, .pointer (some ⟨1, 0, none⟩)), (6, .pointer (some ⟨2, 0, none⟩))] [(0, .cells [ls 1 false (encI .u8) x.2.1, .int .i64 x.2.2.1] 138 2), (1, .cells [.int .u8 0, .int .u32 0, .bool false, .slice none 0 0, .slice none 0 0] 78 5), (2, .cells [.int .u8 x.2.2.2.1, .int .u32 x.2.2.2.2.1, .bool x.2.2.2.2.2, .slice none 0 0, .slice none 0 0] 78 5)] 3 []) (KEnd Try.prog Try.f70 (FEnd w0 S (match r with | .ok r => .returned (.agg #[.int .u8 r.1, .int .u32 r.2.1, .bool r.2.2.1, ls 1 false (encI .u8) r.2.2.2.1, ls 5 false enc78 r.2.2.2.2.1]) | .error e => panE (.iface 32 (.int .i64 e))) (match r with | .ok r => (mkW 1 [] [(0, .cells [ls 1 false (encI .u8) r.2.2.2.2.2.1, .int .i64 r.2.2.2.2.2.2] 138 2)]) | .error _ => (mkW 1 [] [])))) := element_L5_grp.2.2.2.2.1
theorem element_L4_ok : ∀ (x : Int × (List Int) × Int × Int × Int × Bool × (List S78)) (r : Except Int (Int × Int × Bool × (List Int) × (List S78) × (List Int) × Int)), element_L4 x = some r → ∀ (W0 w0 : World) (S : Own), Std W0 w0 S 1 → HL Try.prog w0 S 128 (cL (cL (cL (cR (cL (cL (cR (cR (cR (cR (cR (cR (cR (cR (cB Try.f70))))))))))))))) (mkS [(0, .pointer (some ⟨0, 0, none⟩)), (1, .int .i64 x.1), (4, .pointer (some ⟨1, 0, none⟩)), (6, .pointer (some ⟨2, 0, none⟩))] [(0, .cells [ls 1 false (encI .u8) x.2.1, .int .i64 x.2.2.1] 138 2), (1, .cells [.int .u8 0, .int .u32 0, .bool false, .slice none 0 0, tl 5 3 enc78 []] 78 5), (2, .cells [.int .u8 x.2.2.2.1, .int .u32 x.2.2.2.2.1, .bool x.2.2.2.2.2.1, .slice none 0 0, tl 5 4 enc78 x.2.2.2.2.2.2] 78 5)] 5 [4, 3]) (Kblock 1 (Kblock 0 (Kseq Try.prog w0 S 128 (cR (cR (cR (cR (cR (cR (cR (cR (cR (cB Try.f70)))))))))) (KEnd Try.prog Try.f70 (FEnd w0 S (match r with | .ok r => .returned (.agg #[.int .u8 r.1, .int .u32 r.2.1, .bool r.2.2.1, ls 1 false (encI .u8) r.2.2.2.1, ls 5 false enc78 r.2.2.2.2.1]) | .error e => panE (.iface 32 (.int .i64 e))) (match r with | .ok r => (mkW 1 [] [(0, .cells [ls 1 false (encI .u8) r.2.2.2.2.2.1, .int .i64 r.2.2.2.2.2.2] 138 2)]) | .error _ => (mkW 1 [] []))))))) := element_L5_grp.2.2.2.2.2
def first (x : (List Int)) : Option (Int × Int × Bool × (List Int) × (List S78) × Int × Int) :=
  if 65536 < (x.length : Int) then
    some (0, 0, false, [], [], 0, 3)
  else
    (element (1, x, 0)) >>= fun y1 =>
    match y1 with
    | .error y1 =>
      some (0, 0, false, [], [], 0, y1)
    | .ok y1 =>
      some (y1.1, y1.2.1, y1.2.2.1, y1.2.2.2.1, y1.2.2.2.2.1, (IntKind.i64.wrap ((x.length : Int) - (y1.2.2.2.2.2.1.length : Int))), 0)
theorem first_ok : ∀ (x : (List Int)) (r : Int × Int × Bool × (List Int) × (List S78) × Int × Int), first x = some r → ∀ W0 : World, PTo Try.prog W0 60 #[ls 1 false (encI .u8) x] (.returned (.tuple #[.agg #[.int .u8 r.1, .int .u32 r.2.1, .bool r.2.2.1, ls 1 false (encI .u8) r.2.2.2.1, ls 5 false enc78 r.2.2.2.2.1], .int .i64 r.2.2.2.2.2.1, .int .i64 r.2.2.2.2.2.2])) := by
  intro x r h
  unfold first at h
  intro W0
  refine PTo.of_body (fn := Try.f60) (code := cB Try.f60) Try.func60 rfl rfl ?_
  intro w0 S hS
  haveI := hS.noEx Try.prog
  refine H.sr 3 (by kernel_rfl) ?_
  refine H.seqP (by kernel_rfl) ?_
  refine H.sg (by kernel_rfl) ?_
  refine HO.goP 1 (by kernel_rfl) ?_
  refine HO.len (by kernel_rfl) (by kernel_rfl) (ls_size (encI .u8) x) ?_
  refine HO.fin 1 (by kernel_rfl) ?_
  refine H.condS (b := decide (65536 < (x.length : Int))) (by kernel_rfl) (by kernel_rfl) (fun hb => ?_) (fun hb => ?_)
  · rw [if_pos (of_decide_eq_true hb)] at h
    refine H.sr 4 (by kernel_rfl) ?_
    refine H.retP (by kernel_rfl) ?_
    refine Kseq_ret ?_
    obtain rfl := Option.some.inj h
    exact KEnd.retW (v := .tuple #[.agg #[.int .u8 0, .int .u32 0, .bool false, .slice none 0 0, .slice none 0 0], .int .i64 0, .int .i64 3]) (.tuple [.agg [.keep, .keep, .keep, .list 1 false, .list 5 false], .keep, .keep]) (by kernel_rfl) (by kernel_rfl) (by kernel_rfl) (by kernel_rfl)
  rw [if_neg (of_decide_eq_false hb)] at h
  refine H.skipP (by kernel_rfl) ?_
  refine Kseq_norm ?_
  refine H.sr 2 (by kernel_rfl) ?_
  refine H.sr 5 (by kernel_rfl) ?_
  refine H.sg (by kernel_rfl) ?_
  refine HO.goP 1 (by kernel_rfl) ?_
  obtain ⟨y1, hy, h⟩ := bindS h
  rcases y1 with y1 | y1
  · dsimp only at h
    refine HO.panFW hS 4 [] [(0, .cells [.int .u8 0, .int .u32 0, .bool false, .slice none 0 0, .slice none 0 0] 78 5), (1, .cells [.int .i64 0] 3 1), (2, .cells [.int .i64 0] 32 1)] [3] [.keep, .keep] (element_ok (1, x, 0) (.error y1) hy W0) (by kernel_rfl) (by kernel_rfl) ?_
    refine Kseq_pan ?_
    obtain rfl := Option.some.inj h
    exact KEnd.genP (e := .returned (.tuple #[.agg #[.int .u8 0, .int .u32 0, .bool false, .slice none 0 0, .slice none 0 0], .int .i64 0, .int .i64 y1])) (by kernel_rfl) (PEnd.wk (v1 := .tuple #[.agg #[.int .u8 0, .int .u32 0, .bool false, ls 1 false (encI .u8) [], ls 5 false enc78 []], .int .i64 0, .int .i64 y1]) (.tuple [.agg [.keep, .keep, .keep, .list 1 false, .list 5 false], .keep, .keep]) (by kernel_rfl) (PEnd.fin (by kernel_rfl)))
  dsimp only at h
  refine HO.callFW hS (.agg #[.int .u8 y1.1, .int .u32 y1.2.1, .bool y1.2.2.1, ls 1 false (encI .u8) y1.2.2.2.1, ls 5 false enc78 y1.2.2.2.2.1]) 4 [] [(0, .cells [.int .u8 0, .int .u32 0, .bool false, .slice none 0 0, .slice none 0 0] 78 5), (1, .cells [.int .i64 0] 3 1), (2, .cells [.int .i64 0] 32 1), (3, .cells [ls 1 false (encI .u8) y1.2.2.2.2.2.1, .int .i64 y1.2.2.2.2.2.2] 138 2)] [3] [.keep, .keep] (element_ok (1, x, 0) (.ok y1) hy W0) (by kernel_rfl) (by kernel_rfl) ?_
  refine HO.fin 1 (by kernel_rfl) ?_
  refine H.seqP (by kernel_rfl) ?_
  refine H.drawQ ?_
  refine HQ.goP 2 (by kernel_rfl) ?_
  refine HQ.len (by kernel_rfl) (ls_size (encI .u8) x) ?_
  refine HQ.goP 5 (by kernel_rfl) ?_
  refine HQ.len (by kernel_rfl) (ls_size (encI .u8) y1.2.2.2.2.2.1) ?_
  refine HQ.goP 4 (by kernel_rfl) ?_
  refine HQ.done (by kernel_rfl) (by kernel_rfl) (by kernel_rfl) ?_
  refine Kseq_norm ?_
  refine H.retP (by kernel_rfl) ?_
  obtain rfl := Option.some.inj h
  exact KEnd.genR (by kernel_rfl) (e := .returned (.tuple #[.agg #[.int .u8 y1.1, .int .u32 y1.2.1, .bool y1.2.2.1, ls 1 false (encI .u8) y1.2.2.2.1, ls 5 false enc78 y1.2.2.2.2.1], .int .i64 (IntKind.i64.wrap ((x.length : Int) - (y1.2.2.2.2.2.1.length : Int))), .int .i64 0])) (by kernel_rfl) (PEnd.wk (v1 := .tuple #[.agg #[.int .u8 y1.1, .int .u32 y1.2.1, .bool y1.2.2.1, ls 1 false (encI .u8) y1.2.2.2.1, ls 5 false enc78 y1.2.2.2.2.1], .int .i64 (IntKind.i64.wrap ((x.length : Int) - (y1.2.2.2.2.2.1.length : Int))), .int .i64 0]) (.tuple [.agg [.keep, .keep, .keep, .list 1 false, .list 5 false], .keep, .keep]) (by kernel_rfl) (PEnd.fin (by kernel_rfl)))
def decode (x : (List Int)) : Option (Int × Int × Bool × (List Int) × (List S78) × Int) :=
  (first x) >>= fun y1 =>
  if (!decide (y1.2.2.2.2.2.2 = 0)) = true then
    some (0, 0, false, [], [], y1.2.2.2.2.2.2)
  else
    if y1.2.2.2.2.2.1 < (x.length : Int) then
      some (0, 0, false, [], [], 4)
    else
      some (y1.1, y1.2.1, y1.2.2.1, y1.2.2.2.1, y1.2.2.2.2.1, 0)
theorem decode_ok : ∀ (x : (List Int)) (r : Int × Int × Bool × (List Int) × (List S78) × Int), decode x = some r → ∀ W0 : World, PTo Try.prog W0 35 #[ls 1 false (encI .u8) x] (.returned (.tuple #[.agg #[.int .u8 r.1, .int .u32 r.2.1, .bool r.2.2.1, ls 1 false (encI .u8) r.2.2.2.1, ls 5 false enc78 r.2.2.2.2.1], .int .i64 r.2.2.2.2.2])) := by
  intro x r h
  unfold decode at h
  intro W0
  refine PTo.of_body (fn := Try.f35) (code := cB Try.f35) Try.func35 rfl rfl ?_
  intro w0 S hS
  haveI := hS.noEx Try.prog
  refine H.sr 2 (by kernel_rfl) ?_
  refine H.sg (by kernel_rfl) ?_
  refine HO.goP 1 (by kernel_rfl) ?_
  obtain ⟨y1, hy, h⟩ := bindS h
  refine HO.callW hS [.list 1 false] (first_ok x y1 hy W0) (by kernel_rfl) (by kernel_rfl) ?_
  refine HO.fin 8 (by kernel_rfl) ?_
  refine H.seqP (by kernel_rfl) ?_
  refine H.blockI 0 (by kernel_rfl) ?_
  refine H.sr 3 (by kernel_rfl) ?_
  refine H.condS (b := !decide (y1.2.2.2.2.2.2 = 0)) (by kernel_rfl) (by kernel_rfl) (fun hb => ?_) (fun hb => ?_)
  · rw [if_pos hb] at h
    refine H.sr 4 (by kernel_rfl) ?_
    refine H.retP (by kernel_rfl) ?_
    refine Kblock_ret ?_
    refine Kseq_ret ?_
    obtain rfl := Option.some.inj h
    exact KEnd.retW (v := .tuple #[.agg #[.int .u8 0, .int .u32 0, .bool false, .slice none 0 0, .slice none 0 0], .int .i64 y1.2.2.2.2.2.2]) (.tuple [.agg [.keep, .keep, .keep, .list 1 false, .list 5 false], .keep]) (by kernel_rfl) (by kernel_rfl) (by kernel_rfl) (by kernel_rfl)
  rw [if_neg (ne_true hb)] at h
  refine H.sg (by kernel_rfl) ?_
  refine HO.goP 2 (by kernel_rfl) ?_
  refine HO.len (by kernel_rfl) (by kernel_rfl) (ls_size (encI .u8) x) ?_
  refine HO.fin 2 (by kernel_rfl) ?_
  refine H.condS (b := decide (y1.2.2.2.2.2.1 < (x.length : Int))) (by kernel_rfl) (by kernel_rfl) (fun hb => ?_) (fun hb => ?_)
  · rw [if_pos (of_decide_eq_true hb)] at h
    refine H.sr 3 (by kernel_rfl) ?_
    refine H.retP (by kernel_rfl) ?_
    refine Kblock_ret ?_
    refine Kseq_ret ?_
    obtain rfl := Option.some.inj h
    exact KEnd.retW (v := .tuple #[.agg #[.int .u8 0, .int .u32 0, .bool false, .slice none 0 0, .slice none 0 0], .int .i64 4]) (.tuple [.agg [.keep, .keep, .keep, .list 1 false, .list 5 false], .keep]) (by kernel_rfl) (by kernel_rfl) (by kernel_rfl) (by kernel_rfl)
  rw [if_neg (of_decide_eq_false hb)] at h
  refine H.skipP (by kernel_rfl) ?_
  refine Kblock_norm ?_
  refine Kseq_norm ?_
  refine H.sr 3 (by kernel_rfl) ?_
  refine H.retP (by kernel_rfl) ?_
  obtain rfl := Option.some.inj h
  exact KEnd.retW (v := .tuple #[.agg #[.int .u8 y1.1, .int .u32 y1.2.1, .bool y1.2.2.1, ls 1 false (encI .u8) y1.2.2.2.1, ls 5 false enc78 y1.2.2.2.2.1], .int .i64 0]) (.tuple [.agg [.keep, .keep, .keep, .list 1 false, .list 5 false], .keep]) (by kernel_rfl) (by kernel_rfl) (by kernel_rfl) (by kernel_rfl)
def toInt_L2 (x : Int × (List Int) × Int × Int) : Option (Int × Int) :=
  if x.2.2.2 < x.2.2.1 then
    (at' x.2.1 x.2.2.2) >>= fun y9 =>
    toInt_L2 ((bOr .i64 (shlI .i64 x.1 8) (IntKind.i64.wrap y9)), x.2.1, x.2.2.1, (IntKind.i64.wrap (x.2.2.2 + 1)))
  else
    some (x.1, 0)
partial_fixpoint
theorem toInt_L2_ok : ∀ (x : Int × (List Int) × Int × Int) (r : Int × Int), toInt_L2 x = some r → ∀ (W0 w0 : World) (S : Own), Std W0 w0 S 0 → HL Try.prog w0 S 62 (cL (cL (cR (cL (cR (cR (cR (cB Try.f61)))))))) (mkS [(4, .int .i64 x.1), (49, ls 1 false (encI .u8) x.2.1), (50, .int .i64 x.2.2.1), (51, .int .i64 x.2.2.2)] [] 0 []) (Kblock 1 (Kseq Try.prog w0 S 62 (cR (cR (cR (cR (cB Try.f61))))) (KEnd Try.prog Try.f61 (PEnd w0 S (.returned (.tuple #[.int .i64 r.1, .int .i64 r.2])))))) := by
  refine toInt_L2.partial_correctness (fun (x : Int × (List Int) × Int × Int) (r : Int × Int) => ∀ (W0 w0 : World) (S : Own), Std W0 w0 S 0 → HL Try.prog w0 S 62 (cL (cL (cR (cL (cR (cR (cR (cB Try.f61)))))))) (mkS [(4, .int .i64 x.1), (49, ls 1 false (encI .u8) x.2.1), (50, .int .i64 x.2.2.1), (51, .int .i64 x.2.2.2)] [] 0 []) (Kblock 1 (Kseq Try.prog w0 S 62 (cR (cR (cR (cR (cB Try.f61))))) (KEnd Try.prog Try.f61 (PEnd w0 S (.returned (.tuple #[.int .i64 r.1, .int .i64 r.2]))))))) ?_
  intro self ih_toInt_L2 x r h
  intro W0 w0 S hS
  haveI := hS.noEx Try.prog
  refine HL.round ?_
  refine H.sr 1 (by kernel_rfl) ?_
  refine H.seqP (by kernel_rfl) ?_
  refine H.condS (b := decide (x.2.2.2 < x.2.2.1)) (by kernel_rfl) (by kernel_rfl) (fun hb => ?_) (fun hb => ?_)
  rotate_left
  · rw [if_neg (of_decide_eq_false hb)] at h
    refine H.exitI 1 (by kernel_rfl) ?_
    refine Kseq_exit ?_
    refine Kloop_exit ?_
    refine Kblock_hit ?_
    refine Kseq_norm ?_
    refine H.sr 3 (by kernel_rfl) ?_
    refine H.retP (by kernel_rfl) ?_
    obtain rfl := Option.some.inj h
    exact KEnd.ret (by kernel_rfl) (by kernel_rfl) (by kernel_rfl)
  rw [if_pos (of_decide_eq_true hb)] at h
  refine H.skipP (by kernel_rfl) ?_
  refine Kseq_norm ?_
  refine H.seqP (by kernel_rfl) ?_
  refine H.blockI 2 (by kernel_rfl) ?_
  refine H.sg (by kernel_rfl) ?_
  obtain ⟨y9, hy, h⟩ := bindS h
  refine HO.idx (.int .u8 y9) hy rfl (by kernel_rfl) ?_
  refine HO.fin 2 (by kernel_rfl) ?_
  refine H.regP (by kernel_rfl) ?_
  refine HO.goP 6 (by kernel_rfl) ?_
  refine HO.done (by kernel_rfl) ?_
  refine Kblock_norm ?_
  refine Kseq_norm ?_
  refine H.regP (by kernel_rfl) ?_
  refine HO.goP 2 (by kernel_rfl) ?_
  refine HO.done (by kernel_rfl) ?_
  refine Kloop_norm ?_
  exact HL.ren hS [] _ _ _ (by kernel_rfl) (ih_toInt_L2 ((bOr .i64 (shlI .i64 x.1 8) (IntKind.i64.wrap y9)), x.2.1, x.2.2.1, (IntKind.i64.wrap (x.2.2.2 + 1))) r h W0 w0 S hS)
def toInt_L1 (x : (List Int) × Bool) : Option (Int × Int) :=
  if x.2 = true then
    some (0, 4)
  else
    if 8 < (x.1.length : Int) then
      some (0, 3)
    else
      (at' x.1 0) >>= fun y7 =>
      (sub' x.1 1 (x.1.length : Int)) >>= fun y8 =>
      toInt_L2 ((IntKind.i64.wrap (IntKind.i8.wrap y7)), y8, (y8.length : Int), 0)
theorem toInt_L1_ok : ∀ (x : (List Int) × Bool) (r : Int × Int), toInt_L1 x = some r → ∀ (W0 w0 : World) (S : Own), Std W0 w0 S 0 → H Try.prog w0 S 62 (cR (cR (cR (cL (cL (cR (cB Try.f61))))))) (mkS [(0, ls 1 false (encI .u8) x.1), (11, .bool x.2)] [] 0 []) (Kblock 0 (Kseq Try.prog w0 S 62 (cR (cR (cB Try.f61))) (KEnd Try.prog Try.f61 (PEnd w0 S (.returned (.tuple #[.int .i64 r.1, .int .i64 r.2])))))) := by
  intro x r h
  unfold toInt_L1 at h
  intro W0 w0 S hS
  haveI := hS.noEx Try.prog
  refine H.condS (b := x.2) (by kernel_rfl) (by kernel_rfl) (fun hb => ?_) (fun hb => ?_)
  · rw [if_pos hb] at h
    refine H.sr 2 (by kernel_rfl) ?_
    refine H.retP (by kernel_rfl) ?_
    refine Kblock_ret ?_
    refine Kseq_ret ?_
    obtain rfl := Option.some.inj h
    exact KEnd.ret (by kernel_rfl) (by kernel_rfl) (by kernel_rfl)
  rw [if_neg (ne_true hb)] at h
  refine H.sg (by kernel_rfl) ?_
  refine HO.goP 1 (by kernel_rfl) ?_
  refine HO.len (by kernel_rfl) (by kernel_rfl) (ls_size (encI .u8) x.1) ?_
  refine HO.fin 2 (by kernel_rfl) ?_
  refine H.condS (b := decide (8 < (x.1.length : Int))) (by kernel_rfl) (by kernel_rfl) (fun hb => ?_) (fun hb => ?_)
  · rw [if_pos (of_decide_eq_true hb)] at h
    refine H.sr 2 (by kernel_rfl) ?_
    refine H.retP (by kernel_rfl) ?_
    refine Kblock_ret ?_
    refine Kseq_ret ?_
    obtain rfl := Option.some.inj h
    exact KEnd.ret (by kernel_rfl) (by kernel_rfl) (by kernel_rfl)
  rw [if_neg (of_decide_eq_false hb)] at h
  refine H.skipP (by kernel_rfl) ?_
  refine Kblock_norm ?_
  refine Kseq_norm ?_
  refine H.sg (by kernel_rfl) ?_
  refine HO.goP 1 (by kernel_rfl) ?_
  obtain ⟨y7, hy, h⟩ := bindS h
  refine HO.idx (.int .u8 y7) hy rfl (by kernel_rfl) ?_
  refine HO.fin 4 (by kernel_rfl) ?_
  refine H.seqP (by kernel_rfl) ?_
  refine H.sg (by kernel_rfl) ?_
  refine HO.goP 1 (by kernel_rfl) ?_
  obtain ⟨y8, hy, h⟩ := bindS h
  refine HO.valA (sl1_aop (enc := (encI .u8)) (k := 1) (j := .i64) false hy (by kernel_rfl)) ?_
  refine HO.len (by kernel_rfl) (by kernel_rfl) (ls_size (encI .u8) y8) ?_
  refine HO.fin 1 (by kernel_rfl) ?_
  refine H.blockI 1 (by kernel_rfl) ?_
  refine H.loopP (by kernel_rfl) ?_
  exact HL.ren hS [] _ _ _ (by kernel_rfl) (toInt_L2_ok ((IntKind.i64.wrap (IntKind.i8.wrap y7)), y8, (y8.length : Int), 0) r h W0 w0 S hS)
def toInt (x : (List Int)) : Option (Int × Int) :=
  if (x.length : Int) = 0 then
    some (0, 4)
  else
    if 1 < (x.length : Int) then
      (at' x 0) >>= fun y1 =>
      if y1 = 0 then
        (at' x 1) >>= fun y2 =>
        if y2 < 128 then
          toInt_L1 (x, true)
        else
          (at' x 0) >>= fun y3 =>
          if y3 = 255 then
            (at' x 1) >>= fun y4 =>
            toInt_L1 (x, (decide (128 ≤ y4)))
          else
            toInt_L1 (x, false)
      else
        (at' x 0) >>= fun y5 =>
        if y5 = 255 then
          (at' x 1) >>= fun y6 =>
          toInt_L1 (x, (decide (128 ≤ y6)))
        else
          toInt_L1 (x, false)
    else
      toInt_L1 (x, false)
theorem toInt_ok : ∀ (x : (List Int)) (r : Int × Int), toInt x = some r → ∀ W0 : World, PTo Try.prog W0 61 #[ls 1 false (encI .u8) x] (.returned (.tuple #[.int .i64 r.1, .int .i64 r.2])) := by
  intro x r h
  unfold toInt at h
  intro W0
  refine PTo.of_body (fn := Try.f61) (code := cB Try.f61) Try.func61 rfl rfl ?_
  intro w0 S hS
  haveI := hS.noEx Try.prog
  refine H.sr 2 (by kernel_rfl) ?_
  refine H.seqP (by kernel_rfl) ?_
  refine H.blockI 0 (by kernel_rfl) ?_
  refine H.sg (by kernel_rfl) ?_
  refine HO.goP 1 (by kernel_rfl) ?_
  refine HO.len (by kernel_rfl) (by kernel_rfl) (ls_size (encI .u8) x) ?_
  refine HO.fin 2 (by kernel_rfl) ?_
  refine H.condS (b := decide ((x.length : Int) = 0)) (by kernel_rfl) (by kernel_rfl) (fun hb => ?_) (fun hb => ?_)
  · rw [if_pos (of_decide_eq_true hb)] at h
    refine H.sr 2 (by kernel_rfl) ?_
    refine H.retP (by kernel_rfl) ?_
    refine Kblock_ret ?_
    refine Kseq_ret ?_
    obtain rfl := Option.some.inj h
    exact KEnd.ret (by kernel_rfl) (by kernel_rfl) (by kernel_rfl)
  rw [if_neg (of_decide_eq_false hb)] at h
  refine H.sg (by kernel_rfl) ?_
  refine HO.goP 1 (by kernel_rfl) ?_
  refine HO.len (by kernel_rfl) (by kernel_rfl) (ls_size (encI .u8) x) ?_
  refine HO.goP 1 (by kernel_rfl) ?_
  refine HO.boolP (decide (1 < (x.length : Int))) (by kernel_rfl) (by kernel_rfl) (fun hb => ?_) (fun hb => ?_)
  rotate_left
  · rw [if_neg (of_decide_eq_false hb)] at h
    refine HO.fin 24 (by kernel_rfl) ?_
    exact H.ren hS [] _ _ _ (by kernel_rfl) (toInt_L1_ok (x, false) r h W0 w0 S hS)
  rw [if_pos (of_decide_eq_true hb)] at h
  refine HO.goP 1 (by kernel_rfl) ?_
  obtain ⟨y1, hy, h⟩ := bindS h
  refine HO.idx (.int .u8 y1) hy rfl (by kernel_rfl) ?_
  refine HO.goP 2 (by kernel_rfl) ?_
  refine HO.boolP (decide (y1 = 0)) (by kernel_rfl) (by kernel_rfl) (fun hb => ?_) (fun hb => ?_)
  rotate_left
  · rw [if_neg (of_decide_eq_false hb)] at h
    refine HO.goP 7 (by kernel_rfl) ?_
    obtain ⟨y5, hy, h⟩ := bindS h
    refine HO.idx (.int .u8 y5) hy rfl (by kernel_rfl) ?_
    refine HO.goP 2 (by kernel_rfl) ?_
    refine HO.boolP (decide (y5 = 255)) (by kernel_rfl) (by kernel_rfl) (fun hb => ?_) (fun hb => ?_)
    rotate_left
    · rw [if_neg (of_decide_eq_false hb)] at h
      refine HO.fin 8 (by kernel_rfl) ?_
      exact H.ren hS [] _ _ _ (by kernel_rfl) (toInt_L1_ok (x, false) r h W0 w0 S hS)
    rw [if_pos (of_decide_eq_true hb)] at h
    refine HO.goP 1 (by kernel_rfl) ?_
    obtain ⟨y6, hy, h⟩ := bindS h
    refine HO.idx (.int .u8 y6) hy rfl (by kernel_rfl) ?_
    refine HO.fin 6 (by kernel_rfl) ?_
    exact H.ren hS [] _ _ _ (by kernel_rfl) (toInt_L1_ok (x, (decide (128 ≤ y6))) r h W0 w0 S hS)
  rw [if_pos (of_decide_eq_true hb)] at h
  refine HO.goP 1 (by kernel_rfl) ?_
  obtain ⟨y2, hy, h⟩ := bindS h
  refine HO.idx (.int .u8 y2) hy rfl (by kernel_rfl) ?_
  refine HO.goP 3 (by kernel_rfl) ?_
  refine HO.boolP (decide (y2 < 128)) (by kernel_rfl) (by kernel_rfl) (fun hb => ?_) (fun hb => ?_)
  · rw [if_pos (of_decide_eq_true hb)] at h
    refine HO.fin 13 (by kernel_rfl) ?_
    exact H.ren hS [] _ _ _ (by kernel_rfl) (toInt_L1_ok (x, true) r h W0 w0 S hS)
  rw [if_neg (of_decide_eq_false hb)] at h
  refine HO.goP 1 (by kernel_rfl) ?_
  obtain ⟨y3, hy, h⟩ := bindS h
  refine HO.idx (.int .u8 y3) hy rfl (by kernel_rfl) ?_
  refine HO.goP 2 (by kernel_rfl) ?_
  refine HO.boolP (decide (y3 = 255)) (by kernel_rfl) (by kernel_rfl) (fun hb => ?_) (fun hb => ?_)
  rotate_left
  · rw [if_neg (of_decide_eq_false hb)] at h
    refine HO.fin 8 (by kernel_rfl) ?_
    exact H.ren hS [] _ _ _ (by kernel_rfl) (toInt_L1_ok (x, false) r h W0 w0 S hS)
  rw [if_pos (of_decide_eq_true hb)] at h
  refine HO.goP 1 (by kernel_rfl) ?_
  obtain ⟨y4, hy, h⟩ := bindS h
  refine HO.idx (.int .u8 y4) hy rfl (by kernel_rfl) ?_
  refine HO.fin 6 (by kernel_rfl) ?_
  exact H.ren hS [] _ _ _ (by kernel_rfl) (toInt_L1_ok (x, (decide (128 ≤ y4))) r h W0 w0 S hS)
def valueE_L2 (x : (List S78) × Int × Bool) : Option (Int × (List S78) × Bool) :=
  if x.2.2 = true then
    some (0, x.1, false)
  else
    (sub' x.1 1 (x.1.length : Int)) >>= fun y6 =>
    some (x.2.1, y6, true)
theorem valueE_L2_ok : ∀ (x : (List S78) × Int × Bool) (r : Int × (List S78) × Bool), valueE_L2 x = some r → ∀ (W0 w0 : World) (S : Own), Std W0 w0 S 0 → H Try.prog w0 S 59 (cR (cL (cR (cR (cR (cB Try.f58)))))) (mkS [(0, ls 5 false enc78 x.1), (9, .int .i64 x.2.1), (54, .bool x.2.2)] [] 0 []) (Kseq Try.prog w0 S 59 (cR (cR (cR (cR (cB Try.f58))))) (KEnd Try.prog Try.f58 (PEnd w0 S (.returned (.tuple #[.int .i64 r.1, ls 5 false enc78 r.2.1, .bool r.2.2]))))) := by
  intro x r h
  unfold valueE_L2 at h
  intro W0 w0 S hS
  haveI := hS.noEx Try.prog
  refine H.condS (b := x.2.2) (by kernel_rfl) (by kernel_rfl) (fun hb => ?_) (fun hb => ?_)
  · rw [if_pos hb] at h
    refine H.sr 4 (by kernel_rfl) ?_
    refine H.retP (by kernel_rfl) ?_
    refine Kseq_ret ?_
    obtain rfl := Option.some.inj h
    exact KEnd.retW (v := .tuple #[.int .i64 0, ls 5 false enc78 x.1, .bool false]) (.tuple [.keep, .list 5 false, .keep]) (by kernel_rfl) (by kernel_rfl) (by kernel_rfl) (by kernel_rfl)
  rw [if_neg (ne_true hb)] at h
  refine H.skipP (by kernel_rfl) ?_
  refine Kseq_norm ?_
  refine H.seqP (by kernel_rfl) ?_
  refine H.drawQ ?_
  refine HQ.goP 2 (by kernel_rfl) ?_
  obtain ⟨y6, hy, h⟩ := bindS h
  refine HQ.valA (sl1_aop (enc := enc78) (k := 5) (j := .i64) false hy (by kernel_rfl)) ?_
  refine HQ.goP 3 (by kernel_rfl) ?_
  refine HQ.calm (by kernel_rfl) (by kernel_rfl) (by kernel_rfl) (by kernel_rfl) ?_
  refine Kseq_norm ?_
  refine H.retP (by kernel_rfl) ?_
  obtain rfl := Option.some.inj h
  exact KEnd.retW (v := .tuple #[.int .i64 x.2.1, ls 5 false enc78 y6, .bool true]) (.tuple [.keep, .list 5 false, .keep]) (by kernel_rfl) (by kernel_rfl) (by kernel_rfl) (by kernel_rfl)
def valueE_L1 (x : (List S78) × Int × Bool) : Option (Int × (List S78) × Bool) :=
  if x.2.2 = true then
    some (0, x.1, false)
  else
    (at' x.1 0) >>= fun y4 =>
    (toInt y4.c3) >>= fun y5 =>
    if (!decide (y5.2 = 0)) = true then
      valueE_L2 (x.1, y5.1, true)
    else
      if y5.1 < 1 then
        valueE_L2 (x.1, y5.1, true)
      else
        valueE_L2 (x.1, y5.1, (decide (x.2.1 < y5.1)))
theorem valueE_L1_ok : ∀ (x : (List S78) × Int × Bool) (r : Int × (List S78) × Bool), valueE_L1 x = some r → ∀ (W0 w0 : World) (S : Own), Std W0 w0 S 0 → H Try.prog w0 S 59 (cR (cL (cR (cB Try.f58)))) (mkS [(0, ls 5 false enc78 x.1), (2, .int .i64 x.2.1), (34, .bool x.2.2)] [] 0 []) (Kseq Try.prog w0 S 59 (cR (cR (cB Try.f58))) (KEnd Try.prog Try.f58 (PEnd w0 S (.returned (.tuple #[.int .i64 r.1, ls 5 false enc78 r.2.1, .bool r.2.2]))))) := by
  intro x r h
  unfold valueE_L1 at h
  intro W0 w0 S hS
  haveI := hS.noEx Try.prog
  refine H.condS (b := x.2.2) (by kernel_rfl) (by kernel_rfl) (fun hb => ?_) (fun hb => ?_)
  · rw [if_pos hb] at h
    refine H.sr 4 (by kernel_rfl) ?_
    refine H.retP (by kernel_rfl) ?_
    refine Kseq_ret ?_
    obtain rfl := Option.some.inj h
    exact KEnd.retW (v := .tuple #[.int .i64 0, ls 5 false enc78 x.1, .bool false]) (.tuple [.keep, .list 5 false, .keep]) (by kernel_rfl) (by kernel_rfl) (by kernel_rfl) (by kernel_rfl)
  rw [if_neg (ne_true hb)] at h
  refine H.skipP (by kernel_rfl) ?_
  refine Kseq_norm ?_
  refine H.sg (by kernel_rfl) ?_
  refine HO.goP 1 (by kernel_rfl) ?_
  obtain ⟨y4, hy, h⟩ := bindS h
  refine HO.idx (.agg #[.int .u8 y4.c0, .int .u32 y4.c1, .bool y4.c2, ls 1 false (encI .u8) y4.c3, ls 5 false enc78 y4.c4]) hy (enc78_eq y4) (by kernel_rfl) ?_
  refine HO.goP 2 (by kernel_rfl) ?_
  obtain ⟨y5, hy, h⟩ := bindS h
  refine HO.callW hS [.list 1 false] (toInt_ok y4.c3 y5 hy W0) (by kernel_rfl) (by kernel_rfl) ?_
  refine HO.fin 5 (by kernel_rfl) ?_
  refine H.seqP (by kernel_rfl) ?_
  refine H.sg (by kernel_rfl) ?_
  refine HO.goP 2 (by kernel_rfl) ?_
  refine HO.boolP (!decide (y5.2 = 0)) (by kernel_rfl) (by kernel_rfl) (fun hb => ?_) (fun hb => ?_)
  · rw [if_pos hb] at h
    refine HO.fin 8 (by kernel_rfl) ?_
    exact H.ren hS [] _ _ _ (by kernel_rfl) (valueE_L2_ok (x.1, y5.1, true) r h W0 w0 S hS)
  rw [if_neg (ne_true hb)] at h
  refine HO.goP 3 (by kernel_rfl) ?_
  refine HO.boolP (decide (y5.1 < 1)) (by kernel_rfl) (by kernel_rfl) (fun hb => ?_) (fun hb => ?_)
  · rw [if_pos (of_decide_eq_true hb)] at h
    refine HO.fin 4 (by kernel_rfl) ?_
    exact H.ren hS [] _ _ _ (by kernel_rfl) (valueE_L2_ok (x.1, y5.1, true) r h W0 w0 S hS)
  rw [if_neg (of_decide_eq_false hb)] at h
  refine HO.fin 4 (by kernel_rfl) ?_
  exact H.ren hS [] _ _ _ (by kernel_rfl) (valueE_L2_ok (x.1, y5.1, (decide (x.2.1 < y5.1))) r h W0 w0 S hS)
def valueE (x : (List S78) × Int × Int) : Option (Int × (List S78) × Bool) :=
  if (x.1.length : Int) = 0 then
    valueE_L1 (x.1, x.2.2, true)
  else
    (at' x.1 0) >>= fun y1 =>
    if y1.c2 = true then
      valueE_L1 (x.1, x.2.2, true)
    else
      (at' x.1 0) >>= fun y2 =>
      if (!decide (y2.c0 = 2)) = true then
        valueE_L1 (x.1, x.2.2, true)
      else
        (at' x.1 0) >>= fun y3 =>
        valueE_L1 (x.1, x.2.2, (!decide (y3.c1 = x.2.1)))
theorem valueE_ok : ∀ (x : (List S78) × Int × Int) (r : Int × (List S78) × Bool), valueE x = some r → ∀ W0 : World, PTo Try.prog W0 58 #[ls 5 false enc78 x.1, .int .u32 x.2.1, .int .i64 x.2.2] (.returned (.tuple #[.int .i64 r.1, ls 5 false enc78 r.2.1, .bool r.2.2])) := by
  intro x r h
  unfold valueE at h
  intro W0
  refine PTo.of_body (fn := Try.f58) (code := cB Try.f58) Try.func58 rfl rfl ?_
  intro w0 S hS
  haveI := hS.noEx Try.prog
  refine H.sr 3 (by kernel_rfl) ?_
  refine H.seqP (by kernel_rfl) ?_
  refine H.sg (by kernel_rfl) ?_
  refine HO.goP 1 (by kernel_rfl) ?_
  refine HO.len (by kernel_rfl) (by kernel_rfl) (ls_size enc78 x.1) ?_
  refine HO.goP 1 (by kernel_rfl) ?_
  refine HO.boolP (decide ((x.1.length : Int) = 0)) (by kernel_rfl) (by kernel_rfl) (fun hb => ?_) (fun hb => ?_)
  · rw [if_pos (of_decide_eq_true hb)] at h
    refine HO.fin 20 (by kernel_rfl) ?_
    exact H.ren hS [] _ _ _ (by kernel_rfl) (valueE_L1_ok (x.1, x.2.2, true) r h W0 w0 S hS)
  rw [if_neg (of_decide_eq_false hb)] at h
  refine HO.goP 1 (by kernel_rfl) ?_
  obtain ⟨y1, hy, h⟩ := bindS h
  refine HO.idx (.agg #[.int .u8 y1.c0, .int .u32 y1.c1, .bool y1.c2, ls 1 false (encI .u8) y1.c3, ls 5 false enc78 y1.c4]) hy (enc78_eq y1) (by kernel_rfl) ?_
  refine HO.goP 3 (by kernel_rfl) ?_
  refine HO.boolP y1.c2 (by kernel_rfl) (by kernel_rfl) (fun hb => ?_) (fun hb => ?_)
  · rw [if_pos hb] at h
    refine HO.fin 14 (by kernel_rfl) ?_
    exact H.ren hS [] _ _ _ (by kernel_rfl) (valueE_L1_ok (x.1, x.2.2, true) r h W0 w0 S hS)
  rw [if_neg (ne_true hb)] at h
  refine HO.goP 1 (by kernel_rfl) ?_
  obtain ⟨y2, hy, h⟩ := bindS h
  refine HO.idx (.agg #[.int .u8 y2.c0, .int .u32 y2.c1, .bool y2.c2, ls 1 false (encI .u8) y2.c3, ls 5 false enc78 y2.c4]) hy (enc78_eq y2) (by kernel_rfl) ?_
  refine HO.goP 4 (by kernel_rfl) ?_
  refine HO.boolP (!decide (y2.c0 = 2)) (by kernel_rfl) (by kernel_rfl) (fun hb => ?_) (fun hb => ?_)
  · rw [if_pos hb] at h
    refine HO.fin 7 (by kernel_rfl) ?_
    exact H.ren hS [] _ _ _ (by kernel_rfl) (valueE_L1_ok (x.1, x.2.2, true) r h W0 w0 S hS)
  rw [if_neg (ne_true hb)] at h
  refine HO.goP 1 (by kernel_rfl) ?_
  obtain ⟨y3, hy, h⟩ := bindS h
  refine HO.idx (.agg #[.int .u8 y3.c0, .int .u32 y3.c1, .bool y3.c2, ls 1 false (encI .u8) y3.c3, ls 5 false enc78 y3.c4]) hy (enc78_eq y3) (by kernel_rfl) ?_
  refine HO.fin 5 (by kernel_rfl) ?_
  exact H.ren hS [] _ _ _ (by kernel_rfl) (valueE_L1_ok (x.1, x.2.2, (!decide (y3.c1 = x.2.1))) r h W0 w0 S hS)
def trDecode_L4 (x : Bool × Int × Int × Int × Int × (List Int)) : Option (Int × Int × Int × Int × (List Int) × Int) :=
  if x.1 = true then
    some (0, 0, 0, 0, [], 4)
  else
    some (x.2.1, x.2.2.1, x.2.2.2.1, x.2.2.2.2.1, x.2.2.2.2.2, 0)
theorem trDecode_L4_ok : ∀ (x : Bool × Int × Int × Int × Int × (List Int)) (r : Int × Int × Int × Int × (List Int) × Int), trDecode_L4 x = some r → ∀ (W0 w0 : World) (S : Own), Std W0 w0 S 0 → H Try.prog w0 S 121 (cR (cL (cR (cR (cR (cR (cR (cR (cR (cR (cR (cR (cR (cR (cR (cB Try.f33)))))))))))))))) (mkS [(2, .pointer (some ⟨0, 0, none⟩)), (6, .pointer (some ⟨1, 0, none⟩)), (118, .bool x.1)] [(0, .cells [.int .u8 0, .int .u32 0, .int .u32 0, .int .u8 0, .slice none 0 0] 46 5), (1, .cells [.int .u8 x.2.1, .int .u32 x.2.2.1, .int .u32 x.2.2.2.1, .int .u8 x.2.2.2.2.1, ls 1 true (encI .u8) x.2.2.2.2.2] 46 5)] 2 []) (Kseq Try.prog w0 S 121 (cR (cR (cR (cR (cR (cR (cR (cR (cR (cR (cR (cR (cR (cR (cB Try.f33))))))))))))))) (KEnd Try.prog Try.f33 (PEnd w0 S (.returned (.tuple #[.agg #[.int .u8 r.1, .int .u32 r.2.1, .int .u32 r.2.2.1, .int .u8 r.2.2.2.1, ls 1 false (encI .u8) r.2.2.2.2.1], .int .i64 r.2.2.2.2.2]))))) := by
  intro x r h
  unfold trDecode_L4 at h
  intro W0 w0 S hS
  haveI := hS.noEx Try.prog
  refine H.condS (b := x.1) (by kernel_rfl) (by kernel_rfl) (fun hb => ?_) (fun hb => ?_)
  · rw [if_pos hb] at h
    refine H.sr 3 (by kernel_rfl) ?_
    refine H.retP (by kernel_rfl) ?_
    refine Kseq_ret ?_
    obtain rfl := Option.some.inj h
    exact KEnd.retW (v := .tuple #[.agg #[.int .u8 0, .int .u32 0, .int .u32 0, .int .u8 0, .slice none 0 0], .int .i64 4]) (.tuple [.agg [.keep, .keep, .keep, .keep, .list 1 false], .keep]) (by kernel_rfl) (by kernel_rfl) (by kernel_rfl) (by kernel_rfl)
  rw [if_neg (ne_true hb)] at h
  refine H.skipP (by kernel_rfl) ?_
  refine Kseq_norm ?_
  refine H.sr 3 (by kernel_rfl) ?_
  refine H.retP (by kernel_rfl) ?_
  obtain rfl := Option.some.inj h
  exact KEnd.retW (v := .tuple #[.agg #[.int .u8 x.2.1, .int .u32 x.2.2.1, .int .u32 x.2.2.2.1, .int .u8 x.2.2.2.2.1, ls 1 true (encI .u8) x.2.2.2.2.2], .int .i64 0]) (.tuple [.agg [.keep, .keep, .keep, .keep, .list 1 false], .keep]) (by kernel_rfl) (by kernel_rfl) (by kernel_rfl) (by kernel_rfl)
def trDecode_L3 (x : (List S78) × Int × Int × Int × Int × (List Int)) : Option (Int × Int × Int × Int × (List Int) × Int) :=
  if 0 < (x.1.length : Int) then
    trDecode_L4 (true, x.2.1, x.2.2.1, x.2.2.2.1, x.2.2.2.2.1, x.2.2.2.2.2)
  else
    (trCheck (x.2.1, x.2.2.1, x.2.2.2.1, x.2.2.2.2.1, x.2.2.2.2.2)) >>= fun y11 =>
    trDecode_L4 ((!decide (y11 = 0)), x.2.1, x.2.2.1, x.2.2.2.1, x.2.2.2.2.1, x.2.2.2.2.2)
theorem trDecode_L3_ok : ∀ (x : (List S78) × Int × Int × Int × Int × (List Int)) (r : Int × Int × Int × Int × (List Int) × Int), trDecode_L3 x = some r → ∀ (W0 w0 : World) (S : Own), Std W0 w0 S 0 → H Try.prog w0 S 121 (cR (cR (cR (cR (cR (cR (cR (cR (cR (cR (cR (cR (cR (cB Try.f33)))))))))))))) (mkS [(2, .pointer (some ⟨0, 0, none⟩)), (6, .pointer (some ⟨1, 0, none⟩)), (7, ls 5 false enc78 x.1)] [(0, .cells [.int .u8 0, .int .u32 0, .int .u32 0, .int .u8 0, .slice none 0 0] 46 5), (1, .cells [.int .u8 x.2.1, .int .u32 x.2.2.1, .int .u32 x.2.2.2.1, .int .u8 x.2.2.2.2.1, ls 1 true (encI .u8) x.2.2.2.2.2] 46 5)] 2 []) (KEnd Try.prog Try.f33 (PEnd w0 S (.returned (.tuple #[.agg #[.int .u8 r.1, .int .u32 r.2.1, .int .u32 r.2.2.1, .int .u8 r.2.2.2.1, ls 1 false (encI .u8) r.2.2.2.2.1], .int .i64 r.2.2.2.2.2])))) := by
  intro x r h
  unfold trDecode_L3 at h
  intro W0 w0 S hS
  haveI := hS.noEx Try.prog
  refine H.seqP (by kernel_rfl) ?_
  refine H.sg (by kernel_rfl) ?_
  refine HO.goP 1 (by kernel_rfl) ?_
  refine HO.len (by kernel_rfl) (by kernel_rfl) (ls_size enc78 x.1) ?_
  refine HO.goP 1 (by kernel_rfl) ?_
  refine HO.boolP (decide (0 < (x.1.length : Int))) (by kernel_rfl) (by kernel_rfl) (fun hb => ?_) (fun hb => ?_)
  · rw [if_pos (of_decide_eq_true hb)] at h
    refine HO.fin 4 (by kernel_rfl) ?_
    exact H.ren hS [0, 1] _ _ _ (by kernel_rfl) (trDecode_L4_ok (true, x.2.1, x.2.2.1, x.2.2.2.1, x.2.2.2.2.1, x.2.2.2.2.2) r h W0 w0 S hS)
  rw [if_neg (of_decide_eq_false hb)] at h
  refine HO.goP 1 (by kernel_rfl) ?_
  obtain ⟨y11, hy, h⟩ := bindS h
  refine HO.callW hS [.agg [.keep, .keep, .keep, .keep, .list 1 false]] (trCheck_ok (x.2.1, x.2.2.1, x.2.2.2.1, x.2.2.2.2.1, x.2.2.2.2.2) y11 hy W0) (by kernel_rfl) (by kernel_rfl) ?_
  refine HO.fin 2 (by kernel_rfl) ?_
  exact H.ren hS [0, 1] _ _ _ (by kernel_rfl) (trDecode_L4_ok ((!decide (y11 = 0)), x.2.1, x.2.2.1, x.2.2.2.1, x.2.2.2.2.1, x.2.2.2.2.2) r h W0 w0 S hS)
def trDecode_L2 (x : (List S78) × Bool × Int × Int × Int × Int) : Option (Int × Int × Int × Int × (List Int) × Int) :=
  if x.2.1 = true then
    (at' x.1 0) >>= fun y8 =>
    (cloneS y8.c3) >>= fun y9 =>
    (clip y9) >>= fun y10 =>
    trDecode_L3 ([], x.2.2.1, x.2.2.2.1, x.2.2.2.2.1, x.2.2.2.2.2, y10)
  else
    if (!decide (x.2.2.1 = 4)) = true then
      some (0, 0, 0, 0, [], 4)
    else
      trDecode_L3 (x.1, x.2.2.1, x.2.2.2.1, x.2.2.2.2.1, x.2.2.2.2.2, [])
theorem trDecode_L2_ok : ∀ (x : (List S78) × Bool × Int × Int × Int × Int) (r : Int × Int × Int × Int × (List Int) × Int), trDecode_L2 x = some r → ∀ (W0 w0 : World) (S : Own), Std W0 w0 S 0 → H Try.prog w0 S 121 (cR (cL (cR (cR (cR (cR (cR (cR (cR (cR (cR (cR (cR (cR (cB Try.f33))))))))))))))) (mkS [(2, .pointer (some ⟨0, 0, none⟩)), (6, .pointer (some ⟨1, 0, none⟩)), (7, ls 5 false enc78 x.1), (99, .bool x.2.1)] [(0, .cells [.int .u8 0, .int .u32 0, .int .u32 0, .int .u8 0, .slice none 0 0] 46 5), (1, .cells [.int .u8 x.2.2.1, .int .u32 x.2.2.2.1, .int .u32 x.2.2.2.2.1, .int .u8 x.2.2.2.2.2, .slice none 0 0] 46 5)] 2 []) (Kseq Try.prog w0 S 121 (cR (cR (cR (cR (cR (cR (cR (cR (cR (cR (cR (cR (cR (cB Try.f33)))))))))))))) (KEnd Try.prog Try.f33 (PEnd w0 S (.returned (.tuple #[.agg #[.int .u8 r.1, .int .u32 r.2.1, .int .u32 r.2.2.1, .int .u8 r.2.2.2.1, ls 1 false (encI .u8) r.2.2.2.2.1], .int .i64 r.2.2.2.2.2]))))) := by
  intro x r h
  unfold trDecode_L2 at h
  intro W0 w0 S hS
  haveI := hS.noEx Try.prog
  refine H.condS (b := x.2.1) (by kernel_rfl) (by kernel_rfl) (fun hb => ?_) (fun hb => ?_)
  · rw [if_pos hb] at h
    refine H.sg (by kernel_rfl) ?_
    refine HO.goP 1 (by kernel_rfl) ?_
    obtain ⟨y8, hy, h⟩ := bindS h
    refine HO.idx (.agg #[.int .u8 y8.c0, .int .u32 y8.c1, .bool y8.c2, ls 1 false (encI .u8) y8.c3, ls 5 false enc78 y8.c4]) hy (enc78_eq y8) (by kernel_rfl) ?_
    refine HO.goP 2 (by kernel_rfl) ?_
    obtain ⟨y9, hy, h⟩ := bindS h
    refine HO.callW hS [.list 1 false] (cloneS_ok y8.c3 y9 hy W0) (by kernel_rfl) (by kernel_rfl) ?_
    obtain ⟨y10, hy, h⟩ := bindS h
    refine HO.callW hS [.list 1 false] (clip_ok y9 y10 hy W0) (by kernel_rfl) (by kernel_rfl) ?_
    refine HO.fin 2 (by kernel_rfl) ?_
    refine H.regP (by kernel_rfl) ?_
    refine HO.fin 1 (by kernel_rfl) ?_
    refine H.wk 7 (.list 5 false) (v' := ls 5 false enc78 []) (by kernel_rfl) ?_
    exact H.ren hS [0, 1] _ _ _ (by kernel_rfl) (trDecode_L3_ok ([], x.2.2.1, x.2.2.2.1, x.2.2.2.2.1, x.2.2.2.2.2, y10) r h W0 w0 S hS)
  rw [if_neg (ne_true hb)] at h
  refine H.sr 3 (by kernel_rfl) ?_
  refine H.condS (b := !decide (x.2.2.1 = 4)) (by kernel_rfl) (by kernel_rfl) (fun hb => ?_) (fun hb => ?_)
  rotate_left
  · rw [if_neg (ne_true hb)] at h
    refine H.skipP (by kernel_rfl) ?_
    refine Kseq_norm ?_
    refine H.wkc 1 46 5 4 [.int .u8 x.2.2.1, .int .u32 x.2.2.2.1, .int .u32 x.2.2.2.2.1, .int .u8 x.2.2.2.2.2, .slice none 0 0] (.slice none 0 0) (ls 1 true (encI .u8) []) (.list 1 true) (by kernel_rfl) ?_
    exact H.ren hS [0, 1] _ _ _ (by kernel_rfl) (trDecode_L3_ok (x.1, x.2.2.1, x.2.2.2.1, x.2.2.2.2.1, x.2.2.2.2.2, []) r h W0 w0 S hS)
  rw [if_pos hb] at h
  refine H.sr 3 (by kernel_rfl) ?_
  refine H.retP (by kernel_rfl) ?_
  refine Kseq_ret ?_
  obtain rfl := Option.some.inj h
  exact KEnd.retW (v := .tuple #[.agg #[.int .u8 0, .int .u32 0, .int .u32 0, .int .u8 0, .slice none 0 0], .int .i64 4]) (.tuple [.agg [.keep, .keep, .keep, .keep, .list 1 false], .keep]) (by kernel_rfl) (by kernel_rfl) (by kernel_rfl) (by kernel_rfl)
def trDecode_L1 (x : Bool × Int × Int × Bool × (List Int) × (List S78)) : Option (Int × Int × Int × Int × (List Int) × Int) :=
  if x.1 = true then
    some (0, 0, 0, 0, [], 4)
  else
    (valueE (x.2.2.2.2.2, 0, 4294967295)) >>= fun y2 =>
    (valueE (y2.2.1, 1, 4294967295)) >>= fun y3 =>
    (valueE (y3.2.1, 2, 255)) >>= fun y4 =>
    if (!decide ((IntKind.u8.wrap x.2.2.1) = 4)) = true then
      if (y4.2.1.length : Int) = 1 then
        (at' y4.2.1 0) >>= fun y5 =>
        if (!y5.c2) = true then
          (at' y4.2.1 0) >>= fun y6 =>
          if y6.c0 = 2 then
            (at' y4.2.1 0) >>= fun y7 =>
            trDecode_L2 (y4.2.1, (decide (y7.c1 = 3)), (IntKind.u8.wrap x.2.2.1), (IntKind.u32.wrap y2.1), (IntKind.u32.wrap y3.1), (IntKind.u8.wrap y4.1))
          else
            trDecode_L2 (y4.2.1, false, (IntKind.u8.wrap x.2.2.1), (IntKind.u32.wrap y2.1), (IntKind.u32.wrap y3.1), (IntKind.u8.wrap y4.1))
        else
          trDecode_L2 (y4.2.1, false, (IntKind.u8.wrap x.2.2.1), (IntKind.u32.wrap y2.1), (IntKind.u32.wrap y3.1), (IntKind.u8.wrap y4.1))
      else
        trDecode_L2 (y4.2.1, false, (IntKind.u8.wrap x.2.2.1), (IntKind.u32.wrap y2.1), (IntKind.u32.wrap y3.1), (IntKind.u8.wrap y4.1))
    else
      trDecode_L2 (y4.2.1, false, (IntKind.u8.wrap x.2.2.1), (IntKind.u32.wrap y2.1), (IntKind.u32.wrap y3.1), (IntKind.u8.wrap y4.1))
theorem trDecode_L1_ok : ∀ (x : Bool × Int × Int × Bool × (List Int) × (List S78)) (r : Int × Int × Int × Int × (List Int) × Int), trDecode_L1 x = some r → ∀ (W0 w0 : World) (S : Own), Std W0 w0 S 0 → H Try.prog w0 S 121 (cR (cL (cR (cR (cR (cB Try.f33)))))) (mkS [(2, .pointer (some ⟨0, 0, none⟩)), (4, .pointer (some ⟨1, 0, none⟩)), (36, .bool x.1)] [(0, .cells [.int .u8 0, .int .u32 0, .int .u32 0, .int .u8 0, .slice none 0 0] 46 5), (1, .cells [.int .u8 x.2.1, .int .u32 x.2.2.1, .bool x.2.2.2.1, ls 1 false (encI .u8) x.2.2.2.2.1, ls 5 false enc78 x.2.2.2.2.2] 78 5)] 2 []) (Kseq Try.prog w0 S 121 (cR (cR (cR (cR (cB Try.f33))))) (KEnd Try.prog Try.f33 (PEnd w0 S (.returned (.tuple #[.agg #[.int .u8 r.1, .int .u32 r.2.1, .int .u32 r.2.2.1, .int .u8 r.2.2.2.1, ls 1 false (encI .u8) r.2.2.2.2.1], .int .i64 r.2.2.2.2.2]))))) := by
  intro x r h
  unfold trDecode_L1 at h
  intro W0 w0 S hS
  haveI := hS.noEx Try.prog
  refine H.condS (b := x.1) (by kernel_rfl) (by kernel_rfl) (fun hb => ?_) (fun hb => ?_)
  · rw [if_pos hb] at h
    refine H.sr 3 (by kernel_rfl) ?_
    refine H.retP (by kernel_rfl) ?_
    refine Kseq_ret ?_
    obtain rfl := Option.some.inj h
    exact KEnd.retW (v := .tuple #[.agg #[.int .u8 0, .int .u32 0, .int .u32 0, .int .u8 0, .slice none 0 0], .int .i64 4]) (.tuple [.agg [.keep, .keep, .keep, .keep, .list 1 false], .keep]) (by kernel_rfl) (by kernel_rfl) (by kernel_rfl) (by kernel_rfl)
  rw [if_neg (ne_true hb)] at h
  refine H.skipP (by kernel_rfl) ?_
  refine Kseq_norm ?_
  refine H.sr 6 (by kernel_rfl) ?_
  refine H.sr 3 (by kernel_rfl) ?_
  refine H.sg (by kernel_rfl) ?_
  refine HO.goP 1 (by kernel_rfl) ?_
  obtain ⟨y2, hy, h⟩ := bindS h
  refine HO.callW hS [.list 5 false, .keep, .keep] (valueE_ok (x.2.2.2.2.2, 0, 4294967295) y2 hy W0) (by kernel_rfl) (by kernel_rfl) ?_
  refine HO.fin 7 (by kernel_rfl) ?_
  refine H.sr 4 (by kernel_rfl) ?_
  refine H.sg (by kernel_rfl) ?_
  refine HO.goP 1 (by kernel_rfl) ?_
  obtain ⟨y3, hy, h⟩ := bindS h
  refine HO.callW hS [.list 5 false, .keep, .keep] (valueE_ok (y2.2.1, 1, 4294967295) y3 hy W0) (by kernel_rfl) (by kernel_rfl) ?_
  refine HO.fin 6 (by kernel_rfl) ?_
  refine H.sr 4 (by kernel_rfl) ?_
  refine H.sg (by kernel_rfl) ?_
  refine HO.goP 1 (by kernel_rfl) ?_
  obtain ⟨y4, hy, h⟩ := bindS h
  refine HO.callW hS [.list 5 false, .keep, .keep] (valueE_ok (y3.2.1, 2, 255) y4 hy W0) (by kernel_rfl) (by kernel_rfl) ?_
  refine HO.fin 6 (by kernel_rfl) ?_
  refine H.sr 4 (by kernel_rfl) ?_
  refine H.seqP (by kernel_rfl) ?_
  refine H.sg (by kernel_rfl) ?_
  refine HO.goP 3 (by kernel_rfl) ?_
  refine HO.boolP (!decide ((IntKind.u8.wrap x.2.2.1) = 4)) (by kernel_rfl) (by kernel_rfl) (fun hb => ?_) (fun hb => ?_)
  rotate_left
  · rw [if_neg (ne_true hb)] at h
    refine HO.fin 25 (by kernel_rfl) ?_
    exact H.ren hS [0, 2] _ _ _ (by kernel_rfl) (trDecode_L2_ok (y4.2.1, false, (IntKind.u8.wrap x.2.2.1), (IntKind.u32.wrap y2.1), (IntKind.u32.wrap y3.1), (IntKind.u8.wrap y4.1)) r h W0 w0 S hS)
  rw [if_pos hb] at h
  refine HO.goP 1 (by kernel_rfl) ?_
  refine HO.len (by kernel_rfl) (by kernel_rfl) (ls_size enc78 y4.2.1) ?_
  refine HO.goP 2 (by kernel_rfl) ?_
  refine HO.boolP (decide ((y4.2.1.length : Int) = 1)) (by kernel_rfl) (by kernel_rfl) (fun hb => ?_) (fun hb => ?_)
  rotate_left
  · rw [if_neg (of_decide_eq_false hb)] at h
    refine HO.fin 20 (by kernel_rfl) ?_
    exact H.ren hS [0, 2] _ _ _ (by kernel_rfl) (trDecode_L2_ok (y4.2.1, false, (IntKind.u8.wrap x.2.2.1), (IntKind.u32.wrap y2.1), (IntKind.u32.wrap y3.1), (IntKind.u8.wrap y4.1)) r h W0 w0 S hS)
  rw [if_pos (of_decide_eq_true hb)] at h
  refine HO.goP 1 (by kernel_rfl) ?_
  obtain ⟨y5, hy, h⟩ := bindS h
  refine HO.idx (.agg #[.int .u8 y5.c0, .int .u32 y5.c1, .bool y5.c2, ls 1 false (encI .u8) y5.c3, ls 5 false enc78 y5.c4]) hy (enc78_eq y5) (by kernel_rfl) ?_
  refine HO.goP 4 (by kernel_rfl) ?_
  refine HO.boolP (!y5.c2) (by kernel_rfl) (by kernel_rfl) (fun hb => ?_) (fun hb => ?_)
  rotate_left
  · rw [if_neg (ne_true hb)] at h
    refine HO.fin 13 (by kernel_rfl) ?_
    exact H.ren hS [0, 2] _ _ _ (by kernel_rfl) (trDecode_L2_ok (y4.2.1, false, (IntKind.u8.wrap x.2.2.1), (IntKind.u32.wrap y2.1), (IntKind.u32.wrap y3.1), (IntKind.u8.wrap y4.1)) r h W0 w0 S hS)
  rw [if_pos hb] at h
  refine HO.goP 1 (by kernel_rfl) ?_
  obtain ⟨y6, hy, h⟩ := bindS h
  refine HO.idx (.agg #[.int .u8 y6.c0, .int .u32 y6.c1, .bool y6.c2, ls 1 false (encI .u8) y6.c3, ls 5 false enc78 y6.c4]) hy (enc78_eq y6) (by kernel_rfl) ?_
  refine HO.goP 4 (by kernel_rfl) ?_
  refine HO.boolP (decide (y6.c0 = 2)) (by kernel_rfl) (by kernel_rfl) (fun hb => ?_) (fun hb => ?_)
  rotate_left
  · rw [if_neg (of_decide_eq_false hb)] at h
    refine HO.fin 6 (by kernel_rfl) ?_
    exact H.ren hS [0, 2] _ _ _ (by kernel_rfl) (trDecode_L2_ok (y4.2.1, false, (IntKind.u8.wrap x.2.2.1), (IntKind.u32.wrap y2.1), (IntKind.u32.wrap y3.1), (IntKind.u8.wrap y4.1)) r h W0 w0 S hS)
  rw [if_pos (of_decide_eq_true hb)] at h
  refine HO.goP 1 (by kernel_rfl) ?_
  obtain ⟨y7, hy, h⟩ := bindS h
  refine HO.idx (.agg #[.int .u8 y7.c0, .int .u32 y7.c1, .bool y7.c2, ls 1 false (encI .u8) y7.c3, ls 5 false enc78 y7.c4]) hy (enc78_eq y7) (by kernel_rfl) ?_
  refine HO.fin 4 (by kernel_rfl) ?_
  exact H.ren hS [0, 2] _ _ _ (by kernel_rfl) (trDecode_L2_ok (y4.2.1, (decide (y7.c1 = 3)), (IntKind.u8.wrap x.2.2.1), (IntKind.u32.wrap y2.1), (IntKind.u32.wrap y3.1), (IntKind.u8.wrap y4.1)) r h W0 w0 S hS)
end Vf
