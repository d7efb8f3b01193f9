import Derived.Test.YtcokmnpgeokfpaaDoorVfWb
set_option linter.unusedVariables false
set_option linter.unusedSimpArgs false
set_option maxHeartbeats 4000000
namespace Vf
open Go Go.Vx Go.Proofs
def next (x : (List Int) × Int) : Option (Except Int (Int × (List Int) × Int)) :=
  (take (1, x.1, x.2)) >>= fun y1 =>
  match y1 with
  | .error y1 =>
    some (.error y1)
  | .ok y1 =>
    (at' y1.1 0) >>= fun y2 =>
    some (.ok (y2, y1.2.1, y1.2.2))
theorem next_ok : ∀ (x : (List Int) × Int) (r : Except Int (Int × (List Int) × Int)), next x = some r → ∀ W0 : World, FTo Tryd.prog W0 82 #[.pointer (some ⟨0, 0, none⟩)] (mkW 1 [] [(0, .cells [ls 1 false (encI .u8) x.1, .int .i64 x.2] 121 2)]) (match r with | .ok r => .returned (.int .u8 r.1) | .error e => panE (.iface 25 (.int .i64 e))) (match r with | .ok r => (mkW 1 [] [(0, .cells [ls 1 false (encI .u8) r.2.1, .int .i64 r.2.2] 121 2)]) | .error _ => (mkW 1 [] [])) := by
  intro x r h
  unfold next at h
  intro W0
  refine FTo.of_body (fn := Tryd.f82) (code := cB Tryd.f82) Tryd.func82 rfl rfl ?_
  intro w0 S hS
  haveI := hS.noEx Tryd.prog
  refine H.sr' 1 ?_
  refine H.sg' ?_
  refine HO.go' 1 ?_
  obtain ⟨y1, hy, h⟩ := bindS h
  rcases y1 with y1 | y1
  · dsimp only at h
    refine HO.panFW hS 1 [] [] [0] [.keep, .keep] (take_ok (1, x.1, x.2) (.error y1) hy W0) (by kernel_rfl) (by kernel_rfl) ?_
    refine Kseq_pan ?_
    obtain rfl := Option.some.inj h
    exact KEnd.ofPan (by kernel_rfl) (FEnd.pan hS [0] [] [] (by kernel_rfl))
  dsimp only at h
  refine HO.callFW hS (ls 1 false (encI .u8) y1.1) 1 [] [(0, .cells [ls 1 false (encI .u8) y1.2.1, .int .i64 y1.2.2] 121 2)] [0] [.keep, .keep] (take_ok (1, x.1, x.2) (.ok y1) hy W0) (by kernel_rfl) (by kernel_rfl) ?_
  obtain ⟨y2, hy, h⟩ := bindS h
  refine HO.idx (.int .u8 y2) hy rfl (by kernel_rfl) ?_
  refine HO.fin' 2 ?_
  refine H.ret' ?_
  obtain rfl := Option.some.inj h
  exact KEnd.of (v := .int .u8 y2) (by kernel_rfl) (by kernel_rfl) (FEnd.ren hS [0] _ _ (by kernel_rfl))
mutual
def numberT_L2 (x : Int × Int × (List Int) × Int) : Option (Except Int (Int × (List Int) × Int)) :=
  (must ((decide ((bOr .u32 (shlI .u32 x.1 7) (IntKind.u32.wrap (bAnd .u8 x.2.1 127))) ≤ 2097151)), 3)) >>= fun y4 =>
  match y4 with
  | .error y4 =>
    some (.error y4)
  | .ok y4 =>
    if x.2.1 < 128 then
      (must ((decide (31 ≤ (bOr .u32 (shlI .u32 x.1 7) (IntKind.u32.wrap (bAnd .u8 x.2.1 127))))), 4)) >>= fun y5 =>
      match y5 with
      | .error y5 =>
        some (.error y5)
      | .ok y5 =>
        some (.ok ((bOr .u32 (shlI .u32 x.1 7) (IntKind.u32.wrap (bAnd .u8 x.2.1 127))), x.2.2.1, x.2.2.2))
    else
      numberT_L1 ((bOr .u32 (shlI .u32 x.1 7) (IntKind.u32.wrap (bAnd .u8 x.2.1 127))), false, x.2.2.1, x.2.2.2)
partial_fixpoint
def numberT_L1 (x : Int × Bool × (List Int) × Int) : Option (Except Int (Int × (List Int) × Int)) :=
  (next (x.2.2.1, x.2.2.2)) >>= fun y1 =>
  match y1 with
  | .error y1 =>
    some (.error y1)
  | .ok y1 =>
    if (!x.2.1) = true then
      (must (true, 4)) >>= fun y2 =>
      match y2 with
      | .error y2 =>
        some (.error y2)
      | .ok y2 =>
        numberT_L2 (x.1, y1.1, y1.2.1, y1.2.2)
    else
      (must ((!decide (y1.1 = 128)), 4)) >>= fun y3 =>
      match y3 with
      | .error y3 =>
        some (.error y3)
      | .ok y3 =>
        numberT_L2 (x.1, y1.1, y1.2.1, y1.2.2)
partial_fixpoint
end
theorem numberT_L2_grp : (∀ (x : Int × Int × (List Int) × Int) (r : Except Int (Int × (List Int) × Int)), numberT_L2 x = some r → ∀ (W0 w0 : World) (S : Own), Std W0 w0 S 1 → H Tryd.prog w0 S 32 (cR (cR (cL (cL (cL (cL (cR (cR (cR (cB Tryd.f83)))))))))) (mkS [(0, .pointer (some ⟨0, 0, none⟩)), (3, .int .u32 x.1), (5, .int .u8 x.2.1)] [(0, .cells [ls 1 false (encI .u8) x.2.2.1, .int .i64 x.2.2.2] 121 2)] 1 []) (Kblock 1 (Kseq Tryd.prog w0 S 32 (cR (cL (cL (cR (cR (cR (cB Tryd.f83))))))) (Kloop Tryd.prog w0 S 32 (cL (cL (cR (cR (cR (cB Tryd.f83)))))) (Kblock 0 (KEnd Tryd.prog Tryd.f83 (FEnd w0 S (match r with | .ok r => .returned (.int .u32 r.1) | .error e => panE (.iface 25 (.int .i64 e))) (match r with | .ok r => (mkW 1 [] [(0, .cells [ls 1 false (encI .u8) r.2.1, .int .i64 r.2.2] 121 2)]) | .error _ => (mkW 1 [] []))))))))) ∧
  (∀ (x : Int × Bool × (List Int) × Int) (r : Except Int (Int × (List Int) × Int)), numberT_L1 x = some r → ∀ (W0 w0 : World) (S : Own), Std W0 w0 S 1 → HL Tryd.prog w0 S 32 (cL (cL (cR (cR (cR (cB Tryd.f83)))))) (mkS [(0, .pointer (some ⟨0, 0, none⟩)), (3, .int .u32 x.1), (4, .bool x.2.1)] [(0, .cells [ls 1 false (encI .u8) x.2.2.1, .int .i64 x.2.2.2] 121 2)] 1 []) (Kblock 0 (KEnd Tryd.prog Tryd.f83 (FEnd w0 S (match r with | .ok r => .returned (.int .u32 r.1) | .error e => panE (.iface 25 (.int .i64 e))) (match r with | .ok r => (mkW 1 [] [(0, .cells [ls 1 false (encI .u8) r.2.1, .int .i64 r.2.2] 121 2)]) | .error _ => (mkW 1 [] [])))))) := by
  refine numberT_L2.mutual_partial_correctness (fun (x : Int × Int × (List Int) × Int) (r : Except Int (Int × (List Int) × Int)) => ∀ (W0 w0 : World) (S : Own), Std W0 w0 S 1 → H Tryd.prog w0 S 32 (cR (cR (cL (cL (cL (cL (cR (cR (cR (cB Tryd.f83)))))))))) (mkS [(0, .pointer (some ⟨0, 0, none⟩)), (3, .int .u32 x.1), (5, .int .u8 x.2.1)] [(0, .cells [ls 1 false (encI .u8) x.2.2.1, .int .i64 x.2.2.2] 121 2)] 1 []) (Kblock 1 (Kseq Tryd.prog w0 S 32 (cR (cL (cL (cR (cR (cR (cB Tryd.f83))))))) (Kloop Tryd.prog w0 S 32 (cL (cL (cR (cR (cR (cB Tryd.f83)))))) (Kblock 0 (KEnd Tryd.prog Tryd.f83 (FEnd w0 S (match r with | .ok r => .returned (.int .u32 r.1) | .error e => panE (.iface 25 (.int .i64 e))) (match r with | .ok r => (mkW 1 [] [(0, .cells [ls 1 false (encI .u8) r.2.1, .int .i64 r.2.2] 121 2)]) | .error _ => (mkW 1 [] []))))))))) (fun (x : Int × Bool × (List Int) × Int) (r : Except Int (Int × (List Int) × Int)) => ∀ (W0 w0 : World) (S : Own), Std W0 w0 S 1 → HL Tryd.prog w0 S 32 (cL (cL (cR (cR (cR (cB Tryd.f83)))))) (mkS [(0, .pointer (some ⟨0, 0, none⟩)), (3, .int .u32 x.1), (4, .bool x.2.1)] [(0, .cells [ls 1 false (encI .u8) x.2.2.1, .int .i64 x.2.2.2] 121 2)] 1 []) (Kblock 0 (KEnd Tryd.prog Tryd.f83 (FEnd w0 S (match r with | .ok r => .returned (.int .u32 r.1) | .error e => panE (.iface 25 (.int .i64 e))) (match r with | .ok r => (mkW 1 [] [(0, .cells [ls 1 false (encI .u8) r.2.1, .int .i64 r.2.2] 121 2)]) | .error _ => (mkW 1 [] [])))))) ?_ ?_
  · intro g_numberT_L1 ih_numberT_L1 x r h
    intro W0 w0 S hS
    haveI := hS.noEx Tryd.prog
    refine H.sr' 7 ?_
    refine H.sg' ?_
    refine HO.go' 2 ?_
    obtain ⟨y4, hy, h⟩ := bindS h
    rcases y4 with y4 | y4
    · dsimp only at h
      refine HO.panW hS [.keep, .keep] (must_ok ((decide ((bOr .u32 (shlI .u32 x.1 7) (IntKind.u32.wrap (bAnd .u8 x.2.1 127))) ≤ 2097151)), 3) (.error y4) hy W0) (by kernel_rfl) (by kernel_rfl) ?_
      refine Kseq_pan ?_
      refine Kblock_pan ?_
      refine Kseq_pan ?_
      refine Kloop_pan ?_
      refine Kblock_pan ?_
      obtain rfl := Option.some.inj h
      exact KEnd.ofPan (by kernel_rfl) (FEnd.pan hS [0] [] [] (by kernel_rfl))
    dsimp only at h
    refine HO.callW hS [.keep, .keep] (must_ok ((decide ((bOr .u32 (shlI .u32 x.1 7) (IntKind.u32.wrap (bAnd .u8 x.2.1 127))) ≤ 2097151)), 3) (.ok y4) hy W0) (by kernel_rfl) (by kernel_rfl) ?_
    refine HO.fin' 0 ?_
    refine H.sr' 2 ?_
    refine H.cS' (decide (x.2.1 < 128)) (fun hb => ?_) (fun hb => ?_)
    rotate_left
    · rw [if_neg (of_decide_eq_false hb)] at h
      refine H.skp' ?_
      refine Kblock_norm ?_
      refine Kseq_norm ?_
      refine H.reg' ?_
      refine HO.go' 1 ?_
      refine HO.end' ?_
      refine Kloop_norm ?_
      exact HL.ren' hS [0] (ih_numberT_L1 ((bOr .u32 (shlI .u32 x.1 7) (IntKind.u32.wrap (bAnd .u8 x.2.1 127))), false, x.2.2.1, x.2.2.2) r h W0 w0 S hS)
    rw [if_pos (of_decide_eq_true hb)] at h
    refine H.sg' ?_
    refine HO.go' 2 ?_
    obtain ⟨y5, hy, h⟩ := bindS h
    rcases y5 with y5 | y5
    · dsimp only at h
      refine HO.panW hS [.keep, .keep] (must_ok ((decide (31 ≤ (bOr .u32 (shlI .u32 x.1 7) (IntKind.u32.wrap (bAnd .u8 x.2.1 127))))), 4) (.error y5) hy W0) (by kernel_rfl) (by kernel_rfl) ?_
      refine Kseq_pan ?_
      refine Kblock_pan ?_
      refine Kseq_pan ?_
      refine Kloop_pan ?_
      refine Kblock_pan ?_
      obtain rfl := Option.some.inj h
      exact KEnd.ofPan (by kernel_rfl) (FEnd.pan hS [0] [] [] (by kernel_rfl))
    dsimp only at h
    refine HO.callW hS [.keep, .keep] (must_ok ((decide (31 ≤ (bOr .u32 (shlI .u32 x.1 7) (IntKind.u32.wrap (bAnd .u8 x.2.1 127))))), 4) (.ok y5) hy W0) (by kernel_rfl) (by kernel_rfl) ?_
    refine HO.fin' 0 ?_
    refine H.sr' 2 ?_
    refine H.ret' ?_
    refine Kblock_ret ?_
    refine Kseq_ret ?_
    refine Kloop_ret ?_
    refine Kblock_ret ?_
    obtain rfl := Option.some.inj h
    exact KEnd.of (v := .int .u32 (bOr .u32 (shlI .u32 x.1 7) (IntKind.u32.wrap (bAnd .u8 x.2.1 127)))) (by kernel_rfl) (by kernel_rfl) (FEnd.ren hS [0] _ _ (by kernel_rfl))
  · intro g_numberT_L2 ih_numberT_L2 x r h
    intro W0 w0 S hS
    haveI := hS.noEx Tryd.prog
    refine HL.round ?_
    refine H.seq' ?_
    refine H.blk' 1 ?_
    refine H.sg' ?_
    refine HO.go' 3 ?_
    obtain ⟨y1, hy, h⟩ := bindS h
    rcases y1 with y1 | y1
    · dsimp only at h
      refine HO.panFW hS 1 [] [] [0] [.keep] (next_ok (x.2.2.1, x.2.2.2) (.error y1) hy W0) (by kernel_rfl) (by kernel_rfl) ?_
      refine Kseq_pan ?_
      refine Kblock_pan ?_
      refine Kseq_pan ?_
      refine Kloop_pan ?_
      refine Kblock_pan ?_
      obtain rfl := Option.some.inj h
      exact KEnd.ofPan (by kernel_rfl) (FEnd.pan hS [0] [] [] (by kernel_rfl))
    dsimp only at h
    refine HO.callFW hS (.int .u8 y1.1) 1 [] [(0, .cells [ls 1 false (encI .u8) y1.2.1, .int .i64 y1.2.2] 121 2)] [0] [.keep] (next_ok (x.2.2.1, x.2.2.2) (.ok y1) hy W0) (by kernel_rfl) (by kernel_rfl) ?_
    refine HO.fin' 1 ?_
    refine H.sg' ?_
    refine HO.go' 2 ?_
    refine HO.bo' (!x.2.1) (fun hb => ?_) (fun hb => ?_)
    · rw [if_pos hb] at h
      refine HO.go' 3 ?_
      obtain ⟨y2, hy, h⟩ := bindS h
      rcases y2 with y2 | y2
      rotate_left
      · dsimp only at h
        refine HO.callW hS [.keep, .keep] (must_ok (true, 4) (.ok y2) hy W0) (by kernel_rfl) (by kernel_rfl) ?_
        refine HO.fin' 0 ?_
        exact H.ren' hS [0] (ih_numberT_L2 (x.1, y1.1, y1.2.1, y1.2.2) r h W0 w0 S hS)
      dsimp only at h
      refine HO.panW hS [.keep, .keep] (must_ok (true, 4) (.error y2) hy W0) (by kernel_rfl) (by kernel_rfl) ?_
      refine Kseq_pan ?_
      refine Kblock_pan ?_
      refine Kseq_pan ?_
      refine Kloop_pan ?_
      refine Kblock_pan ?_
      obtain rfl := Option.some.inj h
      exact KEnd.ofPan (by kernel_rfl) (FEnd.pan hS [0] [] [] (by kernel_rfl))
    rw [if_neg (ne_true hb)] at h
    refine HO.go' 3 ?_
    obtain ⟨y3, hy, h⟩ := bindS h
    rcases y3 with y3 | y3
    rotate_left
    · dsimp only at h
      refine HO.callW hS [.keep, .keep] (must_ok ((!decide (y1.1 = 128)), 4) (.ok y3) hy W0) (by kernel_rfl) (by kernel_rfl) ?_
      refine HO.fin' 0 ?_
      exact H.ren' hS [0] (ih_numberT_L2 (x.1, y1.1, y1.2.1, y1.2.2) r h W0 w0 S hS)
    dsimp only at h
    refine HO.panW hS [.keep, .keep] (must_ok ((!decide (y1.1 = 128)), 4) (.error y3) hy W0) (by kernel_rfl) (by kernel_rfl) ?_
    refine Kseq_pan ?_
    refine Kblock_pan ?_
    refine Kseq_pan ?_
    refine Kloop_pan ?_
    refine Kblock_pan ?_
    obtain rfl := Option.some.inj h
    exact KEnd.ofPan (by kernel_rfl) (FEnd.pan hS [0] [] [] (by kernel_rfl))
theorem numberT_L2_ok : ∀ (x : Int × Int × (List Int) × Int) (r : Except Int (Int × (List Int) × Int)), numberT_L2 x = some r → ∀ (W0 w0 : World) (S : Own), Std W0 w0 S 1 → H Tryd.prog w0 S 32 (cR (cR (cL (cL (cL (cL (cR (cR (cR (cB Tryd.f83)))))))))) (mkS [(0, .pointer (some ⟨0, 0, none⟩)), (3, .int .u32 x.1), (5, .int .u8 x.2.1)] [(0, .cells [ls 1 false (encI .u8) x.2.2.1, .int .i64 x.2.2.2] 121 2)] 1 []) (Kblock 1 (Kseq Tryd.prog w0 S 32 (cR (cL (cL (cR (cR (cR (cB Tryd.f83))))))) (Kloop Tryd.prog w0 S 32 (cL (cL (cR (cR (cR (cB Tryd.f83)))))) (Kblock 0 (KEnd Tryd.prog Tryd.f83 (FEnd w0 S (match r with | .ok r => .returned (.int .u32 r.1) | .error e => panE (.iface 25 (.int .i64 e))) (match r with | .ok r => (mkW 1 [] [(0, .cells [ls 1 false (encI .u8) r.2.1, .int .i64 r.2.2] 121 2)]) | .error _ => (mkW 1 [] [])))))))) := numberT_L2_grp.1
theorem numberT_L1_ok : ∀ (x : Int × Bool × (List Int) × Int) (r : Except Int (Int × (List Int) × Int)), numberT_L1 x = some r → ∀ (W0 w0 : World) (S : Own), Std W0 w0 S 1 → HL Tryd.prog w0 S 32 (cL (cL (cR (cR (cR (cB Tryd.f83)))))) (mkS [(0, .pointer (some ⟨0, 0, none⟩)), (3, .int .u32 x.1), (4, .bool x.2.1)] [(0, .cells [ls 1 false (encI .u8) x.2.2.1, .int .i64 x.2.2.2] 121 2)] 1 []) (Kblock 0 (KEnd Tryd.prog Tryd.f83 (FEnd w0 S (match r with | .ok r => .returned (.int .u32 r.1) | .error e => panE (.iface 25 (.int .i64 e))) (match r with | .ok r => (mkW 1 [] [(0, .cells [ls 1 false (encI .u8) r.2.1, .int .i64 r.2.2] 121 2)]) | .error _ => (mkW 1 [] []))))) := numberT_L2_grp.2
def numberT (x : (List Int) × Int) : Option (Except Int (Int × (List Int) × Int)) :=
  numberT_L1 (0, true, x.1, x.2)
theorem numberT_ok : ∀ (x : (List Int) × Int) (r : Except Int (Int × (List Int) × Int)), numberT x = some r → ∀ W0 : World, FTo Tryd.prog W0 83 #[.pointer (some ⟨0, 0, none⟩)] (mkW 1 [] [(0, .cells [ls 1 false (encI .u8) x.1, .int .i64 x.2] 121 2)]) (match r with | .ok r => .returned (.int .u32 r.1) | .error e => panE (.iface 25 (.int .i64 e))) (match r with | .ok r => (mkW 1 [] [(0, .cells [ls 1 false (encI .u8) r.2.1, .int .i64 r.2.2] 121 2)]) | .error _ => (mkW 1 [] [])) := by
  intro x r h
  unfold numberT at h
  intro W0
  refine FTo.of_body (fn := Tryd.f83) (code := cB Tryd.f83) Tryd.func83 rfl rfl ?_
  intro w0 S hS
  haveI := hS.noEx Tryd.prog
  refine H.sr' 1 ?_
  refine H.sr' 1 ?_
  refine H.sr' 1 ?_
  refine H.blk' 0 ?_
  refine H.lop' ?_
  exact HL.ren' hS [0] (numberT_L1_ok (0, true, x.1, x.2) r h W0 w0 S hS)
def lengthT_L1 (x : Int × (List Int) × Int × Int × (List Int) × Int) : Option (Except Int (Int × Bool × (List Int) × Int)) :=
  if x.2.2.2.1 < x.2.2.1 then
    (at' x.2.1 x.2.2.2.1) >>= fun y5 =>
    lengthT_L1 ((minI (bOr .i64 (shlI .i64 x.1 8) (IntKind.i64.wrap y5)) 65537), x.2.1, x.2.2.1, (IntKind.i64.wrap (x.2.2.2.1 + 1)), x.2.2.2.2.1, x.2.2.2.2.2)
  else
    some (.ok (x.1, true, x.2.2.2.2.1, x.2.2.2.2.2))
partial_fixpoint
theorem lengthT_L1_ok : ∀ (x : Int × (List Int) × Int × Int × (List Int) × Int) (r : Except Int (Int × Bool × (List Int) × Int)), lengthT_L1 x = some r → ∀ (W0 w0 : World) (S : Own), Std W0 w0 S 1 → HL Tryd.prog w0 S 48 (cL (cL (cR (cL (cR (cR (cR (cR (cR (cB Tryd.f84)))))))))) (mkS [(7, .int .i64 x.1), (34, ls 1 false (encI .u8) x.2.1), (35, .int .i64 x.2.2.1), (36, .int .i64 x.2.2.2.1)] [(0, .cells [ls 1 false (encI .u8) x.2.2.2.2.1, .int .i64 x.2.2.2.2.2] 121 2)] 1 []) (Kblock 1 (Kseq Tryd.prog w0 S 48 (cR (cR (cR (cR (cR (cR (cB Tryd.f84))))))) (KEnd Tryd.prog Tryd.f84 (FEnd w0 S (match r with | .ok r => .returned (.tuple #[.int .i64 r.1, .bool r.2.1]) | .error e => panE (.iface 25 (.int .i64 e))) (match r with | .ok r => (mkW 1 [] [(0, .cells [ls 1 false (encI .u8) r.2.2.1, .int .i64 r.2.2.2] 121 2)]) | .error _ => (mkW 1 [] [])))))) := by
  refine lengthT_L1.partial_correctness (fun (x : Int × (List Int) × Int × Int × (List Int) × Int) (r : Except Int (Int × Bool × (List Int) × Int)) => ∀ (W0 w0 : World) (S : Own), Std W0 w0 S 1 → HL Tryd.prog w0 S 48 (cL (cL (cR (cL (cR (cR (cR (cR (cR (cB Tryd.f84)))))))))) (mkS [(7, .int .i64 x.1), (34, ls 1 false (encI .u8) x.2.1), (35, .int .i64 x.2.2.1), (36, .int .i64 x.2.2.2.1)] [(0, .cells [ls 1 false (encI .u8) x.2.2.2.2.1, .int .i64 x.2.2.2.2.2] 121 2)] 1 []) (Kblock 1 (Kseq Tryd.prog w0 S 48 (cR (cR (cR (cR (cR (cR (cB Tryd.f84))))))) (KEnd Tryd.prog Tryd.f84 (FEnd w0 S (match r with | .ok r => .returned (.tuple #[.int .i64 r.1, .bool r.2.1]) | .error e => panE (.iface 25 (.int .i64 e))) (match r with | .ok r => (mkW 1 [] [(0, .cells [ls 1 false (encI .u8) r.2.2.1, .int .i64 r.2.2.2] 121 2)]) | .error _ => (mkW 1 [] []))))))) ?_
  intro self ih_lengthT_L1 x r h
  intro W0 w0 S hS
  haveI := hS.noEx Tryd.prog
  refine HL.round ?_
  refine H.sr' 1 ?_
  refine H.seq' ?_
  refine H.cS' (decide (x.2.2.2.1 < x.2.2.1)) (fun hb => ?_) (fun hb => ?_)
  rotate_left
  · rw [if_neg (of_decide_eq_false hb)] at h
    refine H.ext' 1 ?_
    refine Kseq_exit ?_
    refine Kloop_exit ?_
    refine Kblock_hit ?_
    refine Kseq_norm ?_
    refine H.sr' 3 ?_
    refine H.ret' ?_
    obtain rfl := Option.some.inj h
    exact KEnd.of (v := .tuple #[.int .i64 x.1, .bool true]) (by kernel_rfl) (by kernel_rfl) (FEnd.ren hS [0] _ _ (by kernel_rfl))
  rw [if_pos (of_decide_eq_true hb)] at h
  refine H.skp' ?_
  refine Kseq_norm ?_
  refine H.seq' ?_
  refine H.blk' 2 ?_
  refine H.sg' ?_
  obtain ⟨y5, hy, h⟩ := bindS h
  refine HO.idx (.int .u8 y5) hy rfl (by kernel_rfl) ?_
  refine HO.fin' 2 ?_
  refine H.reg' ?_
  refine HO.go' 7 ?_
  refine HO.end' ?_
  refine Kblock_norm ?_
  refine Kseq_norm ?_
  refine H.reg' ?_
  refine HO.go' 2 ?_
  refine HO.end' ?_
  refine Kloop_norm ?_
  exact HL.ren' hS [0] (ih_lengthT_L1 ((minI (bOr .i64 (shlI .i64 x.1 8) (IntKind.i64.wrap y5)) 65537), x.2.1, x.2.2.1, (IntKind.i64.wrap (x.2.2.2.1 + 1)), x.2.2.2.2.1, x.2.2.2.2.2) r h W0 w0 S hS)
def lengthT (x : Int × Int × Bool × (List Int) × (List S36) × (List Int) × Int) : Option (Except Int (Int × Bool × (List Int) × Int)) :=
  (next (x.2.2.2.2.2.1, x.2.2.2.2.2.2)) >>= fun y1 =>
  match y1 with
  | .error y1 =>
    some (.error y1)
  | .ok y1 =>
    if y1.1 < 128 then
      some (.ok ((IntKind.i64.wrap y1.1), true, y1.2.1, y1.2.2))
    else
      if y1.1 = 128 then
        (must (x.2.2.1, 4)) >>= fun y2 =>
        match y2 with
        | .error y2 =>
          some (.error y2)
        | .ok y2 =>
          some (.ok (0, false, y1.2.1, y1.2.2))
      else
        (must ((!decide (y1.1 = 255)), 4)) >>= fun y3 =>
        match y3 with
        | .error y3 =>
          some (.error y3)
        | .ok y3 =>
          (take ((IntKind.i64.wrap (IntKind.u8.wrap (y1.1 - 128))), y1.2.1, y1.2.2)) >>= fun y4 =>
          match y4 with
          | .error y4 =>
            some (.error y4)
          | .ok y4 =>
            lengthT_L1 (0, y4.1, (y4.1.length : Int), 0, y4.2.1, y4.2.2)
theorem lengthT_ok : ∀ (x : Int × Int × Bool × (List Int) × (List S36) × (List Int) × Int) (r : Except Int (Int × Bool × (List Int) × Int)), lengthT x = some r → ∀ W0 : World, FTo Tryd.prog W0 84 #[.pointer (some ⟨0, 0, none⟩), .agg #[.int .u8 x.1, .int .u32 x.2.1, .bool x.2.2.1, ls 1 false (encI .u8) x.2.2.2.1, ls 5 false enc36 x.2.2.2.2.1]] (mkW 1 [] [(0, .cells [ls 1 false (encI .u8) x.2.2.2.2.2.1, .int .i64 x.2.2.2.2.2.2] 121 2)]) (match r with | .ok r => .returned (.tuple #[.int .i64 r.1, .bool r.2.1]) | .error e => panE (.iface 25 (.int .i64 e))) (match r with | .ok r => (mkW 1 [] [(0, .cells [ls 1 false (encI .u8) r.2.2.1, .int .i64 r.2.2.2] 121 2)]) | .error _ => (mkW 1 [] [])) := by
  intro x r h
  unfold lengthT at h
  intro W0
  refine FTo.of_body (fn := Tryd.f84) (code := cB Tryd.f84) Tryd.func84 rfl rfl ?_
  intro w0 S hS
  haveI := hS.noEx Tryd.prog
  refine H.sr' 3 ?_
  refine H.sg' ?_
  refine HO.go' 3 ?_
  obtain ⟨y1, hy, h⟩ := bindS h
  rcases y1 with y1 | y1
  · dsimp only at h
    refine HO.panFW hS 2 [] [(1, .cells [.int .u8 x.1, .int .u32 x.2.1, .bool x.2.2.1, ls 1 false (encI .u8) x.2.2.2.1, ls 5 false enc36 x.2.2.2.2.1] 36 5)] [0] [.keep] (next_ok (x.2.2.2.2.2.1, x.2.2.2.2.2.2) (.error y1) hy W0) (by kernel_rfl) (by kernel_rfl) ?_
    refine Kseq_pan ?_
    obtain rfl := Option.some.inj h
    exact KEnd.ofPan (by kernel_rfl) (FEnd.pan hS [0] [] [] (by kernel_rfl))
  dsimp only at h
  refine HO.callFW hS (.int .u8 y1.1) 2 [] [(0, .cells [ls 1 false (encI .u8) y1.2.1, .int .i64 y1.2.2] 121 2), (1, .cells [.int .u8 x.1, .int .u32 x.2.1, .bool x.2.2.1, ls 1 false (encI .u8) x.2.2.2.1, ls 5 false enc36 x.2.2.2.2.1] 36 5)] [0] [.keep] (next_ok (x.2.2.2.2.2.1, x.2.2.2.2.2.2) (.ok y1) hy W0) (by kernel_rfl) (by kernel_rfl) ?_
  refine HO.fin' 1 ?_
  refine H.seq' ?_
  refine H.blk' 0 ?_
  refine H.sr' 3 ?_
  refine H.cS' (decide (y1.1 < 128)) (fun hb => ?_) (fun hb => ?_)
  · rw [if_pos (of_decide_eq_true hb)] at h
    refine H.sr' 4 ?_
    refine H.ret' ?_
    refine Kblock_ret ?_
    refine Kseq_ret ?_
    obtain rfl := Option.some.inj h
    exact KEnd.of (v := .tuple #[.int .i64 (IntKind.i64.wrap y1.1), .bool true]) (by kernel_rfl) (by kernel_rfl) (FEnd.ren hS [0] _ _ (by kernel_rfl))
  rw [if_neg (of_decide_eq_false hb)] at h
  refine H.sr' 3 ?_
  refine H.cS' (decide (y1.1 = 128)) (fun hb => ?_) (fun hb => ?_)
  · rw [if_pos (of_decide_eq_true hb)] at h
    refine H.sg' ?_
    refine HO.go' 2 ?_
    obtain ⟨y2, hy, h⟩ := bindS h
    rcases y2 with y2 | y2
    · dsimp only at h
      refine HO.panW hS [.keep, .keep] (must_ok (x.2.2.1, 4) (.error y2) hy W0) (by kernel_rfl) (by kernel_rfl) ?_
      refine Kseq_pan ?_
      refine Kblock_pan ?_
      refine Kseq_pan ?_
      obtain rfl := Option.some.inj h
      exact KEnd.ofPan (by kernel_rfl) (FEnd.pan hS [0] [] [] (by kernel_rfl))
    dsimp only at h
    refine HO.callW hS [.keep, .keep] (must_ok (x.2.2.1, 4) (.ok y2) hy W0) (by kernel_rfl) (by kernel_rfl) ?_
    refine HO.fin' 0 ?_
    refine H.sr' 2 ?_
    refine H.ret' ?_
    refine Kblock_ret ?_
    refine Kseq_ret ?_
    obtain rfl := Option.some.inj h
    exact KEnd.of (v := .tuple #[.int .i64 0, .bool false]) (by kernel_rfl) (by kernel_rfl) (FEnd.ren hS [0] _ _ (by kernel_rfl))
  rw [if_neg (of_decide_eq_false hb)] at h
  refine H.skp' ?_
  refine Kblock_norm ?_
  refine Kseq_norm ?_
  refine H.sg' ?_
  refine HO.go' 2 ?_
  obtain ⟨y3, hy, h⟩ := bindS h
  rcases y3 with y3 | y3
  · dsimp only at h
    refine HO.panW hS [.keep, .keep] (must_ok ((!decide (y1.1 = 255)), 4) (.error y3) hy W0) (by kernel_rfl) (by kernel_rfl) ?_
    refine Kseq_pan ?_
    obtain rfl := Option.some.inj h
    exact KEnd.ofPan (by kernel_rfl) (FEnd.pan hS [0] [] [] (by kernel_rfl))
  dsimp only at h
  refine HO.callW hS [.keep, .keep] (must_ok ((!decide (y1.1 = 255)), 4) (.ok y3) hy W0) (by kernel_rfl) (by kernel_rfl) ?_
  refine HO.fin' 0 ?_
  refine H.sr' 1 ?_
  refine H.seq' ?_
  refine H.sg' ?_
  refine HO.go' 6 ?_
  obtain ⟨y4, hy, h⟩ := bindS h
  rcases y4 with y4 | y4
  · dsimp only at h
    refine HO.panFW hS 2 [] [(1, .cells [.int .u8 x.1, .int .u32 x.2.1, .bool x.2.2.1, ls 1 false (encI .u8) x.2.2.2.1, ls 5 false enc36 x.2.2.2.2.1] 36 5)] [0] [.keep, .keep] (take_ok ((IntKind.i64.wrap (IntKind.u8.wrap (y1.1 - 128))), y1.2.1, y1.2.2) (.error y4) hy W0) (by kernel_rfl) (by kernel_rfl) ?_
    refine Kseq_pan ?_
    refine Kseq_pan ?_
    obtain rfl := Option.some.inj h
    exact KEnd.ofPan (by kernel_rfl) (FEnd.pan hS [0] [] [] (by kernel_rfl))
  dsimp only at h
  refine HO.callFW hS (ls 1 false (encI .u8) y4.1) 2 [] [(0, .cells [ls 1 false (encI .u8) y4.2.1, .int .i64 y4.2.2] 121 2), (1, .cells [.int .u8 x.1, .int .u32 x.2.1, .bool x.2.2.1, ls 1 false (encI .u8) x.2.2.2.1, ls 5 false enc36 x.2.2.2.2.1] 36 5)] [0] [.keep, .keep] (take_ok ((IntKind.i64.wrap (IntKind.u8.wrap (y1.1 - 128))), y1.2.1, y1.2.2) (.ok y4) hy W0) (by kernel_rfl) (by kernel_rfl) ?_
  refine HO.len (by kernel_rfl) (by kernel_rfl) (ls_size (encI .u8) y4.1) ?_
  refine HO.fin' 1 ?_
  refine H.blk' 1 ?_
  refine H.lop' ?_
  exact HL.ren' hS [0] (lengthT_L1_ok (0, y4.1, (y4.1.length : Int), 0, y4.2.1, y4.2.2) r h W0 w0 S hS)
def ahead (x : (List Int) × Int) : Option (Except Int (Bool × (List Int) × Int)) :=
  (must ((decide (0 < (x.1.length : Int))), 4)) >>= fun y1 =>
  match y1 with
  | .error y1 =>
    some (.error y1)
  | .ok y1 =>
    (at' x.1 0) >>= fun y2 =>
    if (!decide (y2 = 0)) = true then
      some (.ok (true, x.1, x.2))
    else
      (take (2, x.1, x.2)) >>= fun y3 =>
      match y3 with
      | .error y3 =>
        some (.error y3)
      | .ok y3 =>
        (at' y3.1 1) >>= fun y4 =>
        (must ((decide (y4 = 0)), 4)) >>= fun y5 =>
        match y5 with
        | .error y5 =>
          some (.error y5)
        | .ok y5 =>
          some (.ok (false, y3.2.1, y3.2.2))
theorem ahead_ok : ∀ (x : (List Int) × Int) (r : Except Int (Bool × (List Int) × Int)), ahead x = some r → ∀ W0 : World, FTo Tryd.prog W0 85 #[.pointer (some ⟨0, 0, none⟩)] (mkW 1 [] [(0, .cells [ls 1 false (encI .u8) x.1, .int .i64 x.2] 121 2)]) (match r with | .ok r => .returned (.bool r.1) | .error e => panE (.iface 25 (.int .i64 e))) (match r with | .ok r => (mkW 1 [] [(0, .cells [ls 1 false (encI .u8) r.2.1, .int .i64 r.2.2] 121 2)]) | .error _ => (mkW 1 [] [])) := by
  intro x r h
  unfold ahead at h
  intro W0
  refine FTo.of_body (fn := Tryd.f85) (code := cB Tryd.f85) Tryd.func85 rfl rfl ?_
  intro w0 S hS
  haveI := hS.noEx Tryd.prog
  refine H.sr' 1 ?_
  refine H.sg' ?_
  refine HO.go' 5 ?_
  refine HO.len (by kernel_rfl) (by kernel_rfl) (ls_size (encI .u8) x.1) ?_
  refine HO.go' 1 ?_
  obtain ⟨y1, hy, h⟩ := bindS h
  rcases y1 with y1 | y1
  · dsimp only at h
    refine HO.panW hS [.keep, .keep] (must_ok ((decide (0 < (x.1.length : Int))), 4) (.error y1) hy W0) (by kernel_rfl) (by kernel_rfl) ?_
    refine Kseq_pan ?_
    obtain rfl := Option.some.inj h
    exact KEnd.ofPan (by kernel_rfl) (FEnd.pan hS [0] [] [] (by kernel_rfl))
  dsimp only at h
  refine HO.callW hS [.keep, .keep] (must_ok ((decide (0 < (x.1.length : Int))), 4) (.ok y1) hy W0) (by kernel_rfl) (by kernel_rfl) ?_
  refine HO.fin' 0 ?_
  refine H.seq' ?_
  refine H.sg' ?_
  refine HO.go' 5 ?_
  obtain ⟨y2, hy, h⟩ := bindS h
  refine HO.idx (.int .u8 y2) hy rfl (by kernel_rfl) ?_
  refine HO.fin' 2 ?_
  refine H.cS' (!decide (y2 = 0)) (fun hb => ?_) (fun hb => ?_)
  · rw [if_pos hb] at h
    refine H.sr' 1 ?_
    refine H.ret' ?_
    refine Kseq_ret ?_
    obtain rfl := Option.some.inj h
    exact KEnd.of (v := .bool true) (by kernel_rfl) (by kernel_rfl) (FEnd.ren hS [0] _ _ (by kernel_rfl))
  rw [if_neg (ne_true hb)] at h
  refine H.skp' ?_
  refine Kseq_norm ?_
  refine H.sg' ?_
  refine HO.go' 3 ?_
  obtain ⟨y3, hy, h⟩ := bindS h
  rcases y3 with y3 | y3
  · dsimp only at h
    refine HO.panFW hS 1 [] [] [0] [.keep, .keep] (take_ok (2, x.1, x.2) (.error y3) hy W0) (by kernel_rfl) (by kernel_rfl) ?_
    refine Kseq_pan ?_
    obtain rfl := Option.some.inj h
    exact KEnd.ofPan (by kernel_rfl) (FEnd.pan hS [0] [] [] (by kernel_rfl))
  dsimp only at h
  refine HO.callFW hS (ls 1 false (encI .u8) y3.1) 1 [] [(0, .cells [ls 1 false (encI .u8) y3.2.1, .int .i64 y3.2.2] 121 2)] [0] [.keep, .keep] (take_ok (2, x.1, x.2) (.ok y3) hy W0) (by kernel_rfl) (by kernel_rfl) ?_
  obtain ⟨y4, hy, h⟩ := bindS h
  refine HO.idx (.int .u8 y4) hy rfl (by kernel_rfl) ?_
  refine HO.go' 2 ?_
  obtain ⟨y5, hy, h⟩ := bindS h
  rcases y5 with y5 | y5
  · dsimp only at h
    refine HO.panW hS [.keep, .keep] (must_ok ((decide (y4 = 0)), 4) (.error y5) hy W0) (by kernel_rfl) (by kernel_rfl) ?_
    refine Kseq_pan ?_
    obtain rfl := Option.some.inj h
    exact KEnd.ofPan (by kernel_rfl) (FEnd.pan hS [0] [] [] (by kernel_rfl))
  dsimp only at h
  refine HO.callW hS [.keep, .keep] (must_ok ((decide (y4 = 0)), 4) (.ok y5) hy W0) (by kernel_rfl) (by kernel_rfl) ?_
  refine HO.fin' 0 ?_
  refine H.sr' 1 ?_
  refine H.ret' ?_
  obtain rfl := Option.some.inj h
  exact KEnd.of (v := .bool false) (by kernel_rfl) (by kernel_rfl) (FEnd.ren hS [0] _ _ (by kernel_rfl))
def element_L6 (x : (List Int) × Int × Int × Int × Bool × (List Int) × (List S36)) : Option (Except Int (Int × Int × Bool × (List Int) × (List S36) × (List Int) × Int)) :=
  (clipT x.2.2.2.2.2.2) >>= fun y17 =>
  some (.ok (x.2.2.1, x.2.2.2.1, x.2.2.2.2.1, x.2.2.2.2.2.1, y17, x.1, x.2.1))
theorem element_L6_ok : ∀ (x : (List Int) × Int × Int × Int × Bool × (List Int) × (List S36)) (r : Except Int (Int × Int × Bool × (List Int) × (List S36) × (List Int) × Int)), element_L6 x = some r → ∀ (W0 w0 : World) (S : Own), Std W0 w0 S 1 → H Tryd.prog w0 S 128 (cR (cR (cR (cR (cR (cR (cR (cR (cR (cB Tryd.f59)))))))))) (mkS [(4, .pointer (some ⟨1, 0, none⟩)), (6, .pointer (some ⟨2, 0, none⟩))] [(0, .cells [ls 1 false (encI .u8) x.1, .int .i64 x.2.1] 121 2), (1, .cells [.int .u8 0, .int .u32 0, .bool false, .slice none 0 0, tl 5 3 enc36 []] 36 5), (2, .cells [.int .u8 x.2.2.1, .int .u32 x.2.2.2.1, .bool x.2.2.2.2.1, ls 1 true (encI .u8) x.2.2.2.2.2.1, tl 5 4 enc36 x.2.2.2.2.2.2] 36 5)] 5 [4, 3]) (KEnd Tryd.prog Tryd.f59 (FEnd w0 S (match r with | .ok r => .returned (.agg #[.int .u8 r.1, .int .u32 r.2.1, .bool r.2.2.1, ls 1 false (encI .u8) r.2.2.2.1, ls 5 false enc36 r.2.2.2.2.1]) | .error e => panE (.iface 25 (.int .i64 e))) (match r with | .ok r => (mkW 1 [] [(0, .cells [ls 1 false (encI .u8) r.2.2.2.2.2.1, .int .i64 r.2.2.2.2.2.2] 121 2)]) | .error _ => (mkW 1 [] [])))) := by
  intro x r h
  unfold element_L6 at h
  intro W0 w0 S hS
  haveI := hS.noEx Tryd.prog
  refine H.sg' ?_
  refine HO.go' 2 ?_
  obtain ⟨y17, hy, h⟩ := bindS h
  refine HO.callW hS [.list 5 false] (clipT_ok x.2.2.2.2.2.2 y17 hy W0) (by kernel_rfl) (by kernel_rfl) ?_
  refine HO.fin' 2 ?_
  refine H.sr' 2 ?_
  refine H.ret' ?_
  obtain rfl := Option.some.inj h
  exact KEnd.of (v := .agg #[.int .u8 x.2.2.1, .int .u32 x.2.2.2.1, .bool x.2.2.2.2.1, ls 1 true (encI .u8) x.2.2.2.2.2.1, ls 5 true enc36 y17]) (by kernel_rfl) (by kernel_rfl) (FEnd.wk (v1 := .agg #[.int .u8 x.2.2.1, .int .u32 x.2.2.2.1, .bool x.2.2.2.2.1, ls 1 false (encI .u8) x.2.2.2.2.2.1, ls 5 false enc36 y17]) (.agg [.keep, .keep, .keep, .list 1 false, .list 5 false]) (by kernel_rfl) (FEnd.ren hS [0] _ _ (by kernel_rfl)))
mutual
def element_L5 (x : Int × (List Int) × (List Int) × Int × Int × Int × Bool × (List S36)) : Option (Except Int (Int × Int × Bool × (List Int) × (List S36) × (List Int) × Int)) :=
  if 0 < (x.2.2.1.length : Int) then
    (element ((IntKind.i64.wrap (x.1 + 1)), x.2.2.1, x.2.2.2.1)) >>= fun y15 =>
    match y15 with
    | .error y15 =>
      some (.error y15)
    | .ok y15 =>
      (app' 64 x.2.2.2.2.2.2.2 [(S36.mk y15.1 y15.2.1 y15.2.2.1 y15.2.2.2.1 y15.2.2.2.2.1)]) >>= fun y16 =>
      element_L5 (x.1, x.2.1, y15.2.2.2.2.2.1, y15.2.2.2.2.2.2, x.2.2.2.2.1, x.2.2.2.2.2.1, x.2.2.2.2.2.2.1, y16)
  else
    element_L6 (x.2.1, x.2.2.2.1, x.2.2.2.2.1, x.2.2.2.2.2.1, x.2.2.2.2.2.2.1, [], x.2.2.2.2.2.2.2)
partial_fixpoint
def element (x : Int × (List Int) × Int) : Option (Except Int (Int × Int × Bool × (List Int) × (List S36) × (List Int) × Int)) :=
  if x.1 ≤ 16 then
    (must ((decide (x.2.2 < 1024)), 3)) >>= fun y1 =>
    match y1 with
    | .error y1 =>
      some (.error y1)
    | .ok y1 =>
      element_L1 (x.1, x.2.1, x.2.2)
  else
    (must (false, 3)) >>= fun y2 =>
    match y2 with
    | .error y2 =>
      some (.error y2)
    | .ok y2 =>
      element_L1 (x.1, x.2.1, x.2.2)
partial_fixpoint
def element_L1 (x : Int × (List Int) × Int) : Option (Except Int (Int × Int × Bool × (List Int) × (List S36) × (List Int) × Int)) :=
  (next (x.2.1, (IntKind.i64.wrap (x.2.2 + 1)))) >>= fun y3 =>
  match y3 with
  | .error y3 =>
    some (.error y3)
  | .ok y3 =>
    if (IntKind.u32.wrap (bAnd .u8 y3.1 31)) = 31 then
      (numberT (y3.2.1, y3.2.2)) >>= fun y4 =>
      match y4 with
      | .error y4 =>
        some (.error y4)
      | .ok y4 =>
        element_L2 (x.1, y4.2.1, y4.2.2, (shrI .u8 y3.1 6), y4.1, (decide (0 < (bAnd .u8 y3.1 32))))
    else
      element_L2 (x.1, y3.2.1, y3.2.2, (shrI .u8 y3.1 6), (IntKind.u32.wrap (bAnd .u8 y3.1 31)), (decide (0 < (bAnd .u8 y3.1 32))))
partial_fixpoint
def element_L2 (x : Int × (List Int) × Int × Int × Int × Bool) : Option (Except Int (Int × Int × Bool × (List Int) × (List S36) × (List Int) × Int)) :=
  if 0 < x.2.2.2.1 then
    (must (true, 4)) >>= fun y5 =>
    match y5 with
    | .error y5 =>
      some (.error y5)
    | .ok y5 =>
      element_L3 (x.1, x.2.1, x.2.2.1, x.2.2.2.1, x.2.2.2.2.1, x.2.2.2.2.2)
  else
    (must ((decide (0 < x.2.2.2.2.1)), 4)) >>= fun y6 =>
    match y6 with
    | .error y6 =>
      some (.error y6)
    | .ok y6 =>
      element_L3 (x.1, x.2.1, x.2.2.1, x.2.2.2.1, x.2.2.2.2.1, x.2.2.2.2.2)
partial_fixpoint
def element_L3 (x : Int × (List Int) × Int × Int × Int × Bool) : Option (Except Int (Int × Int × Bool × (List Int) × (List S36) × (List Int) × Int)) :=
  (lengthT (x.2.2.2.1, x.2.2.2.2.1, x.2.2.2.2.2, [], [], x.2.1, x.2.2.1)) >>= fun y7 =>
  match y7 with
  | .error y7 =>
    some (.error y7)
  | .ok y7 =>
    if (!y7.2.1) = true then
      element_L4 (x.1, y7.2.2.1, y7.2.2.2, x.2.2.2.1, x.2.2.2.2.1, x.2.2.2.2.2, [])
    else
      if x.2.2.2.2.2 = true then
        (take (y7.1, y7.2.2.1, y7.2.2.2)) >>= fun y11 =>
        match y11 with
        | .error y11 =>
          some (.error y11)
        | .ok y11 =>
          element_L5 (x.1, y11.2.1, y11.1, y11.2.2, x.2.2.2.1, x.2.2.2.2.1, x.2.2.2.2.2, [])
      else
        (take (y7.1, y7.2.2.1, y7.2.2.2)) >>= fun y12 =>
        match y12 with
        | .error y12 =>
          some (.error y12)
        | .ok y12 =>
          (cloneB y12.1) >>= fun y13 =>
          (clip y13) >>= fun y14 =>
          element_L6 (y12.2.1, y12.2.2, x.2.2.2.1, x.2.2.2.2.1, x.2.2.2.2.2, y14, [])
partial_fixpoint
def element_L4 (x : Int × (List Int) × Int × Int × Int × Bool × (List S36)) : Option (Except Int (Int × Int × Bool × (List Int) × (List S36) × (List Int) × Int)) :=
  (ahead (x.2.1, x.2.2.1)) >>= fun y8 =>
  match y8 with
  | .error y8 =>
    some (.error y8)
  | .ok y8 =>
    if y8.1 = true then
      (element ((IntKind.i64.wrap (x.1 + 1)), y8.2.1, y8.2.2)) >>= fun y9 =>
      match y9 with
      | .error y9 =>
        some (.error y9)
      | .ok y9 =>
        (app' 64 x.2.2.2.2.2.2 [(S36.mk y9.1 y9.2.1 y9.2.2.1 y9.2.2.2.1 y9.2.2.2.2.1)]) >>= fun y10 =>
        element_L4 (x.1, y9.2.2.2.2.2.1, y9.2.2.2.2.2.2, x.2.2.2.1, x.2.2.2.2.1, x.2.2.2.2.2.1, y10)
    else
      element_L6 (y8.2.1, y8.2.2, x.2.2.2.1, x.2.2.2.2.1, x.2.2.2.2.2.1, [], x.2.2.2.2.2.2)
partial_fixpoint
end
theorem element_L5_grp : (∀ (x : Int × (List Int) × (List Int) × Int × Int × Int × Bool × (List S36)) (r : Except Int (Int × Int × Bool × (List Int) × (List S36) × (List Int) × Int)), element_L5 x = some r → ∀ (W0 w0 : World) (S : Own), Std W0 w0 S 1 → HL Tryd.prog w0 S 128 (cL (cL (cR (cL (cR (cR (cL (cR (cR (cR (cL (cL (cR (cR (cR (cR (cR (cR (cR (cR (cB Tryd.f59))))))))))))))))))))) (mkS [(0, .pointer (some ⟨0, 0, none⟩)), (1, .int .i64 x.1), (4, .pointer (some ⟨1, 0, none⟩)), (6, .pointer (some ⟨2, 0, none⟩)), (10, ls 1 false (encI .u8) x.2.1)] [(0, .cells [ls 1 false (encI .u8) x.2.2.1, .int .i64 x.2.2.2.1] 121 2), (1, .cells [.int .u8 0, .int .u32 0, .bool false, .slice none 0 0, tl 5 3 enc36 []] 36 5), (2, .cells [.int .u8 x.2.2.2.2.1, .int .u32 x.2.2.2.2.2.1, .bool x.2.2.2.2.2.2.1, .slice none 0 0, tl 5 4 enc36 x.2.2.2.2.2.2.2] 36 5)] 5 [4, 3]) (Kblock 3 (Kseq Tryd.prog w0 S 128 (cR (cR (cR (cL (cR (cR (cR (cL (cL (cR (cR (cR (cR (cR (cR (cR (cR (cB Tryd.f59)))))))))))))))))) (Kblock 0 (Kseq Tryd.prog w0 S 128 (cR (cR (cR (cR (cR (cR (cR (cR (cR (cB Tryd.f59)))))))))) (KEnd Tryd.prog Tryd.f59 (FEnd w0 S (match r with | .ok r => .returned (.agg #[.int .u8 r.1, .int .u32 r.2.1, .bool r.2.2.1, ls 1 false (encI .u8) r.2.2.2.1, ls 5 false enc36 r.2.2.2.2.1]) | .error e => panE (.iface 25 (.int .i64 e))) (match r with | .ok r => (mkW 1 [] [(0, .cells [ls 1 false (encI .u8) r.2.2.2.2.2.1, .int .i64 r.2.2.2.2.2.2] 121 2)]) | .error _ => (mkW 1 [] []))))))))) ∧
  (∀ (x : Int × (List Int) × Int) (r : Except Int (Int × Int × Bool × (List Int) × (List S36) × (List Int) × Int)), element x = some r → ∀ W0 : World, FTo Tryd.prog W0 59 #[.pointer (some ⟨0, 0, none⟩), .int .i64 x.1] (mkW 1 [] [(0, .cells [ls 1 false (encI .u8) x.2.1, .int .i64 x.2.2] 121 2)]) (match r with | .ok r => .returned (.agg #[.int .u8 r.1, .int .u32 r.2.1, .bool r.2.2.1, ls 1 false (encI .u8) r.2.2.2.1, ls 5 false enc36 r.2.2.2.2.1]) | .error e => panE (.iface 25 (.int .i64 e))) (match r with | .ok r => (mkW 1 [] [(0, .cells [ls 1 false (encI .u8) r.2.2.2.2.2.1, .int .i64 r.2.2.2.2.2.2] 121 2)]) | .error _ => (mkW 1 [] []))) ∧
  (∀ (x : Int × (List Int) × Int) (r : Except Int (Int × Int × Bool × (List Int) × (List S36) × (List Int) × Int)), element_L1 x = some r → ∀ (W0 w0 : World) (S : Own), Std W0 w0 S 1 → H Tryd.prog w0 S 128 (cR (cR (cB Tryd.f59))) (mkS [(0, .pointer (some ⟨0, 0, none⟩)), (1, .int .i64 x.1), (4, .pointer (some ⟨1, 0, none⟩))] [(0, .cells [ls 1 false (encI .u8) x.2.1, .int .i64 x.2.2] 121 2), (1, .cells [.int .u8 0, .int .u32 0, .bool false, .slice none 0 0, .slice none 0 0] 36 5)] 2 []) (KEnd Tryd.prog Tryd.f59 (FEnd w0 S (match r with | .ok r => .returned (.agg #[.int .u8 r.1, .int .u32 r.2.1, .bool r.2.2.1, ls 1 false (encI .u8) r.2.2.2.1, ls 5 false enc36 r.2.2.2.2.1]) | .error e => panE (.iface 25 (.int .i64 e))) (match r with | .ok r => (mkW 1 [] [(0, .cells [ls 1 false (encI .u8) r.2.2.2.2.2.1, .int .i64 r.2.2.2.2.2.2] 121 2)]) | .error _ => (mkW 1 [] []))))) ∧
  (∀ (x : Int × (List Int) × Int × Int × Int × Bool) (r : Except Int (Int × Int × Bool × (List Int) × (List S36) × (List Int) × Int)), element_L2 x = some r → ∀ (W0 w0 : World) (S : Own), Std W0 w0 S 1 → H Tryd.prog w0 S 128 (cR (cR (cR (cR (cR (cR (cB Tryd.f59))))))) (mkS [(0, .pointer (some ⟨0, 0, none⟩)), (1, .int .i64 x.1), (4, .pointer (some ⟨1, 0, none⟩)), (6, .pointer (some ⟨2, 0, none⟩))] [(0, .cells [ls 1 false (encI .u8) x.2.1, .int .i64 x.2.2.1] 121 2), (1, .cells [.int .u8 0, .int .u32 0, .bool false, .slice none 0 0, .slice none 0 0] 36 5), (2, .cells [.int .u8 x.2.2.2.1, .int .u32 x.2.2.2.2.1, .bool x.2.2.2.2.2, .slice none 0 0, .slice none 0 0] 36 5)] 3 []) (KEnd Tryd.prog Tryd.f59 (FEnd w0 S (match r with | .ok r => .returned (.agg #[.int .u8 r.1, .int .u32 r.2.1, .bool r.2.2.1, ls 1 false (encI .u8) r.2.2.2.1, ls 5 false enc36 r.2.2.2.2.1]) | .error e => panE (.iface 25 (.int .i64 e))) (match r with | .ok r => (mkW 1 [] [(0, .cells [ls 1 false (encI .u8) r.2.2.2.2.2.1, .int .i64 r.2.2.2.2.2.2] 121 2)]) | .error _ => (mkW 1 [] []))))) ∧
  (∀ (x : Int × (List Int) × Int × Int × Int × Bool) (r : Except Int (Int × Int × Bool × (List Int) × (List S36) × (List Int) × Int)), element_L3 x = some r → ∀ (W0 w0 : World) (S : Own), Std W0 w0 S 1 → H Tryd.prog w0 S 128 (cR (cR (cR (cR (cR (cR (cR (cB Tryd.f59)))))))) (mkS [(0, .pointer (some ⟨0, 0, none⟩)), (1, .int .i64 x.1), (4, .pointer (some ⟨1, 0, none⟩)), (6, .pointer (some ⟨2, 0, none⟩))] [(0, .cells [ls 1 false (encI .u8) x.2.1, .int .i64 x.2.2.1] 121 2), (1, .cells [.int .u8 0, .int .u32 0, .bool false, .slice none 0 0, .slice none 0 0] 36 5), (2, .cells [.int .u8 x.2.2.2.1, .int .u32 x.2.2.2.2.1, .bool x.2.2.2.2.2, .slice none 0 0, .slice none 0 0] 36 5)] 3 []) (KEnd Tryd.prog Tryd.f59 (FEnd w0 S (match r with | .ok r => .returned (.agg #[.int .u8 r.1, .int .u32 r.2.1, .bool r.2.2.1, ls 1 false (encI .u8) r.2.2.2.1, ls 5 false enc36 r.2.2.2.2.1]) | .error e => panE (.iface 25 (.int .i64 e))) (match r with | .ok r => (mkW 1 [] [(0, .cells [ls 1 false (encI .u8) r.2.2.2.2.2.1, .int .i64 r.2.2.2.2.2.2] 121 2)]) | .error _ => (mkW 1 [] []))))) ∧
  (∀ (x : Int × (List Int) × Int × Int × Int × Bool × (List S36)) (r : Except Int (Int × Int × Bool × (List Int) × (List S36) × (List Int) × Int)), element_L4 x = some r → ∀ (W0 w0 : World) (S : Own), Std W0 w0 S 1 → HL Tryd.prog w0 S 128 (cL (cL (cL (cR (cL (cL (cR (cR (cR (cR (cR (cR (cR (cR (cB Tryd.f59))))))))))))))) (mkS [(0, .pointer (some ⟨0, 0, none⟩)), (1, .int .i64 x.1), (4, .pointer (some ⟨1, 0, none⟩)), (6, .pointer (some ⟨2, 0, none⟩))] [(0, .cells [ls 1 false (encI .u8) x.2.1, .int .i64 x.2.2.1] 121 2), (1, .cells [.int .u8 0, .int .u32 0, .bool false, .slice none 0 0, tl 5 3 enc36 []] 36 5), (2, .cells [.int .u8 x.2.2.2.1, .int .u32 x.2.2.2.2.1, .bool x.2.2.2.2.2.1, .slice none 0 0, tl 5 4 enc36 x.2.2.2.2.2.2] 36 5)] 5 [4, 3]) (Kblock 1 (Kblock 0 (Kseq Tryd.prog w0 S 128 (cR (cR (cR (cR (cR (cR (cR (cR (cR (cB Tryd.f59)))))))))) (KEnd Tryd.prog Tryd.f59 (FEnd w0 S (match r with | .ok r => .returned (.agg #[.int .u8 r.1, .int .u32 r.2.1, .bool r.2.2.1, ls 1 false (encI .u8) r.2.2.2.1, ls 5 false enc36 r.2.2.2.2.1]) | .error e => panE (.iface 25 (.int .i64 e))) (match r with | .ok r => (mkW 1 [] [(0, .cells [ls 1 false (encI .u8) r.2.2.2.2.2.1, .int .i64 r.2.2.2.2.2.2] 121 2)]) | .error _ => (mkW 1 [] [])))))))) := by
  refine element_L5.mutual_partial_correctness (fun (x : Int × (List Int) × (List Int) × Int × Int × Int × Bool × (List S36)) (r : Except Int (Int × Int × Bool × (List Int) × (List S36) × (List Int) × Int)) => ∀ (W0 w0 : World) (S : Own), Std W0 w0 S 1 → HL Tryd.prog w0 S 128 (cL (cL (cR (cL (cR (cR (cL (cR (cR (cR (cL (cL (cR (cR (cR (cR (cR (cR (cR (cR (cB Tryd.f59))))))))))))))))))))) (mkS [(0, .pointer (some ⟨0, 0, none⟩)), (1, .int .i64 x.1), (4, .pointer (some ⟨1, 0, none⟩)), (6, .pointer (some ⟨2, 0, none⟩)), (10, ls 1 false (encI .u8) x.2.1)] [(0, .cells [ls 1 false (encI .u8) x.2.2.1, .int .i64 x.2.2.2.1] 121 2), (1, .cells [.int .u8 0, .int .u32 0, .bool false, .slice none 0 0, tl 5 3 enc36 []] 36 5), (2, .cells [.int .u8 x.2.2.2.2.1, .int .u32 x.2.2.2.2.2.1, .bool x.2.2.2.2.2.2.1, .slice none 0 0, tl 5 4 enc36 x.2.2.2.2.2.2.2] 36 5)] 5 [4, 3]) (Kblock 3 (Kseq Tryd.prog w0 S 128 (cR (cR (cR (cL (cR (cR (cR (cL (cL (cR (cR (cR (cR (cR (cR (cR (cR (cB Tryd.f59)))))))))))))))))) (Kblock 0 (Kseq Tryd.prog w0 S 128 (cR (cR (cR (cR (cR (cR (cR (cR (cR (cB Tryd.f59)))))))))) (KEnd Tryd.prog Tryd.f59 (FEnd w0 S (match r with | .ok r => .returned (.agg #[.int .u8 r.1, .int .u32 r.2.1, .bool r.2.2.1, ls 1 false (encI .u8) r.2.2.2.1, ls 5 false enc36 r.2.2.2.2.1]) | .error e => panE (.iface 25 (.int .i64 e))) (match r with | .ok r => (mkW 1 [] [(0, .cells [ls 1 false (encI .u8) r.2.2.2.2.2.1, .int .i64 r.2.2.2.2.2.2] 121 2)]) | .error _ => (mkW 1 [] []))))))))) (fun (x : Int × (List Int) × Int) (r : Except Int (Int × Int × Bool × (List Int) × (List S36) × (List Int) × Int)) => ∀ W0 : World, FTo Tryd.prog W0 59 #[.pointer (some ⟨0, 0, none⟩), .int .i64 x.1] (mkW 1 [] [(0, .cells [ls 1 false (encI .u8) x.2.1, .int .i64 x.2.2] 121 2)]) (match r with | .ok r => .returned (.agg #[.int .u8 r.1, .int .u32 r.2.1, .bool r.2.2.1, ls 1 false (encI .u8) r.2.2.2.1, ls 5 false enc36 r.2.2.2.2.1]) | .error e => panE (.iface 25 (.int .i64 e))) (match r with | .ok r => (mkW 1 [] [(0, .cells [ls 1 false (encI .u8) r.2.2.2.2.2.1, .int .i64 r.2.2.2.2.2.2] 121 2)]) | .error _ => (mkW 1 [] []))) (fun (x : Int × (List Int) × Int) (r : Except Int (Int × Int × Bool × (List Int) × (List S36) × (List Int) × Int)) => ∀ (W0 w0 : World) (S : Own), Std W0 w0 S 1 → H Tryd.prog w0 S 128 (cR (cR (cB Tryd.f59))) (mkS [(0, .pointer (some ⟨0, 0, none⟩)), (1, .int .i64 x.1), (4, .pointer (some ⟨1, 0, none⟩))] [(0, .cells [ls 1 false (encI .u8) x.2.1, .int .i64 x.2.2] 121 2), (1, .cells [.int .u8 0, .int .u32 0, .bool false, .slice none 0 0, .slice none 0 0] 36 5)] 2 []) (KEnd Tryd.prog Tryd.f59 (FEnd w0 S (match r with | .ok r => .returned (.agg #[.int .u8 r.1, .int .u32 r.2.1, .bool r.2.2.1, ls 1 false (encI .u8) r.2.2.2.1, ls 5 false enc36 r.2.2.2.2.1]) | .error e => panE (.iface 25 (.int .i64 e))) (match r with | .ok r => (mkW 1 [] [(0, .cells [ls 1 false (encI .u8) r.2.2.2.2.2.1, .int .i64 r.2.2.2.2.2.2] 121 2)]) | .error _ => (mkW 1 [] []))))) (fun (x : Int × (List Int) × Int × Int × Int × Bool) (r : Except Int (Int × Int × Bool × (List Int) × (List S36) × (List Int) × Int)) => ∀ (W0 w0 : World) (S : Own), Std W0 w0 S 1 → H Tryd.prog w0 S 128 (cR (cR (cR (cR (cR (cR (cB Tryd.f59))))))) (mkS [(0, .pointer (some ⟨0, 0, none⟩)), (1, .int .i64 x.1), (4, .pointer (some ⟨1, 0, none⟩)), (6, .pointer (some ⟨2, 0, none⟩))] [(0, .cells [ls 1 false (encI .u8) x.2.1, .int .i64 x.2.2.1] 121 2), (1, .cells [.int .u8 0, .int .u32 0, .bool false, .slice none 0 0, .slice none 0 0] 36 5), (2, .cells [.int .u8 x.2.2.2.1, .int .u32 x.2.2.2.2.1, .bool x.2.2.2.2.2, .slice none 0 0, .slice none 0 0] 36 5)] 3 []) (KEnd Tryd.prog Tryd.f59 (FEnd w0 S (match r with | .ok r => .returned (.agg #[.int .u8 r.1, .int .u32 r.2.1, .bool r.2.2.1, ls 1 false (encI .u8) r.2.2.2.1, ls 5 false enc36 r.2.2.2.2.1]) | .error e => panE (.iface 25 (.int .i64 e))) (match r with | .ok r => (mkW 1 [] [(0, .cells [ls 1 false (encI .u8) r.2.2.2.2.2.1, .int .i64 r.2.2.2.2.2.2] 121 2)]) | .error _ => (mkW 1 [] []))))) (fun (x : Int × (List Int) × Int × Int × Int × Bool) (r : Except Int (Int × Int × Bool × (List Int) × (List S36) × (List Int) × Int)) => ∀ (W0 w0 : World) (S : Own), Std W0 w0 S 1 → H Tryd.prog w0 S 128 (cR (cR (cR (cR (cR (cR (cR (cB Tryd.f59)))))))) (mkS [(0, .pointer (some ⟨0, 0, none⟩)), (1, .int .i64 x.1), (4, .pointer (some ⟨1, 0, none⟩)), (6, .pointer (some ⟨2, 0, none⟩))] [(0, .cells [ls 1 false (encI .u8) x.2.1, .int .i64 x.2.2.1] 121 2), (1, .cells [.int .u8 0, .int .u32 0, .bool false, .slice none 0 0, .slice none 0 0] 36 5), (2, .cells [.int .u8 x.2.2.2.1, .int .u32 x.2.2.2.2.1, .bool x.2.2.2.2.2, .slice none 0 0, .slice none 0 0] 36 5)] 3 []) (KEnd Tryd.prog Tryd.f59 (FEnd w0 S (match r with | .ok r => .returned (.agg #[.int .u8 r.1, .int .u32 r.2.1, .bool r.2.2.1, ls 1 false (encI .u8) r.2.2.2.1, ls 5 false enc36 r.2.2.2.2.1]) | .error e => panE (.iface 25 (.int .i64 e))) (match r with | .ok r => (mkW 1 [] [(0, .cells [ls 1 false (encI .u8) r.2.2.2.2.2.1, .int .i64 r.2.2.2.2.2.2] 121 2)]) | .error _ => (mkW 1 [] []))))) (fun (x : Int × (List Int) × Int × Int × Int × Bool × (List S36)) (r : Except Int (Int × Int × Bool × (List Int) × (List S36) × (List Int) × Int)) => ∀ (W0 w0 : World) (S : Own), Std W0 w0 S 1 → HL Tryd.prog w0 S 128 (cL (cL (cL (cR (cL (cL (cR (cR (cR (cR (cR (cR (cR (cR (cB Tryd.f59))))))))))))))) (mkS [(0, .pointer (some ⟨0, 0, none⟩)), (1, .int .i64 x.1), (4, .pointer (some ⟨1, 0, none⟩)), (6, .pointer (some ⟨2, 0, none⟩))] [(0, .cells [ls 1 false (encI .u8) x.2.1, .int .i64 x.2.2.1] 121 2), (1, .cells [.int .u8 0, .int .u32 0, .bool false, .slice none 0 0, tl 5 3 enc36 []] 36 5), (2, .cells [.int .u8 x.2.2.2.1, .int .u32 x.2.2.2.2.1, .bool x.2.2.2.2.2.1, .slice none 0 0, tl 5 4 enc36 x.2.2.2.2.2.2] 36 5)] 5 [4, 3]) (Kblock 1 (Kblock 0 (Kseq Tryd.prog w0 S 128 (cR (cR (cR (cR (cR (cR (cR (cR (cR (cB Tryd.f59)))))))))) (KEnd Tryd.prog Tryd.f59 (FEnd w0 S (match r with | .ok r => .returned (.agg #[.int .u8 r.1, .int .u32 r.2.1, .bool r.2.2.1, ls 1 false (encI .u8) r.2.2.2.1, ls 5 false enc36 r.2.2.2.2.1]) | .error e => panE (.iface 25 (.int .i64 e))) (match r with | .ok r => (mkW 1 [] [(0, .cells [ls 1 false (encI .u8) r.2.2.2.2.2.1, .int .i64 r.2.2.2.2.2.2] 121 2)]) | .error _ => (mkW 1 [] [])))))))) ?_ ?_ ?_ ?_ ?_ ?_
  · intro g_element_L5 g_element ih_element_L5 ih_element x r h
    intro W0 w0 S hS
    haveI := hS.noEx Tryd.prog
    refine HL.round ?_
    refine H.seq' ?_
    refine H.sg' ?_
    refine HO.go' 5 ?_
    refine HO.len (by kernel_rfl) (by kernel_rfl) (ls_size (encI .u8) x.2.2.1) ?_
    refine HO.fin' 1 ?_
    refine H.cS' (decide (0 < (x.2.2.1.length : Int))) (fun hb => ?_) (fun hb => ?_)
    rotate_left
    · rw [if_neg (of_decide_eq_false hb)] at h
      refine H.ext' 3 ?_
      refine Kseq_exit ?_
      refine Kloop_exit ?_
      refine Kblock_hit ?_
      refine Kseq_norm ?_
      refine H.reg' ?_
      refine HO.go' 6 ?_
      refine HO.end' ?_
      refine Kblock_norm ?_
      refine Kseq_norm ?_
      refine H.wkc 2 36 5 3 [.int .u8 x.2.2.2.2.1, .int .u32 x.2.2.2.2.2.1, .bool x.2.2.2.2.2.2.1, .slice none 0 0, tl 5 4 enc36 x.2.2.2.2.2.2.2] (.slice none 0 0) (ls 1 true (encI .u8) []) (.list 1 true) (by kernel_rfl) ?_
      exact H.ren' hS [0, 1, 2, 3, 4] (element_L6_ok (x.2.1, x.2.2.2.1, x.2.2.2.2.1, x.2.2.2.2.2.1, x.2.2.2.2.2.2.1, [], x.2.2.2.2.2.2.2) r h W0 w0 S hS)
    rw [if_pos (of_decide_eq_true hb)] at h
    refine H.skp' ?_
    refine Kseq_norm ?_
    refine H.blk' 4 ?_
    refine H.drawQ ?_
    refine HQ.go' 5 ?_
    obtain ⟨y15, hy, h⟩ := bindS h
    rcases y15 with y15 | y15
    · dsimp only at h
      refine HQ.panFW hS [4] 5 [4, 3] [(1, .cells [.int .u8 0, .int .u32 0, .bool false, .slice none 0 0, tl 5 3 enc36 []] 36 5), (2, .cells [.int .u8 x.2.2.2.2.1, .int .u32 x.2.2.2.2.2.1, .bool x.2.2.2.2.2.2.1, .slice none 0 0, tl 5 4 enc36 x.2.2.2.2.2.2.2] 36 5)] [0] [.keep, .keep] (ih_element ((IntKind.i64.wrap (x.1 + 1)), x.2.2.1, x.2.2.2.1) (.error y15) hy W0) (by kernel_rfl) (by kernel_rfl) (by kernel_rfl) (by kernel_rfl) ?_
      refine Kblock_pan ?_
      refine Kloop_pan ?_
      refine Kblock_pan ?_
      refine Kseq_pan ?_
      refine Kblock_pan ?_
      refine Kseq_pan ?_
      obtain rfl := Option.some.inj h
      exact KEnd.ofPan (by kernel_rfl) (FEnd.pan hS [0] [] [] (by kernel_rfl))
    dsimp only at h
    refine HQ.callFW hS (.agg #[.int .u8 y15.1, .int .u32 y15.2.1, .bool y15.2.2.1, ls 1 false (encI .u8) y15.2.2.2.1, ls 5 false enc36 y15.2.2.2.2.1]) 5 [4, 3] [(0, .cells [ls 1 false (encI .u8) y15.2.2.2.2.2.1, .int .i64 y15.2.2.2.2.2.2] 121 2), (1, .cells [.int .u8 0, .int .u32 0, .bool false, .slice none 0 0, tl 5 3 enc36 []] 36 5), (2, .cells [.int .u8 x.2.2.2.2.1, .int .u32 x.2.2.2.2.2.1, .bool x.2.2.2.2.2.2.1, .slice none 0 0, tl 5 4 enc36 x.2.2.2.2.2.2.2] 36 5)] [0] [.keep, .keep] (ih_element ((IntKind.i64.wrap (x.1 + 1)), x.2.2.1, x.2.2.2.1) (.ok y15) hy W0) (by kernel_rfl) (by kernel_rfl) ?_
    refine HQ.go' 1 ?_
    obtain ⟨y16, hy, h⟩ := bindS h
    refine HQ.effA (app1_aop (enc := enc36) (k := 5) true 1 [.int .u8 y15.1, .int .u32 y15.2.1, .bool y15.2.2.1, ls 1 false (encI .u8) y15.2.2.2.1, ls 5 false enc36 y15.2.2.2.2.1] [3] hy (by kernel_rfl) (by kernel_rfl) (by simp only [List.map_cons, List.map_nil, enc36_eq]; kernel_rfl)) ?_
    refine HQ.go' 2 ?_
    refine HQ.done (by kernel_rfl) (by kernel_rfl) (by kernel_rfl) ?_
    refine Kblock_norm ?_
    refine Kloop_norm ?_
    exact HL.ren' hS [0, 1, 2, 3, 6] (ih_element_L5 (x.1, x.2.1, y15.2.2.2.2.2.1, y15.2.2.2.2.2.2, x.2.2.2.2.1, x.2.2.2.2.2.1, x.2.2.2.2.2.2.1, y16) r h W0 w0 S hS)
  · intro g_element_L1 ih_element_L1 x r h
    intro W0
    refine FTo.of_body (fn := Tryd.f59) (code := cB Tryd.f59) Tryd.func59 rfl rfl ?_
    intro w0 S hS
    haveI := hS.noEx Tryd.prog
    refine H.sr' 1 ?_
    refine H.sg' ?_
    refine HO.go' 2 ?_
    refine HO.bo' (decide (x.1 ≤ 16)) (fun hb => ?_) (fun hb => ?_)
    · rw [if_pos (of_decide_eq_true hb)] at h
      refine HO.go' 6 ?_
      obtain ⟨y1, hy, h⟩ := bindS h
      rcases y1 with y1 | y1
      · dsimp only at h
        refine HO.panW hS [.keep, .keep] (must_ok ((decide (x.2.2 < 1024)), 3) (.error y1) hy W0) (by kernel_rfl) (by kernel_rfl) ?_
        refine Kseq_pan ?_
        obtain rfl := Option.some.inj h
        exact KEnd.ofPan (by kernel_rfl) (FEnd.pan hS [0] [] [] (by kernel_rfl))
      dsimp only at h
      refine HO.callW hS [.keep, .keep] (must_ok ((decide (x.2.2 < 1024)), 3) (.ok y1) hy W0) (by kernel_rfl) (by kernel_rfl) ?_
      refine HO.fin' 0 ?_
      exact H.ren' hS [0, 1] (ih_element_L1 (x.1, x.2.1, x.2.2) r h W0 w0 S hS)
    rw [if_neg (of_decide_eq_false hb)] at h
    refine HO.go' 6 ?_
    obtain ⟨y2, hy, h⟩ := bindS h
    rcases y2 with y2 | y2
    · dsimp only at h
      refine HO.panW hS [.keep, .keep] (must_ok (false, 3) (.error y2) hy W0) (by kernel_rfl) (by kernel_rfl) ?_
      refine Kseq_pan ?_
      obtain rfl := Option.some.inj h
      exact KEnd.ofPan (by kernel_rfl) (FEnd.pan hS [0] [] [] (by kernel_rfl))
    dsimp only at h
    refine HO.callW hS [.keep, .keep] (must_ok (false, 3) (.ok y2) hy W0) (by kernel_rfl) (by kernel_rfl) ?_
    refine HO.fin' 0 ?_
    exact H.ren' hS [0, 1] (ih_element_L1 (x.1, x.2.1, x.2.2) r h W0 w0 S hS)
  · intro g_element_L2 ih_element_L2 x r h
    intro W0 w0 S hS
    haveI := hS.noEx Tryd.prog
    refine H.sr' 8 ?_
    refine H.sg' ?_
    refine HO.go' 3 ?_
    obtain ⟨y3, hy, h⟩ := bindS h
    rcases y3 with y3 | y3
    · dsimp only at h
      refine HO.panFW hS 2 [] [(1, .cells [.int .u8 0, .int .u32 0, .bool false, .slice none 0 0, .slice none 0 0] 36 5)] [0] [.keep] (next_ok (x.2.1, (IntKind.i64.wrap (x.2.2 + 1))) (.error y3) hy W0) (by kernel_rfl) (by kernel_rfl) ?_
      refine Kseq_pan ?_
      obtain rfl := Option.some.inj h
      exact KEnd.ofPan (by kernel_rfl) (FEnd.pan hS [0] [] [] (by kernel_rfl))
    dsimp only at h
    refine HO.callFW hS (.int .u8 y3.1) 2 [] [(0, .cells [ls 1 false (encI .u8) y3.2.1, .int .i64 y3.2.2] 121 2), (1, .cells [.int .u8 0, .int .u32 0, .bool false, .slice none 0 0, .slice none 0 0] 36 5)] [0] [.keep] (next_ok (x.2.1, (IntKind.i64.wrap (x.2.2 + 1))) (.ok y3) hy W0) (by kernel_rfl) (by kernel_rfl) ?_
    refine HO.fin' 1 ?_
    refine H.sr' 11 ?_
    refine H.seq' ?_
    refine H.sr' 3 ?_
    refine H.cS' (decide ((IntKind.u32.wrap (bAnd .u8 y3.1 31)) = 31)) (fun hb => ?_) (fun hb => ?_)
    rotate_left
    · rw [if_neg (of_decide_eq_false hb)] at h
      refine H.skp' ?_
      refine Kseq_norm ?_
      exact H.ren' hS [0, 1, 2] (ih_element_L2 (x.1, y3.2.1, y3.2.2, (shrI .u8 y3.1 6), (IntKind.u32.wrap (bAnd .u8 y3.1 31)), (decide (0 < (bAnd .u8 y3.1 32)))) r h W0 w0 S hS)
    rw [if_pos (of_decide_eq_true hb)] at h
    refine H.reg' ?_
    refine HO.go' 1 ?_
    obtain ⟨y4, hy, h⟩ := bindS h
    rcases y4 with y4 | y4
    · dsimp only at h
      refine HO.panFW hS 3 [] [(1, .cells [.int .u8 0, .int .u32 0, .bool false, .slice none 0 0, .slice none 0 0] 36 5), (2, .cells [.int .u8 (shrI .u8 y3.1 6), .int .u32 (IntKind.u32.wrap (bAnd .u8 y3.1 31)), .bool (decide (0 < (bAnd .u8 y3.1 32))), .slice none 0 0, .slice none 0 0] 36 5)] [0] [.keep] (numberT_ok (y3.2.1, y3.2.2) (.error y4) hy W0) (by kernel_rfl) (by kernel_rfl) ?_
      refine Kseq_pan ?_
      obtain rfl := Option.some.inj h
      exact KEnd.ofPan (by kernel_rfl) (FEnd.pan hS [0] [] [] (by kernel_rfl))
    dsimp only at h
    refine HO.callFW hS (.int .u32 y4.1) 3 [] [(0, .cells [ls 1 false (encI .u8) y4.2.1, .int .i64 y4.2.2] 121 2), (1, .cells [.int .u8 0, .int .u32 0, .bool false, .slice none 0 0, .slice none 0 0] 36 5), (2, .cells [.int .u8 (shrI .u8 y3.1 6), .int .u32 (IntKind.u32.wrap (bAnd .u8 y3.1 31)), .bool (decide (0 < (bAnd .u8 y3.1 32))), .slice none 0 0, .slice none 0 0] 36 5)] [0] [.keep] (numberT_ok (y3.2.1, y3.2.2) (.ok y4) hy W0) (by kernel_rfl) (by kernel_rfl) ?_
    refine HO.fin' 2 ?_
    exact H.ren' hS [0, 1, 2] (ih_element_L2 (x.1, y4.2.1, y4.2.2, (shrI .u8 y3.1 6), y4.1, (decide (0 < (bAnd .u8 y3.1 32)))) r h W0 w0 S hS)
  · intro g_element_L3 ih_element_L3 x r h
    intro W0 w0 S hS
    haveI := hS.noEx Tryd.prog
    refine H.sg' ?_
    refine HO.go' 3 ?_
    refine HO.bo' (decide (0 < x.2.2.2.1)) (fun hb => ?_) (fun hb => ?_)
    · rw [if_pos (of_decide_eq_true hb)] at h
      refine HO.go' 4 ?_
      obtain ⟨y5, hy, h⟩ := bindS h
      rcases y5 with y5 | y5
      · dsimp only at h
        refine HO.panW hS [.keep, .keep] (must_ok (true, 4) (.error y5) hy W0) (by kernel_rfl) (by kernel_rfl) ?_
        refine Kseq_pan ?_
        obtain rfl := Option.some.inj h
        exact KEnd.ofPan (by kernel_rfl) (FEnd.pan hS [0] [] [] (by kernel_rfl))
      dsimp only at h
      refine HO.callW hS [.keep, .keep] (must_ok (true, 4) (.ok y5) hy W0) (by kernel_rfl) (by kernel_rfl) ?_
      refine HO.fin' 0 ?_
      exact H.ren' hS [0, 1, 2] (ih_element_L3 (x.1, x.2.1, x.2.2.1, x.2.2.2.1, x.2.2.2.2.1, x.2.2.2.2.2) r h W0 w0 S hS)
    rw [if_neg (of_decide_eq_false hb)] at h
    refine HO.go' 4 ?_
    obtain ⟨y6, hy, h⟩ := bindS h
    rcases y6 with y6 | y6
    · dsimp only at h
      refine HO.panW hS [.keep, .keep] (must_ok ((decide (0 < x.2.2.2.2.1)), 4) (.error y6) hy W0) (by kernel_rfl) (by kernel_rfl) ?_
      refine Kseq_pan ?_
      obtain rfl := Option.some.inj h
      exact KEnd.ofPan (by kernel_rfl) (FEnd.pan hS [0] [] [] (by kernel_rfl))
    dsimp only at h
    refine HO.callW hS [.keep, .keep] (must_ok ((decide (0 < x.2.2.2.2.1)), 4) (.ok y6) hy W0) (by kernel_rfl) (by kernel_rfl) ?_
    refine HO.fin' 0 ?_
    exact H.ren' hS [0, 1, 2] (ih_element_L3 (x.1, x.2.1, x.2.2.1, x.2.2.2.1, x.2.2.2.2.1, x.2.2.2.2.2) r h W0 w0 S hS)
  · intro g_element_L5 g_element_L4 ih_element_L5 ih_element_L4 x r h
    intro W0 w0 S hS
    haveI := hS.noEx Tryd.prog
    refine H.sg' ?_
    refine HO.go' 2 ?_
    obtain ⟨y7, hy, h⟩ := bindS h
    rcases y7 with y7 | y7
    · dsimp only at h
      refine HO.panFW hS 3 [] [(1, .cells [.int .u8 0, .int .u32 0, .bool false, .slice none 0 0, .slice none 0 0] 36 5), (2, .cells [.int .u8 x.2.2.2.1, .int .u32 x.2.2.2.2.1, .bool x.2.2.2.2.2, .slice none 0 0, .slice none 0 0] 36 5)] [0] [.keep, .agg [.keep, .keep, .keep, .list 1 false, .list 5 false]] (lengthT_ok (x.2.2.2.1, x.2.2.2.2.1, x.2.2.2.2.2, [], [], x.2.1, x.2.2.1) (.error y7) hy W0) (by kernel_rfl) (by kernel_rfl) ?_
      refine Kseq_pan ?_
      obtain rfl := Option.some.inj h
      exact KEnd.ofPan (by kernel_rfl) (FEnd.pan hS [0] [] [] (by kernel_rfl))
    dsimp only at h
    refine HO.callFW hS (.tuple #[.int .i64 y7.1, .bool y7.2.1]) 3 [] [(0, .cells [ls 1 false (encI .u8) y7.2.2.1, .int .i64 y7.2.2.2] 121 2), (1, .cells [.int .u8 0, .int .u32 0, .bool false, .slice none 0 0, .slice none 0 0] 36 5), (2, .cells [.int .u8 x.2.2.2.1, .int .u32 x.2.2.2.2.1, .bool x.2.2.2.2.2, .slice none 0 0, .slice none 0 0] 36 5)] [0] [.keep, .agg [.keep, .keep, .keep, .list 1 false, .list 5 false]] (lengthT_ok (x.2.2.2.1, x.2.2.2.2.1, x.2.2.2.2.2, [], [], x.2.1, x.2.2.1) (.ok y7) hy W0) (by kernel_rfl) (by kernel_rfl) ?_
    refine HO.fin' 5 ?_
    refine H.seq' ?_
    refine H.blk' 0 ?_
    refine H.sr' 3 ?_
    refine H.cS' (!y7.2.1) (fun hb => ?_) (fun hb => ?_)
    · rw [if_pos hb] at h
      refine H.blk' 1 ?_
      refine H.lop' ?_
      refine HL.tkc 1 36 5 4 5 [.int .u8 0, .int .u32 0, .bool false, .slice none 0 0, .slice none 0 0] (.slice none 0 0) #[] (by kernel_rfl) ?_
      refine HL.tkc 2 36 5 4 5 [.int .u8 x.2.2.2.1, .int .u32 x.2.2.2.2.1, .bool x.2.2.2.2.2, .slice none 0 0, .slice none 0 0] (.slice none 0 0) #[] (by kernel_rfl) ?_
      exact HL.ren' hS [0, 1, 2, 3, 4] (ih_element_L4 (x.1, y7.2.2.1, y7.2.2.2, x.2.2.2.1, x.2.2.2.2.1, x.2.2.2.2.2, []) r h W0 w0 S hS)
    rw [if_neg (ne_true hb)] at h
    refine H.sr' 3 ?_
    refine H.cS' (x.2.2.2.2.2) (fun hb => ?_) (fun hb => ?_)
    rotate_left
    · rw [if_neg (ne_true hb)] at h
      refine H.reg' ?_
      refine HO.go' 4 ?_
      obtain ⟨y12, hy, h⟩ := bindS h
      rcases y12 with y12 | y12
      · dsimp only at h
        refine HO.panFW hS 3 [] [(1, .cells [.int .u8 0, .int .u32 0, .bool false, .slice none 0 0, .slice none 0 0] 36 5), (2, .cells [.int .u8 x.2.2.2.1, .int .u32 x.2.2.2.2.1, .bool x.2.2.2.2.2, .slice none 0 0, .slice none 0 0] 36 5)] [0] [.keep, .keep] (take_ok (y7.1, y7.2.2.1, y7.2.2.2) (.error y12) hy W0) (by kernel_rfl) (by kernel_rfl) ?_
        refine Kblock_pan ?_
        refine Kseq_pan ?_
        obtain rfl := Option.some.inj h
        exact KEnd.ofPan (by kernel_rfl) (FEnd.pan hS [0] [] [] (by kernel_rfl))
      dsimp only at h
      refine HO.callFW hS (ls 1 false (encI .u8) y12.1) 3 [] [(0, .cells [ls 1 false (encI .u8) y12.2.1, .int .i64 y12.2.2] 121 2), (1, .cells [.int .u8 0, .int .u32 0, .bool false, .slice none 0 0, .slice none 0 0] 36 5), (2, .cells [.int .u8 x.2.2.2.1, .int .u32 x.2.2.2.2.1, .bool x.2.2.2.2.2, .slice none 0 0, .slice none 0 0] 36 5)] [0] [.keep, .keep] (take_ok (y7.1, y7.2.2.1, y7.2.2.2) (.ok y12) hy W0) (by kernel_rfl) (by kernel_rfl) ?_
      obtain ⟨y13, hy, h⟩ := bindS h
      refine HO.callW hS [.list 1 false] (cloneB_ok y12.1 y13 hy W0) (by kernel_rfl) (by kernel_rfl) ?_
      obtain ⟨y14, hy, h⟩ := bindS h
      refine HO.callW hS [.list 1 false] (clip_ok y13 y14 hy W0) (by kernel_rfl) (by kernel_rfl) ?_
      refine HO.go' 2 ?_
      refine HO.end' ?_
      refine Kblock_norm ?_
      refine Kseq_norm ?_
      refine H.tkc 1 36 5 4 5 [.int .u8 0, .int .u32 0, .bool false, .slice none 0 0, .slice none 0 0] (.slice none 0 0) #[] (by kernel_rfl) ?_
      refine H.tkc 2 36 5 4 5 [.int .u8 x.2.2.2.1, .int .u32 x.2.2.2.2.1, .bool x.2.2.2.2.2, ls 1 true (encI .u8) y14, .slice none 0 0] (.slice none 0 0) #[] (by kernel_rfl) ?_
      exact H.ren' hS [0, 1, 2, 3, 4] (element_L6_ok (y12.2.1, y12.2.2, x.2.2.2.1, x.2.2.2.2.1, x.2.2.2.2.2, y14, []) r h W0 w0 S hS)
    rw [if_pos hb] at h
    refine H.sg' ?_
    refine HO.go' 4 ?_
    obtain ⟨y11, hy, h⟩ := bindS h
    rcases y11 with y11 | y11
    · dsimp only at h
      refine HO.panFW hS 3 [] [(1, .cells [.int .u8 0, .int .u32 0, .bool false, .slice none 0 0, .slice none 0 0] 36 5), (2, .cells [.int .u8 x.2.2.2.1, .int .u32 x.2.2.2.2.1, .bool x.2.2.2.2.2, .slice none 0 0, .slice none 0 0] 36 5)] [0] [.keep, .keep] (take_ok (y7.1, y7.2.2.1, y7.2.2.2) (.error y11) hy W0) (by kernel_rfl) (by kernel_rfl) ?_
      refine Kseq_pan ?_
      refine Kblock_pan ?_
      refine Kseq_pan ?_
      obtain rfl := Option.some.inj h
      exact KEnd.ofPan (by kernel_rfl) (FEnd.pan hS [0] [] [] (by kernel_rfl))
    dsimp only at h
    refine HO.callFW hS (ls 1 false (encI .u8) y11.1) 3 [] [(0, .cells [ls 1 false (encI .u8) y11.2.1, .int .i64 y11.2.2] 121 2), (1, .cells [.int .u8 0, .int .u32 0, .bool false, .slice none 0 0, .slice none 0 0] 36 5), (2, .cells [.int .u8 x.2.2.2.1, .int .u32 x.2.2.2.2.1, .bool x.2.2.2.2.2, .slice none 0 0, .slice none 0 0] 36 5)] [0] [.keep, .keep] (take_ok (y7.1, y7.2.2.1, y7.2.2.2) (.ok y11) hy W0) (by kernel_rfl) (by kernel_rfl) ?_
    refine HO.fin' 1 ?_
    refine H.sr' 6 ?_
    refine H.seq' ?_
    refine H.sr' 6 ?_
    refine H.blk' 3 ?_
    refine H.lop' ?_
    refine HL.tkc 1 36 5 4 5 [.int .u8 0, .int .u32 0, .bool false, .slice none 0 0, .slice none 0 0] (.slice none 0 0) #[] (by kernel_rfl) ?_
    refine HL.tkc 2 36 5 4 5 [.int .u8 x.2.2.2.1, .int .u32 x.2.2.2.2.1, .bool x.2.2.2.2.2, .slice none 0 0, .slice none 0 0] (.slice none 0 0) #[] (by kernel_rfl) ?_
    exact HL.ren' hS [0, 1, 2, 3, 4] (ih_element_L5 (x.1, y11.2.1, y11.1, y11.2.2, x.2.2.2.1, x.2.2.2.2.1, x.2.2.2.2.2, []) r h W0 w0 S hS)
  · intro g_element g_element_L4 ih_element ih_element_L4 x r h
    intro W0 w0 S hS
    haveI := hS.noEx Tryd.prog
    refine HL.round ?_
    refine H.seq' ?_
    refine H.sg' ?_
    refine HO.go' 1 ?_
    obtain ⟨y8, hy, h⟩ := bindS h
    rcases y8 with y8 | y8
    · dsimp only at h
      refine HO.panFW hS 5 [4, 3] [(1, .cells [.int .u8 0, .int .u32 0, .bool false, .slice none 0 0, tl 5 3 enc36 []] 36 5), (2, .cells [.int .u8 x.2.2.2.1, .int .u32 x.2.2.2.2.1, .bool x.2.2.2.2.2.1, .slice none 0 0, tl 5 4 enc36 x.2.2.2.2.2.2] 36 5)] [0] [.keep] (ahead_ok (x.2.1, x.2.2.1) (.error y8) hy W0) (by kernel_rfl) (by kernel_rfl) ?_
      refine Kseq_pan ?_
      refine Kseq_pan ?_
      refine Kloop_pan ?_
      refine Kblock_pan ?_
      refine Kblock_pan ?_
      refine Kseq_pan ?_
      obtain rfl := Option.some.inj h
      exact KEnd.ofPan (by kernel_rfl) (FEnd.pan hS [0] [] [] (by kernel_rfl))
    dsimp only at h
    refine HO.callFW hS (.bool y8.1) 5 [4, 3] [(0, .cells [ls 1 false (encI .u8) y8.2.1, .int .i64 y8.2.2] 121 2), (1, .cells [.int .u8 0, .int .u32 0, .bool false, .slice none 0 0, tl 5 3 enc36 []] 36 5), (2, .cells [.int .u8 x.2.2.2.1, .int .u32 x.2.2.2.2.1, .bool x.2.2.2.2.2.1, .slice none 0 0, tl 5 4 enc36 x.2.2.2.2.2.2] 36 5)] [0] [.keep] (ahead_ok (x.2.1, x.2.2.1) (.ok y8) hy W0) (by kernel_rfl) (by kernel_rfl) ?_
    refine HO.fin' 0 ?_
    refine H.cS' (y8.1) (fun hb => ?_) (fun hb => ?_)
    rotate_left
    · rw [if_neg (ne_true hb)] at h
      refine H.ext' 1 ?_
      refine Kseq_exit ?_
      refine Kloop_exit ?_
      refine Kblock_hit ?_
      refine Kblock_norm ?_
      refine Kseq_norm ?_
      refine H.wkc 2 36 5 3 [.int .u8 x.2.2.2.1, .int .u32 x.2.2.2.2.1, .bool x.2.2.2.2.2.1, .slice none 0 0, tl 5 4 enc36 x.2.2.2.2.2.2] (.slice none 0 0) (ls 1 true (encI .u8) []) (.list 1 true) (by kernel_rfl) ?_
      exact H.ren' hS [0, 1, 2, 3, 4] (element_L6_ok (y8.2.1, y8.2.2, x.2.2.2.1, x.2.2.2.2.1, x.2.2.2.2.2.1, [], x.2.2.2.2.2.2) r h W0 w0 S hS)
    rw [if_pos hb] at h
    refine H.skp' ?_
    refine Kseq_norm ?_
    refine H.blk' 2 ?_
    refine H.drawQ ?_
    refine HQ.go' 5 ?_
    obtain ⟨y9, hy, h⟩ := bindS h
    rcases y9 with y9 | y9
    · dsimp only at h
      refine HQ.panFW hS [4] 5 [4, 3] [(1, .cells [.int .u8 0, .int .u32 0, .bool false, .slice none 0 0, tl 5 3 enc36 []] 36 5), (2, .cells [.int .u8 x.2.2.2.1, .int .u32 x.2.2.2.2.1, .bool x.2.2.2.2.2.1, .slice none 0 0, tl 5 4 enc36 x.2.2.2.2.2.2] 36 5)] [0] [.keep, .keep] (ih_element ((IntKind.i64.wrap (x.1 + 1)), y8.2.1, y8.2.2) (.error y9) hy W0) (by kernel_rfl) (by kernel_rfl) (by kernel_rfl) (by kernel_rfl) ?_
      refine Kblock_pan ?_
      refine Kloop_pan ?_
      refine Kblock_pan ?_
      refine Kblock_pan ?_
      refine Kseq_pan ?_
      obtain rfl := Option.some.inj h
      exact KEnd.ofPan (by kernel_rfl) (FEnd.pan hS [0] [] [] (by kernel_rfl))
    dsimp only at h
    refine HQ.callFW hS (.agg #[.int .u8 y9.1, .int .u32 y9.2.1, .bool y9.2.2.1, ls 1 false (encI .u8) y9.2.2.2.1, ls 5 false enc36 y9.2.2.2.2.1]) 5 [4, 3] [(0, .cells [ls 1 false (encI .u8) y9.2.2.2.2.2.1, .int .i64 y9.2.2.2.2.2.2] 121 2), (1, .cells [.int .u8 0, .int .u32 0, .bool false, .slice none 0 0, tl 5 3 enc36 []] 36 5), (2, .cells [.int .u8 x.2.2.2.1, .int .u32 x.2.2.2.2.1, .bool x.2.2.2.2.2.1, .slice none 0 0, tl 5 4 enc36 x.2.2.2.2.2.2] 36 5)] [0] [.keep, .keep] (ih_element ((IntKind.i64.wrap (x.1 + 1)), y8.2.1, y8.2.2) (.ok y9) hy W0) (by kernel_rfl) (by kernel_rfl) ?_
    refine HQ.go' 1 ?_
    obtain ⟨y10, hy, h⟩ := bindS h
    refine HQ.effA (app1_aop (enc := enc36) (k := 5) true 1 [.int .u8 y9.1, .int .u32 y9.2.1, .bool y9.2.2.1, ls 1 false (encI .u8) y9.2.2.2.1, ls 5 false enc36 y9.2.2.2.2.1] [3] hy (by kernel_rfl) (by kernel_rfl) (by simp only [List.map_cons, List.map_nil, enc36_eq]; kernel_rfl)) ?_
    refine HQ.go' 2 ?_
    refine HQ.done (by kernel_rfl) (by kernel_rfl) (by kernel_rfl) ?_
    refine Kblock_norm ?_
    refine Kloop_norm ?_
    exact HL.ren' hS [0, 1, 2, 3, 6] (ih_element_L4 (x.1, y9.2.2.2.2.2.1, y9.2.2.2.2.2.2, x.2.2.2.1, x.2.2.2.2.1, x.2.2.2.2.2.1, y10) r h W0 w0 S hS)
theorem element_L5_ok : ∀ (x : Int × (List Int) × (List Int) × Int × Int × Int × Bool × (List S36)) (r : Except Int (Int × Int × Bool × (List Int) × (List S36) × (List Int) × Int)), element_L5 x = some r → ∀ (W0 w0 : World) (S : Own), Std W0 w0 S 1 → HL Tryd.prog w0 S 128 (cL (cL (cR (cL (cR (cR (cL (cR (cR (cR (cL (cL (cR (cR (cR (cR (cR (cR (cR (cR (cB Tryd.f59))))))))))))))))))))) (mkS [(0, .pointer (some ⟨0, 0, none⟩)), (1, .int .i64 x.1), (4, .pointer (some ⟨1, 0, none⟩)), (6, .pointer (some ⟨2, 0, none⟩)), (10, ls 1 false (encI .u8) x.2.1)] [(0, .cells [ls 1 false (encI .u8) x.2.2.1, .int .i64 x.2.2.2.1] 121 2), (1, .cells [.int .u8 0, .int .u32 0, .bool false, .slice none 0 0, tl 5 3 enc36 []] 36 5), (2, .cells [.int .u8 x.2.2.2.2.1, .int .u32 x.2.2.2.2.2.1, .bool x.2.2.2.2.2.2.1, .slice none 0 0, tl 5 4 enc36 x.2.2.2.2.2.2.2] 36 5)] 5 [4, 3]) (Kblock 3 (Kseq Tryd.prog w0 S 128 (cR (cR (cR (cL (cR (cR (cR (cL (cL (cR (cR (cR (cR (cR (cR (cR (cR (cB Tryd.f59)))))))))))))))))) (Kblock 0 (Kseq Tryd.prog w0 S 128 (cR (cR (cR (cR (cR (cR (cR (cR (cR (cB Tryd.f59)))))))))) (KEnd Tryd.prog Tryd.f59 (FEnd w0 S (match r with | .ok r => .returned (.agg #[.int .u8 r.1, .int .u32 r.2.1, .bool r.2.2.1, ls 1 false (encI .u8) r.2.2.2.1, ls 5 false enc36 r.2.2.2.2.1]) | .error e => panE (.iface 25 (.int .i64 e))) (match r with | .ok r => (mkW 1 [] [(0, .cells [ls 1 false (encI .u8) r.2.2.2.2.2.1, .int .i64 r.2.2.2.2.2.2] 121 2)]) | .error _ => (mkW 1 [] [])))))))) := element_L5_grp.1
theorem element_ok : ∀ (x : Int × (List Int) × Int) (r : Except Int (Int × Int × Bool × (List Int) × (List S36) × (List Int) × Int)), element x = some r → ∀ W0 : World, FTo Tryd.prog W0 59 #[.pointer (some ⟨0, 0, none⟩), .int .i64 x.1] (mkW 1 [] [(0, .cells [ls 1 false (encI .u8) x.2.1, .int .i64 x.2.2] 121 2)]) (match r with | .ok r => .returned (.agg #[.int .u8 r.1, .int .u32 r.2.1, .bool r.2.2.1, ls 1 false (encI .u8) r.2.2.2.1, ls 5 false enc36 r.2.2.2.2.1]) | .error e => panE (.iface 25 (.int .i64 e))) (match r with | .ok r => (mkW 1 [] [(0, .cells [ls 1 false (encI .u8) r.2.2.2.2.2.1, .int .i64 r.2.2.2.2.2.2] 121 2)]) | .error _ => (mkW 1 [] [])) := element_L5_grp.2.1
theorem element_L1_ok : ∀ (x : Int × (List Int) × Int) (r : Except Int (Int × Int × Bool × (List Int) × (List S36) × (List Int) × Int)), element_L1 x = some r → ∀ (W0 w0 : World) (S : Own), Std W0 w0 S 1 → H Tryd.prog w0 S 128 (cR (cR (cB Tryd.f59))) (mkS [(0, .pointer (some ⟨0, 0, none⟩)), (1, .int .i64 x.1), (4, .pointer (some ⟨1, 0, none⟩))] [(0, .cells [ls 1 false (encI .u8) x.2.1, .int .i64 x.2.2] 121 2), (1, .cells [.int .u8 0, .int .u32 0, .bool false, .slice none 0 0, .slice none 0 0] 36 5)] 2 []) (KEnd Tryd.prog Tryd.f59 (FEnd w0 S (match r with | .ok r => .returned (.agg #[.int .u8 r.1, .int .u32 r.2.1, .bool r.2.2.1, ls 1 false (encI .u8) r.2.2.2.1, ls 5 false enc36 r.2.2.2.2.1]) | .error e => panE (.iface 25 (.int .i64 e))) (match r with | .ok r => (mkW 1 [] [(0, .cells [ls 1 false (encI .u8) r.2.2.2.2.2.1, .int .i64 r.2.2.2.2.2.2] 121 2)]) | .error _ => (mkW 1 [] [])))) := element_L5_grp.2.2.1
theorem element_L2_ok : ∀ (x : Int × (List Int) × Int × Int × Int × Bool) (r : Except Int (Int × Int × Bool × (List Int) × (List S36) × (List Int) × Int)), element_L2 x = some r → ∀ (W0 w0 : World) (S : Own), Std W0 w0 S 1 → H Tryd.prog w0 S 128 (cR (cR (cR (cR (cR (cR (cB Tryd.f59))))))) (mkS [(0, .pointer (some ⟨0, 0, none⟩)), (1, .int .i64 x.1), (4, .pointer (some ⟨1, 0, none⟩)), (6, .pointer (some ⟨2, 0, none⟩))] [(0, .cells [ls 1 false (encI .u8) x.2.1, .int .i64 x.2.2.1] 121 2), (1, .cells [.int .u8 0, .int .u32 0, .bool false, .slice none 0 0, .slice none 0 0] 36 5), (2, .cells [.int .u8 x.2.2.2.1, .int .u32 x.2.2.2.2.1, .bool x.2.2.2.2.2, .slice none 0 0, .slice none 0 0] 36 5)] 3 []) (KEnd Tryd.prog Tryd.f59 (FEnd w0 S (match r with | .ok r => .returned (.agg #[.int .u8 r.1, .int .u32 r.2.1, .bool r.2.2.1, ls 1 false (encI .u8) r.2.2.2.1, ls 5 false enc36 r.2.2.2.2.1]) | .error e => panE (.iface 25 (.int .i64 e))) (match r with | .ok r => (mkW 1 [] [(0, .cells [ls 1 false (encI .u8) r.2.2.2.2.2.1, .int .i64 r.2.2.2.2.2.2] 121 2)]) | .error _ => (mkW 1 [] [])))) := element_L5_grp.2.2.2.1
theorem element_L3_ok : ∀ (x : Int × (List Int) × Int × Int × Int × Bool) (r : Except Int (Int × Int × Bool × (List Int) × (List S36) × (List Int) × Int)), element_L3 x = some r → ∀ (W0 w0 : World) (S : Own), Std W0 w0 S 1 → H Tryd.prog w0 S 128 (cR (cR (cR (cR (cR (cR (cR (cB Tryd.f59)))))))) (mkS [(0, .pointer (some ⟨0, 0, none⟩)), (1, .int .i64 x.1), (4, .pointer (some ⟨1, 0, none⟩)), (6, .pointer (some ⟨2, 0, none⟩))] [(0, .cells [ls 1 false (encI .u8) x.2.1, .int .i64 x.2.2.1] 121 2), (1, .cells [.int .u8 0, .int .u32 0, .bool false, .slice none 0 0, .slice none 0 0] 36 5), (2, .cells [.int .u8 x.2.2.2.1, .int .u32 x.2.2.2.2.1, .bool x.2.2.2.2.2, .slice none 0 0, .slice none 0 0] 36 5)] 3 []) (KEnd Tryd.prog Tryd.f59 (FEnd w0 S (match r with | .ok r => .returned (.agg #[.int .u8 r.1, .int .u32 r.2.1, .bool r.2.2.1, ls 1 false (encI .u8) r.2.2.2.1, ls 5 false enc36 r.2.2.2.2.1]) | .error e => panE (.iface 25 (.int .i64 e))) (match r with | .ok r => (mkW 1 [] [(0, .cells [ls 1 false (encI .u8) r.2.2.2.2.2.1, .int .i64 r.2.2.2.2.2.2] 121 2)]) | .error _ => (mkW 1 [] [])))) := element_L5_grp.2.2.2.2.1
theorem element_L4_ok : ∀ (x : Int × (List Int) × Int × Int × Int × Bool × (List S36)) (r : Except Int (Int × Int × Bool × (List Int) × (List S36) × (List Int) × Int)), element_L4 x = some r → ∀ (W0 w0 : World) (S : Own), Std W0 w0 S 1 → HL Tryd.prog w0 S 128 (cL (cL (cL (cR (cL (cL (cR (cR (cR (cR (cR (cR (cR (cR (cB Tryd.f59))))))))))))))) (mkS [(0, .pointer (some ⟨0, 0, none⟩)), (1, .int .i64 x.1), (4, .pointer (some ⟨1, 0, none⟩)), (6, .pointer (some ⟨2, 0, none⟩))] [(0, .cells [ls 1 false (encI .u8) x.2.1, .int .i64 x.2.2.1] 121 2), (1, .cells [.int .u8 0, .int .u32 0, .bool false, .slice none 0 0, tl 5 3 enc36 []] 36 5), (2, .cells [.int .u8 x.2.2.2.1, .int .u32 x.2.2.2.2.1, .bool x.2.2.2.2.2.1, .slice none 0 0, tl 5 4 enc36 x.2.2.2.2.2.2] 36 5)] 5 [4, 3]) (Kblock 1 (Kblock 0 (Kseq Tryd.prog w0 S 128 (cR (cR (cR (cR (cR (cR (cR (cR (cR (cB Tryd.f59)))))))))) (KEnd Tryd.prog Tryd.f59 (FEnd w0 S (match r with | .ok r => .returned (.agg #[.int .u8 r.1, .int .u32 r.2.1, .bool r.2.2.1, ls 1 false (encI .u8) r.2.2.2.1, ls 5 false enc36 r.2.2.2.2.1]) | .error e => panE (.iface 25 (.int .i64 e))) (match r with | .ok r => (mkW 1 [] [(0, .cells [ls 1 false (encI .u8) r.2.2.2.2.2.1, .int .i64 r.2.2.2.2.2.2] 121 2)]) | .error _ => (mkW 1 [] []))))))) := element_L5_grp.2.2.2.2.2
def first (x : (List Int)) : Option (Int × Int × Bool × (List Int) × (List S36) × Int × Int) :=
  if 65536 < (x.length : Int) then
    some (0, 0, false, [], [], 0, 3)
  else
    (element (1, x, 0)) >>= fun y1 =>
    match y1 with
    | .error y1 =>
      some (0, 0, false, [], [], 0, y1)
    | .ok y1 =>
      some (y1.1, y1.2.1, y1.2.2.1, y1.2.2.2.1, y1.2.2.2.2.1, (IntKind.i64.wrap ((x.length : Int) - (y1.2.2.2.2.2.1.length : Int))), 0)
theorem first_ok : ∀ (x : (List Int)) (r : Int × Int × Bool × (List Int) × (List S36) × Int × Int), first x = some r → ∀ W0 : World, PTo Tryd.prog W0 23 #[ls 1 false (encI .u8) x] (.returned (.tuple #[.agg #[.int .u8 r.1, .int .u32 r.2.1, .bool r.2.2.1, ls 1 false (encI .u8) r.2.2.2.1, ls 5 false enc36 r.2.2.2.2.1], .int .i64 r.2.2.2.2.2.1, .int .i64 r.2.2.2.2.2.2])) := by
  intro x r h
  unfold first at h
  intro W0
  refine PTo.of_body (fn := Tryd.f23) (code := cB Tryd.f23) Tryd.func23 rfl rfl ?_
  intro w0 S hS
  haveI := hS.noEx Tryd.prog
  refine H.sr' 3 ?_
  refine H.seq' ?_
  refine H.sg' ?_
  refine HO.go' 1 ?_
  refine HO.len (by kernel_rfl) (by kernel_rfl) (ls_size (encI .u8) x) ?_
  refine HO.fin' 1 ?_
  refine H.cS' (decide (65536 < (x.length : Int))) (fun hb => ?_) (fun hb => ?_)
  · rw [if_pos (of_decide_eq_true hb)] at h
    refine H.sr' 4 ?_
    refine H.ret' ?_
    refine Kseq_ret ?_
    obtain rfl := Option.some.inj h
    exact KEnd.retW (v := .tuple #[.agg #[.int .u8 0, .int .u32 0, .bool false, .slice none 0 0, .slice none 0 0], .int .i64 0, .int .i64 3]) (.tuple [.agg [.keep, .keep, .keep, .list 1 false, .list 5 false], .keep, .keep]) (by kernel_rfl) (by kernel_rfl) (by kernel_rfl) (by kernel_rfl)
  rw [if_neg (of_decide_eq_false hb)] at h
  refine H.skp' ?_
  refine Kseq_norm ?_
  refine H.sr' 2 ?_
  refine H.sr' 5 ?_
  refine H.sg' ?_
  refine HO.go' 1 ?_
  obtain ⟨y1, hy, h⟩ := bindS h
  rcases y1 with y1 | y1
  · dsimp only at h
    refine HO.panFW hS 4 [] [(0, .cells [.int .u8 0, .int .u32 0, .bool false, .slice none 0 0, .slice none 0 0] 36 5), (1, .cells [.int .i64 0] 3 1), (2, .cells [.int .i64 0] 25 1)] [3] [.keep, .keep] (element_ok (1, x, 0) (.error y1) hy W0) (by kernel_rfl) (by kernel_rfl) ?_
    refine Kseq_pan ?_
    obtain rfl := Option.some.inj h
    exact KEnd.genP (e := .returned (.tuple #[.agg #[.int .u8 0, .int .u32 0, .bool false, .slice none 0 0, .slice none 0 0], .int .i64 0, .int .i64 y1])) (by kernel_rfl) (PEnd.wk (v1 := .tuple #[.agg #[.int .u8 0, .int .u32 0, .bool false, ls 1 false (encI .u8) [], ls 5 false enc36 []], .int .i64 0, .int .i64 y1]) (.tuple [.agg [.keep, .keep, .keep, .list 1 false, .list 5 false], .keep, .keep]) (by kernel_rfl) (PEnd.fin (by kernel_rfl)))
  dsimp only at h
  refine HO.callFW hS (.agg #[.int .u8 y1.1, .int .u32 y1.2.1, .bool y1.2.2.1, ls 1 false (encI .u8) y1.2.2.2.1, ls 5 false enc36 y1.2.2.2.2.1]) 4 [] [(0, .cells [.int .u8 0, .int .u32 0, .bool false, .slice none 0 0, .slice none 0 0] 36 5), (1, .cells [.int .i64 0] 3 1), (2, .cells [.int .i64 0] 25 1), (3, .cells [ls 1 false (encI .u8) y1.2.2.2.2.2.1, .int .i64 y1.2.2.2.2.2.2] 121 2)] [3] [.keep, .keep] (element_ok (1, x, 0) (.ok y1) hy W0) (by kernel_rfl) (by kernel_rfl) ?_
  refine HO.fin' 1 ?_
  refine H.seq' ?_
  refine H.drawQ ?_
  refine HQ.go' 2 ?_
  refine HQ.len (by kernel_rfl) (ls_size (encI .u8) x) ?_
  refine HQ.go' 5 ?_
  refine HQ.len (by kernel_rfl) (ls_size (encI .u8) y1.2.2.2.2.2.1) ?_
  refine HQ.go' 4 ?_
  refine HQ.done (by kernel_rfl) (by kernel_rfl) (by kernel_rfl) ?_
  refine Kseq_norm ?_
  refine H.ret' ?_
  obtain rfl := Option.some.inj h
  exact KEnd.genR (by kernel_rfl) (e := .returned (.tuple #[.agg #[.int .u8 y1.1, .int .u32 y1.2.1, .bool y1.2.2.1, ls 1 false (encI .u8) y1.2.2.2.1, ls 5 false enc36 y1.2.2.2.2.1], .int .i64 (IntKind.i64.wrap ((x.length : Int) - (y1.2.2.2.2.2.1.length : Int))), .int .i64 0])) (by kernel_rfl) (PEnd.wk (v1 := .tuple #[.agg #[.int .u8 y1.1, .int .u32 y1.2.1, .bool y1.2.2.1, ls 1 false (encI .u8) y1.2.2.2.1, ls 5 false enc36 y1.2.2.2.2.1], .int .i64 (IntKind.i64.wrap ((x.length : Int) - (y1.2.2.2.2.2.1.length : Int))), .int .i64 0]) (.tuple [.agg [.keep, .keep, .keep, .list 1 false, .list 5 false], .keep, .keep]) (by kernel_rfl) (PEnd.fin (by kernel_rfl)))
def decode (x : (List Int)) : Option (Int × Int × Bool × (List Int) × (List S36) × Int) :=
  (first x) >>= fun y1 =>
  if (!decide (y1.2.2.2.2.2.2 = 0)) = true then
    some (0, 0, false, [], [], y1.2.2.2.2.2.2)
  else
    if y1.2.2.2.2.2.1 < (x.length : Int) then
      some (0, 0, false, [], [], 4)
    else
      some (y1.1, y1.2.1, y1.2.2.1, y1.2.2.2.1, y1.2.2.2.2.1, 0)
theorem decode_ok : ∀ (x : (List Int)) (r : Int × Int × Bool × (List Int) × (List S36) × Int), decode x = some r → ∀ W0 : World, PTo Tryd.prog W0 24 #[ls 1 false (encI .u8) x] (.returned (.tuple #[.agg #[.int .u8 r.1, .int .u32 r.2.1, .bool r.2.2.1, ls 1 false (encI .u8) r.2.2.2.1, ls 5 false enc36 r.2.2.2.2.1], .int .i64 r.2.2.2.2.2])) := by
  intro x r h
  unfold decode at h
  intro W0
  refine PTo.of_body (fn := Tryd.f24) (code := cB Tryd.f24) Tryd.func24 rfl rfl ?_
  intro w0 S hS
  haveI := hS.noEx Tryd.prog
  refine H.sr' 2 ?_
  refine H.sg' ?_
  refine HO.go' 1 ?_
  obtain ⟨y1, hy, h⟩ := bindS h
  refine HO.callW hS [.list 1 false] (first_ok x y1 hy W0) (by kernel_rfl) (by kernel_rfl) ?_
  refine HO.fin' 8 ?_
  refine H.seq' ?_
  refine H.blk' 0 ?_
  refine H.sr' 3 ?_
  refine H.cS' (!decide (y1.2.2.2.2.2.2 = 0)) (fun hb => ?_) (fun hb => ?_)
  · rw [if_pos hb] at h
    refine H.sr' 4 ?_
    refine H.ret' ?_
    refine Kblock_ret ?_
    refine Kseq_ret ?_
    obtain rfl := Option.some.inj h
    exact KEnd.retW (v := .tuple #[.agg #[.int .u8 0, .int .u32 0, .bool false, .slice none 0 0, .slice none 0 0], .int .i64 y1.2.2.2.2.2.2]) (.tuple [.agg [.keep, .keep, .keep, .list 1 false, .list 5 false], .keep]) (by kernel_rfl) (by kernel_rfl) (by kernel_rfl) (by kernel_rfl)
  rw [if_neg (ne_true hb)] at h
  refine H.sg' ?_
  refine HO.go' 2 ?_
  refine HO.len (by kernel_rfl) (by kernel_rfl) (ls_size (encI .u8) x) ?_
  refine HO.fin' 2 ?_
  refine H.cS' (decide (y1.2.2.2.2.2.1 < (x.length : Int))) (fun hb => ?_) (fun hb => ?_)
  · rw [if_pos (of_decide_eq_true hb)] at h
    refine H.sr' 3 ?_
    refine H.ret' ?_
    refine Kblock_ret ?_
    refine Kseq_ret ?_
    obtain rfl := Option.some.inj h
    exact KEnd.retW (v := .tuple #[.agg #[.int .u8 0, .int .u32 0, .bool false, .slice none 0 0, .slice none 0 0], .int .i64 4]) (.tuple [.agg [.keep, .keep, .keep, .list 1 false, .list 5 false], .keep]) (by kernel_rfl) (by kernel_rfl) (by kernel_rfl) (by kernel_rfl)
  rw [if_neg (of_decide_eq_false hb)] at h
  refine H.skp' ?_
  refine Kblock_norm ?_
  refine Kseq_norm ?_
  refine H.sr' 3 ?_
  refine H.ret' ?_
  obtain rfl := Option.some.inj h
  exact KEnd.retW (v := .tuple #[.agg #[.int .u8 y1.1, .int .u32 y1.2.1, .bool y1.2.2.1, ls 1 false (encI .u8) y1.2.2.2.1, ls 5 false enc36 y1.2.2.2.2.1], .int .i64 0]) (.tuple [.agg [.keep, .keep, .keep, .list 1 false, .list 5 false], .keep]) (by kernel_rfl) (by kernel_rfl) (by kernel_rfl) (by kernel_rfl)
def cpDecode_L2 (x : (List S70) × Int × (List S36) × Int) : Option ((List S70) × Int) :=
  if x.2.2.2 < x.2.1 then
    (at' x.2.2.1 x.2.2.2) >>= fun y3 =>
    (cpOf (y3.c0, y3.c1, y3.c2, y3.c3, y3.c4)) >>= fun y4 =>
    if y4.2.2.2.2.2.2.2.2.2.2.2.2 = 0 then
      (appR 64 (x.2.1).toNat x.1 (S70.mk y4.1 y4.2.1 y4.2.2.1 y4.2.2.2.1 y4.2.2.2.2.1 y4.2.2.2.2.2.1)) >>= fun y5 =>
      cpDecode_L2 (y5, x.2.1, x.2.2.1, (IntKind.i64.wrap (x.2.2.2 + 1)))
    else
      some ([], 4)
  else
    (fullR (x.2.1).toNat x.1) >>= fun y6 =>
    some (y6, 0)
partial_fixpoint
theorem cpDecode_L2_ok : ∀ (x : (List S70) × Int × (List S36) × Int) (r : (List S70) × Int), cpDecode_L2 x = some r → ∀ (W0 w0 : World) (S : Own), Std W0 w0 S 0 → HL Tryd.prog w0 S 65 (cL (cL (cR (cL (cR (cR (cR (cR (cL (cR (cB Tryd.f42))))))))))) (mkS [(6, .slice (some ⟨0, 0, none⟩) x.1.length (x.2.1).toNat), (45, ls 5 false enc36 x.2.2.1), (46, .int .i64 x.2.1), (47, .int .i64 x.2.2.2)] [(0, .cells (rowL enc70 [.int .u8 0, .int .i64 0, .int .i64 0, .int .i64 0, .int .u8 0, .slice none 0 0] x.1 (x.2.1).toNat) 70 6)] 1 []) (Kblock 1 (Kseq Tryd.prog w0 S 65 (cR (cR (cR (cR (cR (cL (cR (cB Tryd.f42)))))))) (KEnd Tryd.prog Tryd.f42 (PEnd w0 S (.returned (.tuple #[ls 6 true enc70 r.1, .int .i64 r.2])))))) := by
  refine cpDecode_L2.partial_correctness (fun (x : (List S70) × Int × (List S36) × Int) (r : (List S70) × Int) => ∀ (W0 w0 : World) (S : Own), Std W0 w0 S 0 → HL Tryd.prog w0 S 65 (cL (cL (cR (cL (cR (cR (cR (cR (cL (cR (cB Tryd.f42))))))))))) (mkS [(6, .slice (some ⟨0, 0, none⟩) x.1.length (x.2.1).toNat), (45, ls 5 false enc36 x.2.2.1), (46, .int .i64 x.2.1), (47, .int .i64 x.2.2.2)] [(0, .cells (rowL enc70 [.int .u8 0, .int .i64 0, .int .i64 0, .int .i64 0, .int .u8 0, .slice none 0 0] x.1 (x.2.1).toNat) 70 6)] 1 []) (Kblock 1 (Kseq Tryd.prog w0 S 65 (cR (cR (cR (cR (cR (cL (cR (cB Tryd.f42)))))))) (KEnd Tryd.prog Tryd.f42 (PEnd w0 S (.returned (.tuple #[ls 6 true enc70 r.1, .int .i64 r.2]))))))) ?_
  intro self ih_cpDecode_L2 x r h
  intro W0 w0 S hS
  haveI := hS.noEx Tryd.prog
  refine HL.round ?_
  refine H.sr' 1 ?_
  refine H.seq' ?_
  refine H.cS' (decide (x.2.2.2 < x.2.1)) (fun hb => ?_) (fun hb => ?_)
  rotate_left
  · rw [if_neg (of_decide_eq_false hb)] at h
    refine H.ext' 1 ?_
    refine Kseq_exit ?_
    refine Kloop_exit ?_
    refine Kblock_hit ?_
    refine Kseq_norm ?_
    refine H.sr' 3 ?_
    obtain ⟨y6, hy, h⟩ := bindS h
    refine H.rowFrz (id := 0) (z := [.int .u8 0, .int .i64 0, .int .i64 0, .int .i64 0, .int .u8 0, .slice none 0 0]) (te := 70) enc70_ok 2 hy (by kernel_rfl) ?_
    refine H.ret' ?_
    obtain rfl := Option.some.inj h
    exact KEnd.retW (v := .tuple #[ls 6 true enc70 y6, .int .i64 0]) (.tuple [.list 6 true, .keep]) (by kernel_rfl) (by kernel_rfl) (by kernel_rfl) (by kernel_rfl)
  rw [if_pos (of_decide_eq_true hb)] at h
  refine H.skp' ?_
  refine Kseq_norm ?_
  refine H.seq' ?_
  refine H.blk' 2 ?_
  refine H.sg' ?_
  obtain ⟨y3, hy, h⟩ := bindS h
  refine HO.idx (.agg #[.int .u8 y3.c0, .int .u32 y3.c1, .bool y3.c2, ls 1 false (encI .u8) y3.c3, ls 5 false enc36 y3.c4]) hy (enc36_eq y3) (by kernel_rfl) ?_
  refine HO.fin' 3 ?_
  refine H.sg' ?_
  refine HO.go' 1 ?_
  obtain ⟨y4, hy, h⟩ := bindS h
  refine HO.callW hS [.agg [.keep, .keep, .keep, .list 1 false, .list 5 false]] (cpOf_ok (y3.c0, y3.c1, y3.c2, y3.c3, y3.c4) y4 hy W0) (by kernel_rfl) (by kernel_rfl) ?_
  refine HO.fin' 9 ?_
  refine H.seq' ?_
  refine H.sr' 2 ?_
  refine H.cS' (decide (y4.2.2.2.2.2.2.2.2.2.2.2.2 = 0)) (fun hb => ?_) (fun hb => ?_)
  rotate_left
  · rw [if_neg (of_decide_eq_false hb)] at h
    refine H.skp' ?_
    refine Kseq_norm ?_
    refine H.sr' 2 ?_
    refine H.ret' ?_
    refine Kblock_ret ?_
    refine Kseq_ret ?_
    refine Kloop_ret ?_
    refine Kblock_ret ?_
    refine Kseq_ret ?_
    obtain rfl := Option.some.inj h
    exact KEnd.retW (v := .tuple #[.slice none 0 0, .int .i64 4]) (.tuple [.list 6 true, .keep]) (by kernel_rfl) (by kernel_rfl) (by kernel_rfl) (by kernel_rfl)
  rw [if_pos (of_decide_eq_true hb)] at h
  refine H.sg' ?_
  refine HO.go' 3 ?_
  obtain ⟨y5, hy, h⟩ := bindS h
  refine HO.rowApp (enc := enc70) (id := 0) (elem := 70) (z := [.int .u8 0, .int .i64 0, .int .i64 0, .int .i64 0, .int .u8 0, .slice none 0 0]) (new := [.int .u8 y4.1, .int .i64 y4.2.1, .int .i64 y4.2.2.1, .int .i64 y4.2.2.2.1, .int .u8 y4.2.2.2.2.1, ls 1 false (encI .u8) y4.2.2.2.2.2.1]) enc70_ok.size hy (by kernel_rfl) rfl (by kernel_rfl) (by kernel_rfl) ?_
  refine HO.fin' 1 ?_
  refine H.ext' 2 ?_
  refine Kseq_exit ?_
  refine Kblock_hit ?_
  refine Kseq_norm ?_
  refine H.reg' ?_
  refine HO.go' 2 ?_
  refine HO.end' ?_
  refine Kloop_norm ?_
  exact HL.renR hS 0 [0] _ _ _ (by intro p hp hr; simp only [List.mem_cons, List.not_mem_nil, or_false] at hp; rcases hp with rfl <;> first | exact row_ren (fun f x => (by rw [enc70_eq]; rfl)) (fun f => rfl) _ _ | exact absurd hr (by decide)) (by kernel_rfl) (ih_cpDecode_L2 (y5, x.2.1, x.2.2.1, (IntKind.i64.wrap (x.2.2.2 + 1))) r h W0 w0 S hS)
def cpDecode_L1 (x : Bool × Int × Int × Bool × (List Int) × (List S36)) : Option ((List S70) × Int) :=
  if x.1 = true then
    some ([], 4)
  else
    if 16 < (x.2.2.2.2.2.length : Int) then
      some ([], 3)
    else
      (mkR 64 (x.2.2.2.2.2.length : Int)) >>= fun y2 =>
      cpDecode_L2 (([] : List S70), (x.2.2.2.2.2.length : Int), x.2.2.2.2.2, 0)
theorem cpDecode_L1_ok : ∀ (x : Bool × Int × Int × Bool × (List Int) × (List S36)) (r : (List S70) × Int), cpDecode_L1 x = some r → ∀ (W0 w0 : World) (S : Own), Std W0 w0 S 0 → H Tryd.prog w0 S 65 (cR (cR (cR (cL (cL (cR (cL (cR (cB Tryd.f42))))))))) (mkS [(4, .pointer (some ⟨0, 0, none⟩)), (21, .bool x.1)] [(0, .cells [.int .u8 x.2.1, .int .u32 x.2.2.1, .bool x.2.2.2.1, ls 1 false (encI .u8) x.2.2.2.2.1, ls 5 false enc36 x.2.2.2.2.2] 36 5)] 1 []) (Kblock 0 (Kseq Tryd.prog w0 S 65 (cR (cR (cL (cR (cB Tryd.f42))))) (KEnd Tryd.prog Tryd.f42 (PEnd w0 S (.returned (.tuple #[ls 6 true enc70 r.1, .int .i64 r.2])))))) := by
  intro x r h
  unfold cpDecode_L1 at h
  intro W0 w0 S hS
  haveI := hS.noEx Tryd.prog
  refine H.cS' (x.1) (fun hb => ?_) (fun hb => ?_)
  · rw [if_pos hb] at h
    refine H.sr' 2 ?_
    refine H.ret' ?_
    refine Kblock_ret ?_
    refine Kseq_ret ?_
    obtain rfl := Option.some.inj h
    exact KEnd.retW (v := .tuple #[.slice none 0 0, .int .i64 4]) (.tuple [.list 6 true, .keep]) (by kernel_rfl) (by kernel_rfl) (by kernel_rfl) (by kernel_rfl)
  rw [if_neg (ne_true hb)] at h
  refine H.sg' ?_
  refine HO.go' 2 ?_
  refine HO.len (by kernel_rfl) (by kernel_rfl) (ls_size enc36 x.2.2.2.2.2) ?_
  refine HO.fin' 2 ?_
  refine H.cS' (decide (16 < (x.2.2.2.2.2.length : Int))) (fun hb => ?_) (fun hb => ?_)
  · rw [if_pos (of_decide_eq_true hb)] at h
    refine H.sr' 2 ?_
    refine H.ret' ?_
    refine Kblock_ret ?_
    refine Kseq_ret ?_
    obtain rfl := Option.some.inj h
    exact KEnd.retW (v := .tuple #[.slice none 0 0, .int .i64 3]) (.tuple [.list 6 true, .keep]) (by kernel_rfl) (by kernel_rfl) (by kernel_rfl) (by kernel_rfl)
  rw [if_neg (of_decide_eq_false hb)] at h
  refine H.skp' ?_
  refine Kblock_norm ?_
  refine Kseq_norm ?_
  refine H.sg' ?_
  refine HO.go' 2 ?_
  refine HO.len (by kernel_rfl) (by kernel_rfl) (ls_size enc36 x.2.2.2.2.2) ?_
  obtain ⟨y2, hy, h⟩ := bindS h
  refine HO.rowMk (α := S70) (enc := enc70) (k := 6) (elem := 70) (z := [.int .u8 0, .int .i64 0, .int .i64 0, .int .i64 0, .int .u8 0, .slice none 0 0]) hy (by kernel_rfl) ?_
  refine HO.fin' 1 ?_
  refine H.seq' ?_
  refine H.labelP (by kernel_rfl) ?_
  refine Kseq_norm ?_
  refine H.seq' ?_
  refine H.sg' ?_
  refine HO.go' 2 ?_
  refine HO.len (by kernel_rfl) (by kernel_rfl) (ls_size enc36 x.2.2.2.2.2) ?_
  refine HO.fin' 1 ?_
  refine H.blk' 1 ?_
  refine H.lop' ?_
  exact HL.renR hS 0 [1] _ _ _ (by intro p hp hr; simp only [List.mem_cons, List.not_mem_nil, or_false] at hp; rcases hp with rfl <;> first | exact row_ren (fun f x => (by rw [enc70_eq]; rfl)) (fun f => rfl) _ _ | exact absurd hr (by decide)) (by kernel_rfl) (cpDecode_L2_ok (([] : List S70), (x.2.2.2.2.2.length : Int), x.2.2.2.2.2, 0) r h W0 w0 S hS)
def cpDecode (x : (List Int)) : Option ((List S70) × Int) :=
  (decode x) >>= fun y1 =>
  if (!decide (y1.2.2.2.2.2 = 0)) = true then
    some ([], y1.2.2.2.2.2)
  else
    if (!y1.2.2.1) = true then
      cpDecode_L1 (true, y1.1, y1.2.1, y1.2.2.1, y1.2.2.2.1, y1.2.2.2.2.1)
    else
      if (!decide (y1.1 = 1)) = true then
        cpDecode_L1 (true, y1.1, y1.2.1, y1.2.2.1, y1.2.2.2.1, y1.2.2.2.2.1)
      else
        cpDecode_L1 ((!decide (y1.2.1 = 1)), y1.1, y1.2.1, y1.2.2.1, y1.2.2.2.1, y1.2.2.2.2.1)
theorem cpDecode_ok : ∀ (x : (List Int)) (r : (List S70) × Int), cpDecode x = some r → ∀ W0 : World, PTo Tryd.prog W0 42 #[ls 1 false (encI .u8) x] (.returned (.tuple #[ls 6 true enc70 r.1, .int .i64 r.2])) := by
  intro x r h
  unfold cpDecode at h
  intro W0
  refine PTo.of_body (fn := Tryd.f42) (code := cB Tryd.f42) Tryd.func42 rfl rfl ?_
  intro w0 S hS
  haveI := hS.noEx Tryd.prog
  refine H.sr' 2 ?_
  refine H.scopeP (by kernel_rfl) ?_
  refine H.sg' ?_
  refine HO.go' 1 ?_
  obtain ⟨y1, hy, h⟩ := bindS h
  refine HO.callW hS [.list 1 false] (decode_ok x y1 hy W0) (by kernel_rfl) (by kernel_rfl) ?_
  refine HO.fin' 6 ?_
  refine H.seq' ?_
  refine H.blk' 0 ?_
  refine H.sr' 3 ?_
  refine H.cS' (!decide (y1.2.2.2.2.2 = 0)) (fun hb => ?_) (fun hb => ?_)
  · rw [if_pos hb] at h
    refine H.sr' 3 ?_
    refine H.ret' ?_
    refine Kblock_ret ?_
    refine Kseq_ret ?_
    obtain rfl := Option.some.inj h
    exact KEnd.retW (v := .tuple #[.slice none 0 0, .int .i64 y1.2.2.2.2.2]) (.tuple [.list 6 true, .keep]) (by kernel_rfl) (by kernel_rfl) (by kernel_rfl) (by kernel_rfl)
  rw [if_neg (ne_true hb)] at h
  refine H.sg' ?_
  refine HO.go' 3 ?_
  refine HO.bo' (!y1.2.2.1) (fun hb => ?_) (fun hb => ?_)
  · rw [if_pos hb] at h
    refine HO.fin' 10 ?_
    exact H.ren' hS [0] (cpDecode_L1_ok (true, y1.1, y1.2.1, y1.2.2.1, y1.2.2.2.1, y1.2.2.2.2.1) r h W0 w0 S hS)
  rw [if_neg (ne_true hb)] at h
  refine HO.go' 4 ?_
  refine HO.bo' (!decide (y1.1 = 1)) (fun hb => ?_) (fun hb => ?_)
  · rw [if_pos hb] at h
    refine HO.fin' 5 ?_
    exact H.ren' hS [0] (cpDecode_L1_ok (true, y1.1, y1.2.1, y1.2.2.1, y1.2.2.2.1, y1.2.2.2.2.1) r h W0 w0 S hS)
  rw [if_neg (ne_true hb)] at h
  refine HO.fin' 5 ?_
  exact H.ren' hS [0] (cpDecode_L1_ok ((!decide (y1.2.1 = 1)), y1.1, y1.2.1, y1.2.2.1, y1.2.2.2.1, y1.2.2.2.2.1) r h W0 w0 S hS)
mutual
def law_L8 (x : (List S70) × (List S70) × (List S70) × Int × Bool) : Option (Bool) :=
  if x.2.2.2.2 = true then
    some false
  else
    law_L7 (x.1, x.2.1, x.2.2.1, (IntKind.i64.wrap (x.2.2.2.1 + 1)))
partial_fixpoint
def law_L7 (x : (List S70) × (List S70) × (List S70) × Int) : Option (Bool) :=
  if x.2.2.2 < (x.1.length : Int) then
    (at' x.2.1 x.2.2.2) >>= fun y20 =>
    (at' x.1 x.2.2.2) >>= fun y21 =>
    (sameC (y20.c0, y20.c1, y20.c2, y20.c3, y20.c4, y20.c5, y21.c0, y21.c1, y21.c2, y21.c3, y21.c4, y21.c5)) >>= fun y22 =>
    if (!y22) = true then
      law_L8 (x.1, x.2.1, x.2.2.1, x.2.2.2, true)
    else
      (at' x.2.2.1 x.2.2.2) >>= fun y23 =>
      (at' x.1 x.2.2.2) >>= fun y24 =>
      (sameC (y23.c0, y23.c1, y23.c2, y23.c3, y23.c4, y23.c5, y24.c0, y24.c1, y24.c2, y24.c3, y24.c4, y24.c5)) >>= fun y25 =>
      law_L8 (x.1, x.2.1, x.2.2.1, x.2.2.2, (!y25))
  else
    some true
partial_fixpoint
end
theorem law_L8_grp : (∀ (x : (List S70) × (List S70) × (List S70) × Int × Bool) (r : Bool), law_L8 x = some r → ∀ (W0 w0 : World) (S : Own), Std W0 w0 S 0 → PTo Tryd.prog W0 29 #[] (.returned (.bool true)) → H Tryd.prog w0 S 221 (cR (cL (cL (cR (cL (cL (cR (cL (cR (cR (cR (cR (cR (cR (cR (cR (cR (cR (cR (cR (cR (cB Tryd.f8)))))))))))))))))))))) (mkS [(7, ls 6 false enc70 x.1), (21, ls 6 true enc70 x.2.1), (23, ls 6 true enc70 x.2.2.1), (25, .int .i64 x.2.2.2.1), (219, .bool x.2.2.2.2)] [] 0 []) (Kblock 5 (Kseq Tryd.prog w0 S 221 (cR (cR (cL (cL (cR (cL (cR (cR (cR (cR (cR (cR (cR (cR (cR (cR (cR (cR (cR (cB Tryd.f8)))))))))))))))))))) (Kloop Tryd.prog w0 S 221 (cL (cL (cR (cL (cR (cR (cR (cR (cR (cR (cR (cR (cR (cR (cR (cR (cR (cB Tryd.f8)))))))))))))))))) (Kblock 4 (Kseq Tryd.prog w0 S 221 (cR (cR (cR (cR (cR (cR (cR (cR (cR (cR (cR (cR (cR (cR (cB Tryd.f8))))))))))))))) (KEnd Tryd.prog Tryd.f8 (PEnd w0 S (.returned (.bool r)))))))))) ∧
  (∀ (x : (List S70) × (List S70) × (List S70) × Int) (r : Bool), law_L7 x = some r → ∀ (W0 w0 : World) (S : Own), Std W0 w0 S 0 → PTo Tryd.prog W0 29 #[] (.returned (.bool true)) → HL Tryd.prog w0 S 221 (cL (cL (cR (cL (cR (cR (cR (cR (cR (cR (cR (cR (cR (cR (cR (cR (cR (cB Tryd.f8)))))))))))))))))) (mkS [(7, ls 6 false enc70 x.1), (21, ls 6 true enc70 x.2.1), (23, ls 6 true enc70 x.2.2.1), (25, .int .i64 x.2.2.2)] [] 0 []) (Kblock 4 (Kseq Tryd.prog w0 S 221 (cR (cR (cR (cR (cR (cR (cR (cR (cR (cR (cR (cR (cR (cR (cB Tryd.f8))))))))))))))) (KEnd Tryd.prog Tryd.f8 (PEnd w0 S (.returned (.bool r))))))) := by
  refine law_L8.mutual_partial_correctness (fun (x : (List S70) × (List S70) × (List S70) × Int × Bool) (r : Bool) => ∀ (W0 w0 : World) (S : Own), Std W0 w0 S 0 → PTo Tryd.prog W0 29 #[] (.returned (.bool true)) → H Tryd.prog w0 S 221 (cR (cL (cL (cR (cL (cL (cR (cL (cR (cR (cR (cR (cR (cR (cR (cR (cR (cR (cR (cR (cR (cB Tryd.f8)))))))))))))))))))))) (mkS [(7, ls 6 false enc70 x.1), (21, ls 6 true enc70 x.2.1), (23, ls 6 true enc70 x.2.2.1), (25, .int .i64 x.2.2.2.1), (219, .bool x.2.2.2.2)] [] 0 []) (Kblock 5 (Kseq Tryd.prog w0 S 221 (cR (cR (cL (cL (cR (cL (cR (cR (cR (cR (cR (cR (cR (cR (cR (cR (cR (cR (cR (cB Tryd.f8)))))))))))))))))))) (Kloop Tryd.prog w0 S 221 (cL (cL (cR (cL (cR (cR (cR (cR (cR (cR (cR (cR (cR (cR (cR (cR (cR (cB Tryd.f8)))))))))))))))))) (Kblock 4 (Kseq Tryd.prog w0 S 221 (cR (cR (cR (cR (cR (cR (cR (cR (cR (cR (cR (cR (cR (cR (cB Tryd.f8))))))))))))))) (KEnd Tryd.prog Tryd.f8 (PEnd w0 S (.returned (.bool r)))))))))) (fun (x : (List S70) × (List S70) × (List S70) × Int) (r : Bool) => ∀ (W0 w0 : World) (S : Own), Std W0 w0 S 0 → PTo Tryd.prog W0 29 #[] (.returned (.bool true)) → HL Tryd.prog w0 S 221 (cL (cL (cR (cL (cR (cR (cR (cR (cR (cR (cR (cR (cR (cR (cR (cR (cR (cB Tryd.f8)))))))))))))))))) (mkS [(7, ls 6 false enc70 x.1), (21, ls 6 true enc70 x.2.1), (23, ls 6 true enc70 x.2.2.1), (25, .int .i64 x.2.2.2)] [] 0 []) (Kblock 4 (Kseq Tryd.prog w0 S 221 (cR (cR (cR (cR (cR (cR (cR (cR (cR (cR (cR (cR (cR (cR (cB Tryd.f8))))))))))))))) (KEnd Tryd.prog Tryd.f8 (PEnd w0 S (.returned (.bool r))))))) ?_ ?_
  · intro g_law_L7 ih_law_L7 x r h
    intro W0 w0 S hS
    intro HLV
    haveI := hS.noEx Tryd.prog
    refine H.cS' (x.2.2.2.2) (fun hb => ?_) (fun hb => ?_)
    rotate_left
    · rw [if_neg (ne_true hb)] at h
      refine H.skp' ?_
      refine Kblock_norm ?_
      refine Kseq_norm ?_
      refine H.reg' ?_
      refine HO.go' 3 ?_
      refine HO.end' ?_
      refine Kloop_norm ?_
      exact HL.ren' hS [] (ih_law_L7 (x.1, x.2.1, x.2.2.1, (IntKind.i64.wrap (x.2.2.2.1 + 1))) r h W0 w0 S hS HLV)
    rw [if_pos hb] at h
    refine H.sr' 1 ?_
    refine H.ret' ?_
    refine Kblock_ret ?_
    refine Kseq_ret ?_
    refine Kloop_ret ?_
    refine Kblock_ret ?_
    refine Kseq_ret ?_
    obtain rfl := Option.some.inj h
    exact KEnd.r'
  · intro g_law_L8 ih_law_L8 x r h
    intro W0 w0 S hS
    intro HLV
    haveI := hS.noEx Tryd.prog
    refine HL.round ?_
    refine H.seq' ?_
    refine H.sg' ?_
    refine HO.go' 2 ?_
    refine HO.len (by kernel_rfl) (by kernel_rfl) (ls_size enc70 x.1) ?_
    refine HO.fin' 1 ?_
    refine H.cS' (decide (x.2.2.2 < (x.1.length : Int))) (fun hb => ?_) (fun hb => ?_)
    rotate_left
    · rw [if_neg (of_decide_eq_false hb)] at h
      refine H.ext' 4 ?_
      refine Kseq_exit ?_
      refine Kloop_exit ?_
      refine Kblock_hit ?_
      refine Kseq_norm ?_
      refine H.sg' ?_
      refine HO.callW hS [] HLV (by kernel_rfl) (by kernel_rfl) ?_
      refine HO.fin' 1 ?_
      refine H.ret' ?_
      obtain rfl := Option.some.inj h
      exact KEnd.r'
    rw [if_pos (of_decide_eq_true hb)] at h
    refine H.skp' ?_
    refine Kseq_norm ?_
    refine H.seq' ?_
    refine H.blk' 5 ?_
    refine H.seq' ?_
    refine H.drawQ ?_
    refine HQ.go' 2 ?_
    obtain ⟨y20, hy, h⟩ := bindS h
    refine HQ.idx (.agg #[.int .u8 y20.c0, .int .i64 y20.c1, .int .i64 y20.c2, .int .i64 y20.c3, .int .u8 y20.c4, ls 1 false (encI .u8) y20.c5]) hy (enc70_eq y20) (by kernel_rfl) ?_
    refine HQ.go' 3 ?_
    obtain ⟨y21, hy, h⟩ := bindS h
    refine HQ.idx (.agg #[.int .u8 y21.c0, .int .i64 y21.c1, .int .i64 y21.c2, .int .i64 y21.c3, .int .u8 y21.c4, ls 1 false (encI .u8) y21.c5]) hy (enc70_eq y21) (by kernel_rfl) ?_
    refine HQ.go' 1 ?_
    obtain ⟨y22, hy, h⟩ := bindS h
    refine HQ.callW hS [.agg [.keep, .keep, .keep, .keep, .keep, .list 1 false], .agg [.keep, .keep, .keep, .keep, .keep, .list 1 false]] (sameC_ok (y20.c0, y20.c1, y20.c2, y20.c3, y20.c4, y20.c5, y21.c0, y21.c1, y21.c2, y21.c3, y21.c4, y21.c5) y22 hy W0) (by kernel_rfl) (by kernel_rfl) ?_
    refine HQ.go' 1 ?_
    refine HQ.boolP (!y22) (by kernel_rfl) (by kernel_rfl) (fun hb => ?_) (fun hb => ?_)
    · rw [if_pos hb] at h
      refine HQ.go' 11 ?_
      refine HQ.calm (by kernel_rfl) (by kernel_rfl) (by kernel_rfl) (by kernel_rfl) ?_
      refine Kseq_norm ?_
      exact H.ren' hS [] (ih_law_L8 (x.1, x.2.1, x.2.2.1, x.2.2.2, true) r h W0 w0 S hS HLV)
    rw [if_neg (ne_true hb)] at h
    refine HQ.go' 2 ?_
    obtain ⟨y23, hy, h⟩ := bindS h
    refine HQ.idx (.agg #[.int .u8 y23.c0, .int .i64 y23.c1, .int .i64 y23.c2, .int .i64 y23.c3, .int .u8 y23.c4, ls 1 false (encI .u8) y23.c5]) hy (enc70_eq y23) (by kernel_rfl) ?_
    refine HQ.go' 3 ?_
    obtain ⟨y24, hy, h⟩ := bindS h
    refine HQ.idx (.agg #[.int .u8 y24.c0, .int .i64 y24.c1, .int .i64 y24.c2, .int .i64 y24.c3, .int .u8 y24.c4, ls 1 false (encI .u8) y24.c5]) hy (enc70_eq y24) (by kernel_rfl) ?_
    refine HQ.go' 1 ?_
    obtain ⟨y25, hy, h⟩ := bindS h
    refine HQ.callW hS [.agg [.keep, .keep, .keep, .keep, .keep, .list 1 false], .agg [.keep, .keep, .keep, .keep, .keep, .list 1 false]] (sameC_ok (y23.c0, y23.c1, y23.c2, y23.c3, y23.c4, y23.c5, y24.c0, y24.c1, y24.c2, y24.c3, y24.c4, y24.c5) y25 hy W0) (by kernel_rfl) (by kernel_rfl) ?_
    refine HQ.go' 2 ?_
    refine HQ.calm (by kernel_rfl) (by kernel_rfl) (by kernel_rfl) (by kernel_rfl) ?_
    refine Kseq_norm ?_
    exact H.ren' hS [] (ih_law_L8 (x.1, x.2.1, x.2.2.1, x.2.2.2, (!y25)) r h W0 w0 S hS HLV)
theorem law_L8_ok : ∀ (x : (List S70) × (List S70) × (List S70) × Int × Bool) (r : Bool), law_L8 x = some r → ∀ (W0 w0 : World) (S : Own), Std W0 w0 S 0 → PTo Tryd.prog W0 29 #[] (.returned (.bool true)) → H Tryd.prog w0 S 221 (cR (cL (cL (cR (cL (cL (cR (cL (cR (cR (cR (cR (cR (cR (cR (cR (cR (cR (cR (cR (cR (cB Tryd.f8)))))))))))))))))))))) (mkS [(7, ls 6 false enc70 x.1), (21, ls 6 true enc70 x.2.1), (23, ls 6 true enc70 x.2.2.1), (25, .int .i64 x.2.2.2.1), (219, .bool x.2.2.2.2)] [] 0 []) (Kblock 5 (Kseq Tryd.prog w0 S 221 (cR (cR (cL (cL (cR (cL (cR (cR (cR (cR (cR (cR (cR (cR (cR (cR (cR (cR (cR (cB Tryd.f8)))))))))))))))))))) (Kloop Tryd.prog w0 S 221 (cL (cL (cR (cL (cR (cR (cR (cR (cR (cR (cR (cR (cR (cR (cR (cR (cR (cB Tryd.f8)))))))))))))))))) (Kblock 4 (Kseq Tryd.prog w0 S 221 (cR (cR (cR (cR (cR (cR (cR (cR (cR (cR (cR (cR (cR (cR (cB Tryd.f8))))))))))))))) (KEnd Tryd.prog Tryd.f8 (PEnd w0 S (.returned (.bool r))))))))) := law_L8_grp.1
theorem law_L7_ok : ∀ (x : (List S70) × (List S70) × (List S70) × Int) (r : Bool), law_L7 x = some r → ∀ (W0 w0 : World) (S : Own), Std W0 w0 S 0 → PTo Tryd.prog W0 29 #[] (.returned (.bool true)) → HL Tryd.prog w0 S 221 (cL (cL (cR (cL (cR (cR (cR (cR (cR (cR (cR (cR (cR (cR (cR (cR (cR (cB Tryd.f8)))))))))))))))))) (mkS [(7, ls 6 false enc70 x.1), (21, ls 6 true enc70 x.2.1), (23, ls 6 true enc70 x.2.2.1), (25, .int .i64 x.2.2.2)] [] 0 []) (Kblock 4 (Kseq Tryd.prog w0 S 221 (cR (cR (cR (cR (cR (cR (cR (cR (cR (cR (cR (cR (cR (cR (cB Tryd.f8))))))))))))))) (KEnd Tryd.prog Tryd.f8 (PEnd w0 S (.returned (.bool r)))))) := law_L8_grp.2
def law_L6 (x : (List S70) × (List S70) × (List S70) × Bool) : Option (Bool) :=
  if x.2.2.2 = true then
    some false
  else
    law_L7 (x.1, x.2.1, x.2.2.1, 0)
theorem law_L6_ok : ∀ (x : (List S70) × (List S70) × (List S70) × Bool) (r : Bool), law_L6 x = some r → ∀ (W0 w0 : World) (S : Own), Std W0 w0 S 0 → PTo Tryd.prog W0 29 #[] (.returned (.bool true)) → H Tryd.prog w0 S 221 (cR (cL (cR (cR (cR (cR (cR (cR (cR (cR (cR (cR (cR (cR (cB Tryd.f8))))))))))))))) (mkS [(7, ls 6 false enc70 x.1), (21, ls 6 true enc70 x.2.1), (23, ls 6 true enc70 x.2.2.1), (191, .bool x.2.2.2)] [] 0 []) (Kseq Tryd.prog w0 S 221 (cR (cR (cR (cR (cR (cR (cR (cR (cR (cR (cR (cR (cR (cB Tryd.f8)))))))))))))) (KEnd Tryd.prog Tryd.f8 (PEnd w0 S (.returned (.bool r))))) := by
  intro x r h
  unfold law_L6 at h
  intro W0 w0 S hS
  intro HLV
  haveI := hS.noEx Tryd.prog
  refine H.cS' (x.2.2.2) (fun hb => ?_) (fun hb => ?_)
  · rw [if_pos hb] at h
    refine H.sr' 1 ?_
    refine H.ret' ?_
    refine Kseq_ret ?_
    obtain rfl := Option.some.inj h
    exact KEnd.r'
  rw [if_neg (ne_true hb)] at h
  refine H.skp' ?_
  refine Kseq_norm ?_
  refine H.seq' ?_
  refine H.sr' 1 ?_
  refine H.blk' 4 ?_
  refine H.lop' ?_
  exact HL.ren' hS [] (law_L7_ok (x.1, x.2.1, x.2.2.1, 0) r h W0 w0 S hS HLV)
mutual
def law_L5 (x : Int × (List S70) × Int × Bool × (List S36) × Int × Int × Bool × (List Int) × (List S36)) : Option (Bool) :=
  if x.2.2.2.1 = true then
    some false
  else
    (app' 64 x.2.2.2.2.1 [(S36.mk x.2.2.2.2.2.1 x.2.2.2.2.2.2.1 x.2.2.2.2.2.2.2.1 x.2.2.2.2.2.2.2.2.1 x.2.2.2.2.2.2.2.2.2)]) >>= fun y14 =>
    law_L4 (x.1, x.2.1, (IntKind.i64.wrap (x.2.2.1 + 1)), y14)
partial_fixpoint
def law_L4 (x : Int × (List S70) × Int × (List S36)) : Option (Bool) :=
  if x.2.2.1 < (x.2.1.length : Int) then
    (at' x.2.1 x.2.2.1) >>= fun y3 =>
    (cpTree (y3.c0, y3.c1, y3.c2, y3.c3, y3.c4, y3.c5)) >>= fun y4 =>
    (cpOf (y4.1, y4.2.1, y4.2.2.1, y4.2.2.2.1, y4.2.2.2.2.1)) >>= fun y5 =>
    if (!decide (y4.2.2.2.2.2 = 0)) = true then
      law_L5 (x.1, x.2.1, x.2.2.1, true, x.2.2.2, y4.1, y4.2.1, y4.2.2.1, y4.2.2.2.1, y4.2.2.2.2.1)
    else
      (at' x.2.1 x.2.2.1) >>= fun y6 =>
      (lawTree (y6.c0, y6.c1, y6.c2, y6.c3, y6.c4, y6.c5)) >>= fun y7 =>
      (sameT (y4.1, y4.2.1, y4.2.2.1, y4.2.2.2.1, y4.2.2.2.2.1, y7.1, y7.2.1, y7.2.2.1, y7.2.2.2.1, y7.2.2.2.2)) >>= fun y8 =>
      if (!y8) = true then
        law_L5 (x.1, x.2.1, x.2.2.1, true, x.2.2.2, y4.1, y4.2.1, y4.2.2.1, y4.2.2.2.1, y4.2.2.2.2.1)
      else
        if (!decide (y5.2.2.2.2.2.2.2.2.2.2.2.2 = 0)) = true then
          law_L5 (x.1, x.2.1, x.2.2.1, true, x.2.2.2, y4.1, y4.2.1, y4.2.2.1, y4.2.2.2.1, y4.2.2.2.2.1)
        else
          (at' x.2.1 x.2.2.1) >>= fun y9 =>
          (sameC (y5.1, y5.2.1, y5.2.2.1, y5.2.2.2.1, y5.2.2.2.2.1, y5.2.2.2.2.2.1, y9.c0, y9.c1, y9.c2, y9.c3, y9.c4, y9.c5)) >>= fun y10 =>
          if (!y10) = true then
            law_L5 (x.1, x.2.1, x.2.2.1, true, x.2.2.2, y4.1, y4.2.1, y4.2.2.1, y4.2.2.2.1, y4.2.2.2.2.1)
          else
            (zeroC (y5.2.2.2.2.2.2.1, y5.2.2.2.2.2.2.2.1, y5.2.2.2.2.2.2.2.2.1, y5.2.2.2.2.2.2.2.2.2.1, y5.2.2.2.2.2.2.2.2.2.2.1, y5.2.2.2.2.2.2.2.2.2.2.2.1)) >>= fun y11 =>
            if (!y11) = true then
              law_L5 (x.1, x.2.1, x.2.2.1, true, x.2.2.2, y4.1, y4.2.1, y4.2.2.1, y4.2.2.2.1, y4.2.2.2.2.1)
            else
              (at' x.2.1 x.2.2.1) >>= fun y12 =>
              (cpCheck (y12.c0, y12.c1, y12.c2, y12.c3, y12.c4, y12.c5)) >>= fun y13 =>
              law_L5 (x.1, x.2.1, x.2.2.1, (!decide (y13 = 0)), x.2.2.2, y4.1, y4.2.1, y4.2.2.1, y4.2.2.2.1, y4.2.2.2.2.1)
  else
    (cpEncode x.2.1) >>= fun y15 =>
    (encodeC (1, 1, true, [], x.2.2.2)) >>= fun y16 =>
    (encodeAs (1, 1, true, [], x.2.2.2, (remI .u8 x.1 3))) >>= fun y17 =>
    (cpDecode y15.1) >>= fun y18 =>
    (cpDecode y17.1) >>= fun y19 =>
    if (!decide (y15.2 = 0)) = true then
      law_L6 (x.2.1, y18.1, y19.1, true)
    else
      if (!decide (y16.2 = 0)) = true then
        law_L6 (x.2.1, y18.1, y19.1, true)
      else
        if (!decide (y17.2 = 0)) = true then
          law_L6 (x.2.1, y18.1, y19.1, true)
        else
          if (!decide (y18.2 = 0)) = true then
            law_L6 (x.2.1, y18.1, y19.1, true)
          else
            if (!decide (y19.2 = 0)) = true then
              law_L6 (x.2.1, y18.1, y19.1, true)
            else
              if (!(strEq (bytesU y15.1) (bytesU y16.1))) = true then
                law_L6 (x.2.1, y18.1, y19.1, true)
              else
                if (!decide ((y18.1.length : Int) = (x.2.1.length : Int))) = true then
                  law_L6 (x.2.1, y18.1, y19.1, true)
                else
                  if (!decide ((y19.1.length : Int) = (x.2.1.length : Int))) = true then
                    law_L6 (x.2.1, y18.1, y19.1, true)
                  else
                    law_L6 (x.2.1, y18.1, y19.1, (!decide ((y18.1.length : Int) = (y18.1.length : Int))))
partial_fixpoint
end
theorem law_L5_grp : (∀ (x : Int × (List S70) × Int × Bool × (List S36) × Int × Int × Bool × (List Int) × (List S36)) (r : Bool), law_L5 x = some r → ∀ (W0 w0 : World) (S : Own), Std W0 w0 S 0 → PTo Tryd.prog W0 29 #[] (.returned (.bool true)) → H Tryd.prog w0 S 221 (cR (cL (cR (cR (cL (cL (cR (cL (cL (cR (cL (cR (cR (cR (cR (cR (cR (cB Tryd.f8)))))))))))))))))) (mkS [(1, .int .u8 x.1), (7, ls 6 false enc70 x.2.1), (8, .pointer (some ⟨0, 0, none⟩)), (9, .int .i64 x.2.2.1), (10, .pointer (some ⟨1, 0, none⟩)), (112, .bool x.2.2.2.1)] [(0, .cells [.int .u8 1, .int .u32 1, .bool true, .slice none 0 0, tl 5 2 enc36 x.2.2.2.2.1] 36 5), (1, .cells [.int .u8 x.2.2.2.2.2.1, .int .u32 x.2.2.2.2.2.2.1, .bool x.2.2.2.2.2.2.2.1, ls 1 false (encI .u8) x.2.2.2.2.2.2.2.2.1, ls 5 false enc36 x.2.2.2.2.2.2.2.2.2] 36 5)] 3 [2]) (Kseq Tryd.prog w0 S 221 (cR (cR (cR (cL (cL (cR (cL (cL (cR (cL (cR (cR (cR (cR (cR (cR (cB Tryd.f8))))))))))))))))) (Kblock 3 (Kseq Tryd.prog w0 S 221 (cR (cR (cL (cL (cR (cL (cR (cR (cR (cR (cR (cR (cB Tryd.f8))))))))))))) (Kloop Tryd.prog w0 S 221 (cL (cL (cR (cL (cR (cR (cR (cR (cR (cR (cB Tryd.f8))))))))))) (Kblock 2 (Kseq Tryd.prog w0 S 221 (cR (cR (cR (cR (cR (cR (cR (cB Tryd.f8)))))))) (KEnd Tryd.prog Tryd.f8 (PEnd w0 S (.returned (.bool r))))))))))) ∧
  (∀ (x : Int × (List S70) × Int × (List S36)) (r : Bool), law_L4 x = some r → ∀ (W0 w0 : World) (S : Own), Std W0 w0 S 0 → PTo Tryd.prog W0 29 #[] (.returned (.bool true)) → HL Tryd.prog w0 S 221 (cL (cL (cR (cL (cR (cR (cR (cR (cR (cR (cB Tryd.f8))))))))))) (mkS [(1, .int .u8 x.1), (7, ls 6 false enc70 x.2.1), (8, .pointer (some ⟨0, 0, none⟩)), (9, .int .i64 x.2.2.1)] [(0, .cells [.int .u8 1, .int .u32 1, .bool true, .slice none 0 0, tl 5 1 enc36 x.2.2.2] 36 5)] 2 [1]) (Kblock 2 (Kseq Tryd.prog w0 S 221 (cR (cR (cR (cR (cR (cR (cR (cB Tryd.f8)))))))) (KEnd Tryd.prog Tryd.f8 (PEnd w0 S (.returned (.bool r))))))) := by
  refine law_L5.mutual_partial_correctness (fun (x : Int × (List S70) × Int × Bool × (List S36) × Int × Int × Bool × (List Int) × (List S36)) (r : Bool) => ∀ (W0 w0 : World) (S : Own), Std W0 w0 S 0 → PTo Tryd.prog W0 29 #[] (.returned (.bool true)) → H Tryd.prog w0 S 221 (cR (cL (cR (cR (cL (cL (cR (cL (cL (cR (cL (cR (cR (cR (cR (cR (cR (cB Tryd.f8)))))))))))))))))) (mkS [(1, .int .u8 x.1), (7, ls 6 false enc70 x.2.1), (8, .pointer (some ⟨0, 0, none⟩)), (9, .int .i64 x.2.2.1), (10, .pointer (some ⟨1, 0, none⟩)), (112, .bool x.2.2.2.1)] [(0, .cells [.int .u8 1, .int .u32 1, .bool true, .slice none 0 0, tl 5 2 enc36 x.2.2.2.2.1] 36 5), (1, .cells [.int .u8 x.2.2.2.2.2.1, .int .u32 x.2.2.2.2.2.2.1, .bool x.2.2.2.2.2.2.2.1, ls 1 false (encI .u8) x.2.2.2.2.2.2.2.2.1, ls 5 false enc36 x.2.2.2.2.2.2.2.2.2] 36 5)] 3 [2]) (Kseq Tryd.prog w0 S 221 (cR (cR (cR (cL (cL (cR (cL (cL (cR (cL (cR (cR (cR (cR (cR (cR (cB Tryd.f8))))))))))))))))) (Kblock 3 (Kseq Tryd.prog w0 S 221 (cR (cR (cL (cL (cR (cL (cR (cR (cR (cR (cR (cR (cB Tryd.f8))))))))))))) (Kloop Tryd.prog w0 S 221 (cL (cL (cR (cL (cR (cR (cR (cR (cR (cR (cB Tryd.f8))))))))))) (Kblock 2 (Kseq Tryd.prog w0 S 221 (cR (cR (cR (cR (cR (cR (cR (cB Tryd.f8)))))))) (KEnd Tryd.prog Tryd.f8 (PEnd w0 S (.returned (.bool r))))))))))) (fun (x : Int × (List S70) × Int × (List S36)) (r : Bool) => ∀ (W0 w0 : World) (S : Own), Std W0 w0 S 0 → PTo Tryd.prog W0 29 #[] (.returned (.bool true)) → HL Tryd.prog w0 S 221 (cL (cL (cR (cL (cR (cR (cR (cR (cR (cR (cB Tryd.f8))))))))))) (mkS [(1, .int .u8 x.1), (7, ls 6 false enc70 x.2.1), (8, .pointer (some ⟨0, 0, none⟩)), (9, .int .i64 x.2.2.1)] [(0, .cells [.int .u8 1, .int .u32 1, .bool true, .slice none 0 0, tl 5 1 enc36 x.2.2.2] 36 5)] 2 [1]) (Kblock 2 (Kseq Tryd.prog w0 S 221 (cR (cR (cR (cR (cR (cR (cR (cB Tryd.f8)))))))) (KEnd Tryd.prog Tryd.f8 (PEnd w0 S (.returned (.bool r))))))) ?_ ?_
  · intro g_law_L4 ih_law_L4 x r h
    intro W0 w0 S hS
    intro HLV
    haveI := hS.noEx Tryd.prog
    refine H.cS' (x.2.2.2.1) (fun hb => ?_) (fun hb => ?_)
    · rw [if_pos hb] at h
      refine H.sr' 1 ?_
      refine H.ret' ?_
      refine Kseq_ret ?_
      refine Kblock_ret ?_
      refine Kseq_ret ?_
      refine Kloop_ret ?_
      refine Kblock_ret ?_
      refine Kseq_ret ?_
      obtain rfl := Option.some.inj h
      exact KEnd.r'
    rw [if_neg (ne_true hb)] at h
    refine H.skp' ?_
    refine Kseq_norm ?_
    refine H.reg' ?_
    refine HO.go' 4 ?_
    obtain ⟨y14, hy, h⟩ := bindS h
    refine HO.effA (app1_aop (enc := enc36) (k := 5) true 1 [.int .u8 x.2.2.2.2.2.1, .int .u32 x.2.2.2.2.2.2.1, .bool x.2.2.2.2.2.2.2.1, ls 1 false (encI .u8) x.2.2.2.2.2.2.2.2.1, ls 5 false enc36 x.2.2.2.2.2.2.2.2.2] [] hy (by kernel_rfl) (by kernel_rfl) (by simp only [List.map_cons, List.map_nil, enc36_eq]; kernel_rfl)) ?_
    refine HO.go' 2 ?_
    refine HO.end' ?_
    refine Kblock_norm ?_
    refine Kseq_norm ?_
    refine H.reg' ?_
    refine HO.go' 3 ?_
    refine HO.end' ?_
    refine Kloop_norm ?_
    exact HL.ren' hS [0, 4] (ih_law_L4 (x.1, x.2.1, (IntKind.i64.wrap (x.2.2.1 + 1)), y14) r h W0 w0 S hS HLV)
  · intro g_law_L5 ih_law_L5 x r h
    intro W0 w0 S hS
    intro HLV
    haveI := hS.noEx Tryd.prog
    refine HL.round ?_
    refine H.seq' ?_
    refine H.sg' ?_
    refine HO.go' 2 ?_
    refine HO.len (by kernel_rfl) (by kernel_rfl) (ls_size enc70 x.2.1) ?_
    refine HO.fin' 1 ?_
    refine H.cS' (decide (x.2.2.1 < (x.2.1.length : Int))) (fun hb => ?_) (fun hb => ?_)
    · rw [if_pos (of_decide_eq_true hb)] at h
      refine H.skp' ?_
      refine Kseq_norm ?_
      refine H.seq' ?_
      refine H.blk' 3 ?_
      refine H.sg' ?_
      refine HO.go' 2 ?_
      obtain ⟨y3, hy, h⟩ := bindS h
      refine HO.idx (.agg #[.int .u8 y3.c0, .int .i64 y3.c1, .int .i64 y3.c2, .int .i64 y3.c3, .int .u8 y3.c4, ls 1 false (encI .u8) y3.c5]) hy (enc70_eq y3) (by kernel_rfl) ?_
      refine HO.go' 1 ?_
      obtain ⟨y4, hy, h⟩ := bindS h
      refine HO.callW hS [.agg [.keep, .keep, .keep, .keep, .keep, .list 1 false]] (cpTree_ok (y3.c0, y3.c1, y3.c2, y3.c3, y3.c4, y3.c5) y4 hy W0) (by kernel_rfl) (by kernel_rfl) ?_
      refine HO.fin' 6 ?_
      refine H.sg' ?_
      refine HO.go' 1 ?_
      obtain ⟨y5, hy, h⟩ := bindS h
      refine HO.callW hS [.agg [.keep, .keep, .keep, .list 1 false, .list 5 false]] (cpOf_ok (y4.1, y4.2.1, y4.2.2.1, y4.2.2.2.1, y4.2.2.2.2.1) y5 hy W0) (by kernel_rfl) (by kernel_rfl) ?_
      refine HO.fin' 9 ?_
      refine H.seq' ?_
      refine H.seq' ?_
      refine H.drawQ ?_
      refine HQ.go' 2 ?_
      refine HQ.boolP (!decide (y4.2.2.2.2.2 = 0)) (by kernel_rfl) (by kernel_rfl) (fun hb => ?_) (fun hb => ?_)
      · rw [if_pos hb] at h
        refine HQ.go' 35 ?_
        refine HQ.calm (by kernel_rfl) (by kernel_rfl) (by kernel_rfl) (by kernel_rfl) ?_
        refine Kseq_norm ?_
        exact H.ren' hS [0, 2, 1] (ih_law_L5 (x.1, x.2.1, x.2.2.1, true, x.2.2.2, y4.1, y4.2.1, y4.2.2.1, y4.2.2.2.1, y4.2.2.2.2.1) r h W0 w0 S hS HLV)
      rw [if_neg (ne_true hb)] at h
      refine HQ.go' 3 ?_
      obtain ⟨y6, hy, h⟩ := bindS h
      refine HQ.idx (.agg #[.int .u8 y6.c0, .int .i64 y6.c1, .int .i64 y6.c2, .int .i64 y6.c3, .int .u8 y6.c4, ls 1 false (encI .u8) y6.c5]) hy (enc70_eq y6) (by kernel_rfl) ?_
      refine HQ.go' 1 ?_
      obtain ⟨y7, hy, h⟩ := bindS h
      refine HQ.callW hS [.agg [.keep, .keep, .keep, .keep, .keep, .list 1 false]] (lawTree_ok (y6.c0, y6.c1, y6.c2, y6.c3, y6.c4, y6.c5) y7 hy W0) (by kernel_rfl) (by kernel_rfl) ?_
      obtain ⟨y8, hy, h⟩ := bindS h
      refine HQ.callW hS [.agg [.keep, .keep, .keep, .list 1 false, .list 5 false], .agg [.keep, .keep, .keep, .list 1 false, .list 5 false]] (sameT_ok (y4.1, y4.2.1, y4.2.2.1, y4.2.2.2.1, y4.2.2.2.2.1, y7.1, y7.2.1, y7.2.2.1, y7.2.2.2.1, y7.2.2.2.2) y8 hy W0) (by kernel_rfl) (by kernel_rfl) ?_
      refine HQ.go' 2 ?_
      refine HQ.boolP (!y8) (by kernel_rfl) (by kernel_rfl) (fun hb => ?_) (fun hb => ?_)
      · rw [if_pos hb] at h
        refine HQ.go' 25 ?_
        refine HQ.calm (by kernel_rfl) (by kernel_rfl) (by kernel_rfl) (by kernel_rfl) ?_
        refine Kseq_norm ?_
        exact H.ren' hS [0, 2, 1] (ih_law_L5 (x.1, x.2.1, x.2.2.1, true, x.2.2.2, y4.1, y4.2.1, y4.2.2.1, y4.2.2.2.1, y4.2.2.2.2.1) r h W0 w0 S hS HLV)
      rw [if_neg (ne_true hb)] at h
      refine HQ.go' 3 ?_
      refine HQ.boolP (!decide (y5.2.2.2.2.2.2.2.2.2.2.2.2 = 0)) (by kernel_rfl) (by kernel_rfl) (fun hb => ?_) (fun hb => ?_)
      · rw [if_pos hb] at h
        refine HQ.go' 21 ?_
        refine HQ.calm (by kernel_rfl) (by kernel_rfl) (by kernel_rfl) (by kernel_rfl) ?_
        refine Kseq_norm ?_
        exact H.ren' hS [0, 2, 1] (ih_law_L5 (x.1, x.2.1, x.2.2.1, true, x.2.2.2, y4.1, y4.2.1, y4.2.2.1, y4.2.2.2.1, y4.2.2.2.2.1) r h W0 w0 S hS HLV)
      rw [if_neg (ne_true hb)] at h
      refine HQ.go' 3 ?_
      obtain ⟨y9, hy, h⟩ := bindS h
      refine HQ.idx (.agg #[.int .u8 y9.c0, .int .i64 y9.c1, .int .i64 y9.c2, .int .i64 y9.c3, .int .u8 y9.c4, ls 1 false (encI .u8) y9.c5]) hy (enc70_eq y9) (by kernel_rfl) ?_
      refine HQ.go' 1 ?_
      obtain ⟨y10, hy, h⟩ := bindS h
      refine HQ.callW hS [.agg [.keep, .keep, .keep, .keep, .keep, .list 1 false], .agg [.keep, .keep, .keep, .keep, .keep, .list 1 false]] (sameC_ok (y5.1, y5.2.1, y5.2.2.1, y5.2.2.2.1, y5.2.2.2.2.1, y5.2.2.2.2.2.1, y9.c0, y9.c1, y9.c2, y9.c3, y9.c4, y9.c5) y10 hy W0) (by kernel_rfl) (by kernel_rfl) ?_
      refine HQ.go' 2 ?_
      refine HQ.boolP (!y10) (by kernel_rfl) (by kernel_rfl) (fun hb => ?_) (fun hb => ?_)
      · rw [if_pos hb] at h
        refine HQ.go' 12 ?_
        refine HQ.calm (by kernel_rfl) (by kernel_rfl) (by kernel_rfl) (by kernel_rfl) ?_
        refine Kseq_norm ?_
        exact H.ren' hS [0, 2, 1] (ih_law_L5 (x.1, x.2.1, x.2.2.1, true, x.2.2.2, y4.1, y4.2.1, y4.2.2.1, y4.2.2.2.1, y4.2.2.2.2.1) r h W0 w0 S hS HLV)
      rw [if_neg (ne_true hb)] at h
      refine HQ.go' 1 ?_
      obtain ⟨y11, hy, h⟩ := bindS h
      refine HQ.callW hS [.agg [.keep, .keep, .keep, .keep, .keep, .list 1 false]] (zeroC_ok (y5.2.2.2.2.2.2.1, y5.2.2.2.2.2.2.2.1, y5.2.2.2.2.2.2.2.2.1, y5.2.2.2.2.2.2.2.2.2.1, y5.2.2.2.2.2.2.2.2.2.2.1, y5.2.2.2.2.2.2.2.2.2.2.2.1) y11 hy W0) (by kernel_rfl) (by kernel_rfl) ?_
      refine HQ.go' 2 ?_
      refine HQ.boolP (!y11) (by kernel_rfl) (by kernel_rfl) (fun hb => ?_) (fun hb => ?_)
      · rw [if_pos hb] at h
        refine HQ.go' 7 ?_
        refine HQ.calm (by kernel_rfl) (by kernel_rfl) (by kernel_rfl) (by kernel_rfl) ?_
        refine Kseq_norm ?_
        exact H.ren' hS [0, 2, 1] (ih_law_L5 (x.1, x.2.1, x.2.2.1, true, x.2.2.2, y4.1, y4.2.1, y4.2.2.1, y4.2.2.2.1, y4.2.2.2.2.1) r h W0 w0 S hS HLV)
      rw [if_neg (ne_true hb)] at h
      refine HQ.go' 2 ?_
      obtain ⟨y12, hy, h⟩ := bindS h
      refine HQ.idx (.agg #[.int .u8 y12.c0, .int .i64 y12.c1, .int .i64 y12.c2, .int .i64 y12.c3, .int .u8 y12.c4, ls 1 false (encI .u8) y12.c5]) hy (enc70_eq y12) (by kernel_rfl) ?_
      refine HQ.go' 1 ?_
      obtain ⟨y13, hy, h⟩ := bindS h
      refine HQ.callW hS [.agg [.keep, .keep, .keep, .keep, .keep, .list 1 false]] (cpCheck_ok (y12.c0, y12.c1, y12.c2, y12.c3, y12.c4, y12.c5) y13 hy W0) (by kernel_rfl) (by kernel_rfl) ?_
      refine HQ.go' 2 ?_
      refine HQ.calm (by kernel_rfl) (by kernel_rfl) (by kernel_rfl) (by kernel_rfl) ?_
      refine Kseq_norm ?_
      exact H.ren' hS [0, 2, 1] (ih_law_L5 (x.1, x.2.1, x.2.2.1, (!decide (y13 = 0)), x.2.2.2, y4.1, y4.2.1, y4.2.2.1, y4.2.2.2.1, y4.2.2.2.2.1) r h W0 w0 S hS HLV)
    rw [if_neg (of_decide_eq_false hb)] at h
    refine H.ext' 2 ?_
    refine Kseq_exit ?_
    refine Kloop_exit ?_
    refine Kblock_hit ?_
    refine Kseq_norm ?_
    refine H.sg' ?_
    refine HO.go' 1 ?_
    obtain ⟨y15, hy, h⟩ := bindS h
    refine HO.callW hS [.list 6 false] (cpEncode_ok x.2.1 y15 hy W0) (by kernel_rfl) (by kernel_rfl) ?_
    refine HO.fin' 5 ?_
    refine H.sg' ?_
    refine HO.go' 1 ?_
    obtain ⟨y16, hy, h⟩ := bindS h
    refine HO.callW hS [.agg [.keep, .keep, .keep, .list 1 false, .list 5 false]] (encodeC_ok (1, 1, true, [], x.2.2.2) y16 hy W0) (by kernel_rfl) (by kernel_rfl) ?_
    refine HO.fin' 5 ?_
    refine H.sg' ?_
    refine HO.go' 3 ?_
    obtain ⟨y17, hy, h⟩ := bindS h
    refine HO.callW hS [.agg [.keep, .keep, .keep, .list 1 false, .list 5 false], .keep] (encodeAs_ok (1, 1, true, [], x.2.2.2, (remI .u8 x.1 3)) y17 hy W0) (by kernel_rfl) (by kernel_rfl) ?_
    refine HO.fin' 5 ?_
    refine H.sg' ?_
    refine HO.go' 1 ?_
    obtain ⟨y18, hy, h⟩ := bindS h
    refine HO.callW hS [.list 1 false] (cpDecode_ok y15.1 y18 hy W0) (by kernel_rfl) (by kernel_rfl) ?_
    refine HO.fin' 5 ?_
    refine H.sg' ?_
    refine HO.go' 1 ?_
    obtain ⟨y19, hy, h⟩ := bindS h
    refine HO.callW hS [.list 1 false] (cpDecode_ok y17.1 y19 hy W0) (by kernel_rfl) (by kernel_rfl) ?_
    refine HO.fin' 5 ?_
    refine H.seq' ?_
    refine H.sg' ?_
    refine HO.go' 2 ?_
    refine HO.bo' (!decide (y15.2 = 0)) (fun hb => ?_) (fun hb => ?_)
    · rw [if_pos hb] at h
      refine HO.fin' 43 ?_
      exact H.ren' hS [] (law_L6_ok (x.2.1, y18.1, y19.1, true) r h W0 w0 S hS HLV)
    rw [if_neg (ne_true hb)] at h
    refine HO.go' 3 ?_
    refine HO.bo' (!decide (y16.2 = 0)) (fun hb => ?_) (fun hb => ?_)
    · rw [if_pos hb] at h
      refine HO.fin' 39 ?_
      exact H.ren' hS [] (law_L6_ok (x.2.1, y18.1, y19.1, true) r h W0 w0 S hS HLV)
    rw [if_neg (ne_true hb)] at h
    refine HO.go' 3 ?_
    refine HO.bo' (!decide (y17.2 = 0)) (fun hb => ?_) (fun hb => ?_)
    · rw [if_pos hb] at h
      refine HO.fin' 35 ?_
      exact H.ren' hS [] (law_L6_ok (x.2.1, y18.1, y19.1, true) r h W0 w0 S hS HLV)
    rw [if_neg (ne_true hb)] at h
    refine HO.go' 3 ?_
    refine HO.bo' (!decide (y18.2 = 0)) (fun hb => ?_) (fun hb => ?_)
    · rw [if_pos hb] at h
      refine HO.fin' 31 ?_
      exact H.ren' hS [] (law_L6_ok (x.2.1, y18.1, y19.1, true) r h W0 w0 S hS HLV)
    rw [if_neg (ne_true hb)] at h
    refine HO.go' 3 ?_
    refine HO.bo' (!decide (y19.2 = 0)) (fun hb => ?_) (fun hb => ?_)
    · rw [if_pos hb] at h
      refine HO.fin' 27 ?_
      exact H.ren' hS [] (law_L6_ok (x.2.1, y18.1, y19.1, true) r h W0 w0 S hS HLV)
    rw [if_neg (ne_true hb)] at h
    refine HO.go' 1 ?_
    refine HO.valA (str_aop y15.1 (by kernel_rfl)) ?_
    refine HO.go' 1 ?_
    refine HO.valA (str_aop y16.1 (by kernel_rfl)) ?_
    refine HO.go' 2 ?_
    refine HO.bo' (!(strEq (bytesU y15.1) (bytesU y16.1))) (fun hb => ?_) (fun hb => ?_)
    · rw [if_pos hb] at h
      refine HO.fin' 20 ?_
      exact H.ren' hS [] (law_L6_ok (x.2.1, y18.1, y19.1, true) r h W0 w0 S hS HLV)
    rw [if_neg (ne_true hb)] at h
    refine HO.go' 1 ?_
    refine HO.len (by kernel_rfl) (by kernel_rfl) (ls_size enc70 y18.1) ?_
    refine HO.go' 1 ?_
    refine HO.len (by kernel_rfl) (by kernel_rfl) (ls_size enc70 x.2.1) ?_
    refine HO.go' 2 ?_
    refine HO.bo' (!decide ((y18.1.length : Int) = (x.2.1.length : Int))) (fun hb => ?_) (fun hb => ?_)
    · rw [if_pos hb] at h
      refine HO.fin' 13 ?_
      exact H.ren' hS [] (law_L6_ok (x.2.1, y18.1, y19.1, true) r h W0 w0 S hS HLV)
    rw [if_neg (ne_true hb)] at h
    refine HO.go' 1 ?_
    refine HO.len (by kernel_rfl) (by kernel_rfl) (ls_size enc70 y19.1) ?_
    refine HO.go' 1 ?_
    refine HO.len (by kernel_rfl) (by kernel_rfl) (ls_size enc70 x.2.1) ?_
    refine HO.go' 2 ?_
    refine HO.bo' (!decide ((y19.1.length : Int) = (x.2.1.length : Int))) (fun hb => ?_) (fun hb => ?_)
    · rw [if_pos hb] at h
      refine HO.fin' 6 ?_
      exact H.ren' hS [] (law_L6_ok (x.2.1, y18.1, y19.1, true) r h W0 w0 S hS HLV)
    rw [if_neg (ne_true hb)] at h
    refine HO.go' 1 ?_
    refine HO.valA (cap_aop (by kernel_rfl) (ls_size enc70 y18.1)) ?_
    refine HO.go' 1 ?_
    refine HO.len (by kernel_rfl) (by kernel_rfl) (ls_size enc70 y18.1) ?_
    refine HO.fin' 2 ?_
    exact H.ren' hS [] (law_L6_ok (x.2.1, y18.1, y19.1, (!decide ((y18.1.length : Int) = (y18.1.length : Int)))) r h W0 w0 S hS HLV)
theorem law_L5_ok : ∀ (x : Int × (List S70) × Int × Bool × (List S36) × Int × Int × Bool × (List Int) × (List S36)) (r : Bool), law_L5 x = some r → ∀ (W0 w0 : World) (S : Own), Std W0 w0 S 0 → PTo Tryd.prog W0 29 #[] (.returned (.bool true)) → H Tryd.prog w0 S 221 (cR (cL (cR (cR (cL (cL (cR (cL (cL (cR (cL (cR (cR (cR (cR (cR (cR (cB Tryd.f8)))))))))))))))))) (mkS [(1, .int .u8 x.1), (7, ls 6 false enc70 x.2.1), (8, .pointer (some ⟨0, 0, none⟩)), (9, .int .i64 x.2.2.1), (10, .pointer (some ⟨1, 0, none⟩)), (112, .bool x.2.2.2.1)] [(0, .cells [.int .u8 1, .int .u32 1, .bool true, .slice none 0 0, tl 5 2 enc36 x.2.2.2.2.1] 36 5), (1, .cells [.int .u8 x.2.2.2.2.2.1, .int .u32 x.2.2.2.2.2.2.1, .bool x.2.2.2.2.2.2.2.1, ls 1 false (encI .u8) x.2.2.2.2.2.2.2.2.1, ls 5 false enc36 x.2.2.2.2.2.2.2.2.2] 36 5)] 3 [2]) (Kseq Tryd.prog w0 S 221 (cR (cR (cR (cL (cL (cR (cL (cL (cR (cL (cR (cR (cR (cR (cR (cR (cB Tryd.f8))))))))))))))))) (Kblock 3 (Kseq Tryd.prog w0 S 221 (cR (cR (cL (cL (cR (cL (cR (cR (cR (cR (cR (cR (cB Tryd.f8))))))))))))) (Kloop Tryd.prog w0 S 221 (cL (cL (cR (cL (cR (cR (cR (cR (cR (cR (cB Tryd.f8))))))))))) (Kblock 2 (Kseq Tryd.prog w0 S 221 (cR (cR (cR (cR (cR (cR (cR (cB Tryd.f8)))))))) (KEnd Tryd.prog Tryd.f8 (PEnd w0 S (.returned (.bool r)))))))))) := law_L5_grp.1
theorem law_L4_ok : ∀ (x : Int × (List S70) × Int × (List S36)) (r : Bool), law_L4 x = some r → ∀ (W0 w0 : World) (S : Own), Std W0 w0 S 0 → PTo Tryd.prog W0 29 #[] (.returned (.bool true)) → HL Tryd.prog w0 S 221 (cL (cL (cR (cL (cR (cR (cR (cR (cR (cR (cB Tryd.f8))))))))))) (mkS [(1, .int .u8 x.1), (7, ls 6 false enc70 x.2.1), (8, .pointer (some ⟨0, 0, none⟩)), (9, .int .i64 x.2.2.1)] [(0, .cells [.int .u8 1, .int .u32 1, .bool true, .slice none 0 0, tl 5 1 enc36 x.2.2.2] 36 5)] 2 [1]) (Kblock 2 (Kseq Tryd.prog w0 S 221 (cR (cR (cR (cR (cR (cR (cR (cB Tryd.f8)))))))) (KEnd Tryd.prog Tryd.f8 (PEnd w0 S (.returned (.bool r)))))) := law_L5_grp.2
def law_L3 (x : (List S63) × Int × Bool) : Option (Bool) :=
  if x.2.2 = true then
    some true
  else
    (listK x.1) >>= fun y2 =>
    law_L4 (x.2.1, y2, 0, [])
theorem law_L3_ok : ∀ (x : (List S63) × Int × Bool) (r : Bool), law_L3 x = some r → ∀ (W0 w0 : World) (S : Own), Std W0 w0 S 0 → PTo Tryd.prog W0 29 #[] (.returned (.bool true)) → H Tryd.prog w0 S 221 (cR (cL (cR (cR (cR (cB Tryd.f8)))))) (mkS [(0, ls 6 false enc63 x.1), (1, .int .u8 x.2.1), (50, .bool x.2.2)] [] 0 []) (Kseq Tryd.prog w0 S 221 (cR (cR (cR (cR (cB Tryd.f8))))) (KEnd Tryd.prog Tryd.f8 (PEnd w0 S (.returned (.bool r))))) := by
  intro x r h
  unfold law_L3 at h
  intro W0 w0 S hS
  intro HLV
  haveI := hS.noEx Tryd.prog
  refine H.cS' (x.2.2) (fun hb => ?_) (fun hb => ?_)
  · rw [if_pos hb] at h
    refine H.sg' ?_
    refine HO.callW hS [] HLV (by kernel_rfl) (by kernel_rfl) ?_
    refine HO.fin' 1 ?_
    refine H.ret' ?_
    refine Kseq_ret ?_
    obtain rfl := Option.some.inj h
    exact KEnd.r'
  rw [if_neg (ne_true hb)] at h
  refine H.skp' ?_
  refine Kseq_norm ?_
  refine H.sg' ?_
  refine HO.go' 1 ?_
  obtain ⟨y2, hy, h⟩ := bindS h
  refine HO.callW hS [.list 6 false] (listK_ok x.1 y2 hy W0) (by kernel_rfl) (by kernel_rfl) ?_
  refine HO.fin' 1 ?_
  refine H.sr' 3 ?_
  refine H.seq' ?_
  refine H.sr' 1 ?_
  refine H.blk' 2 ?_
  refine H.lop' ?_
  refine HL.tkc 0 36 5 4 5 [.int .u8 1, .int .u32 1, .bool true, .slice none 0 0, .slice none 0 0] (.slice none 0 0) #[] (by kernel_rfl) ?_
  exact HL.ren' hS [0, 1] (law_L4_ok (x.2.1, y2, 0, []) r h W0 w0 S hS HLV)
mutual
def law_L2 (x : (List S63) × Int × Int × Int × Bool) : Option (Bool) :=
  if x.2.2.2.2 = true then
    (at' x.1 x.2.2.2.1) >>= fun y1 =>
    law_L1 (x.1, x.2.1, (IntKind.i64.wrap (x.2.2.1 + (y1.c5.length : Int))), (IntKind.i64.wrap (x.2.2.2.1 + 1)))
  else
    if 16 < (x.1.length : Int) then
      law_L3 (x.1, x.2.1, true)
    else
      law_L3 (x.1, x.2.1, (decide (10000 < x.2.2.1)))
partial_fixpoint
def law_L1 (x : (List S63) × Int × Int × Int) : Option (Bool) :=
  if x.2.2.2 < (x.1.length : Int) then
    law_L2 (x.1, x.2.1, x.2.2.1, x.2.2.2, (decide (x.2.2.2 < 100)))
  else
    law_L2 (x.1, x.2.1, x.2.2.1, x.2.2.2, false)
partial_fixpoint
end
theorem law_L2_grp : (∀ (x : (List S63) × Int × Int × Int × Bool) (r : Bool), law_L2 x = some r → ∀ (W0 w0 : World) (S : Own), Std W0 w0 S 0 → PTo Tryd.prog W0 29 #[] (.returned (.bool true)) → H Tryd.prog w0 S 221 (cR (cL (cL (cL (cR (cL (cR (cR (cB Tryd.f8))))))))) (mkS [(0, ls 6 false enc63 x.1), (1, .int .u8 x.2.1), (5, .int .i64 x.2.2.1), (6, .int .i64 x.2.2.2.1), (33, .bool x.2.2.2.2)] [] 0 []) (Kseq Tryd.prog w0 S 221 (cR (cL (cL (cR (cL (cR (cR (cB Tryd.f8)))))))) (Kloop Tryd.prog w0 S 221 (cL (cL (cR (cL (cR (cR (cB Tryd.f8))))))) (Kblock 0 (Kseq Tryd.prog w0 S 221 (cR (cR (cR (cB Tryd.f8)))) (KEnd Tryd.prog Tryd.f8 (PEnd w0 S (.returned (.bool r))))))))) ∧
  (∀ (x : (List S63) × Int × Int × Int) (r : Bool), law_L1 x = some r → ∀ (W0 w0 : World) (S : Own), Std W0 w0 S 0 → PTo Tryd.prog W0 29 #[] (.returned (.bool true)) → HL Tryd.prog w0 S 221 (cL (cL (cR (cL (cR (cR (cB Tryd.f8))))))) (mkS [(0, ls 6 false enc63 x.1), (1, .int .u8 x.2.1), (5, .int .i64 x.2.2.1), (6, .int .i64 x.2.2.2)] [] 0 []) (Kblock 0 (Kseq Tryd.prog w0 S 221 (cR (cR (cR (cB Tryd.f8)))) (KEnd Tryd.prog Tryd.f8 (PEnd w0 S (.returned (.bool r))))))) := by
  refine law_L2.mutual_partial_correctness (fun (x : (List S63) × Int × Int × Int × Bool) (r : Bool) => ∀ (W0 w0 : World) (S : Own), Std W0 w0 S 0 → PTo Tryd.prog W0 29 #[] (.returned (.bool true)) → H Tryd.prog w0 S 221 (cR (cL (cL (cL (cR (cL (cR (cR (cB Tryd.f8))))))))) (mkS [(0, ls 6 false enc63 x.1), (1, .int .u8 x.2.1), (5, .int .i64 x.2.2.1), (6, .int .i64 x.2.2.2.1), (33, .bool x.2.2.2.2)] [] 0 []) (Kseq Tryd.prog w0 S 221 (cR (cL (cL (cR (cL (cR (cR (cB Tryd.f8)))))))) (Kloop Tryd.prog w0 S 221 (cL (cL (cR (cL (cR (cR (cB Tryd.f8))))))) (Kblock 0 (Kseq Tryd.prog w0 S 221 (cR (cR (cR (cB Tryd.f8)))) (KEnd Tryd.prog Tryd.f8 (PEnd w0 S (.returned (.bool r))))))))) (fun (x : (List S63) × Int × Int × Int) (r : Bool) => ∀ (W0 w0 : World) (S : Own), Std W0 w0 S 0 → PTo Tryd.prog W0 29 #[] (.returned (.bool true)) → HL Tryd.prog w0 S 221 (cL (cL (cR (cL (cR (cR (cB Tryd.f8))))))) (mkS [(0, ls 6 false enc63 x.1), (1, .int .u8 x.2.1), (5, .int .i64 x.2.2.1), (6, .int .i64 x.2.2.2)] [] 0 []) (Kblock 0 (Kseq Tryd.prog w0 S 221 (cR (cR (cR (cB Tryd.f8)))) (KEnd Tryd.prog Tryd.f8 (PEnd w0 S (.returned (.bool r))))))) ?_ ?_
  · intro g_law_L1 ih_law_L1 x r h
    intro W0 w0 S hS
    intro HLV
    haveI := hS.noEx Tryd.prog
    refine H.cS' (x.2.2.2.2) (fun hb => ?_) (fun hb => ?_)
    · rw [if_pos hb] at h
      refine H.skp' ?_
      refine Kseq_norm ?_
      refine H.seq' ?_
      refine H.blk' 1 ?_
      refine H.reg' ?_
      refine HO.go' 3 ?_
      obtain ⟨y1, hy, h⟩ := bindS h
      refine HO.idx (.agg #[.int .u8 y1.c0, .int .u8 y1.c1, .int .u8 y1.c2, .int .u8 y1.c3, .int .u8 y1.c4, ls 1 false (encI .u8) y1.c5]) hy (enc63_eq y1) (by kernel_rfl) ?_
      refine HO.go' 2 ?_
      refine HO.len (by kernel_rfl) (by kernel_rfl) (ls_size (encI .u8) y1.c5) ?_
      refine HO.go' 2 ?_
      refine HO.end' ?_
      refine Kblock_norm ?_
      refine Kseq_norm ?_
      refine H.reg' ?_
      refine HO.go' 3 ?_
      refine HO.end' ?_
      refine Kloop_norm ?_
      exact HL.ren' hS [] (ih_law_L1 (x.1, x.2.1, (IntKind.i64.wrap (x.2.2.1 + (y1.c5.length : Int))), (IntKind.i64.wrap (x.2.2.2.1 + 1))) r h W0 w0 S hS HLV)
    rw [if_neg (ne_true hb)] at h
    refine H.ext' 0 ?_
    refine Kseq_exit ?_
    refine Kloop_exit ?_
    refine Kblock_hit ?_
    refine Kseq_norm ?_
    refine H.seq' ?_
    refine H.sg' ?_
    refine HO.go' 1 ?_
    refine HO.len (by kernel_rfl) (by kernel_rfl) (ls_size enc63 x.1) ?_
    refine HO.go' 1 ?_
    refine HO.bo' (decide (16 < (x.1.length : Int))) (fun hb => ?_) (fun hb => ?_)
    · rw [if_pos (of_decide_eq_true hb)] at h
      refine HO.fin' 3 ?_
      exact H.ren' hS [] (law_L3_ok (x.1, x.2.1, true) r h W0 w0 S hS HLV)
    rw [if_neg (of_decide_eq_false hb)] at h
    refine HO.fin' 3 ?_
    exact H.ren' hS [] (law_L3_ok (x.1, x.2.1, (decide (10000 < x.2.2.1))) r h W0 w0 S hS HLV)
  · intro g_law_L2 ih_law_L2 x r h
    intro W0 w0 S hS
    intro HLV
    haveI := hS.noEx Tryd.prog
    refine HL.round ?_
    refine H.seq' ?_
    refine H.sg' ?_
    refine HO.go' 2 ?_
    refine HO.len (by kernel_rfl) (by kernel_rfl) (ls_size enc63 x.1) ?_
    refine HO.go' 1 ?_
    refine HO.bo' (decide (x.2.2.2 < (x.1.length : Int))) (fun hb => ?_) (fun hb => ?_)
    · rw [if_pos (of_decide_eq_true hb)] at h
      refine HO.fin' 3 ?_
      exact H.ren' hS [] (ih_law_L2 (x.1, x.2.1, x.2.2.1, x.2.2.2, (decide (x.2.2.2 < 100))) r h W0 w0 S hS HLV)
    rw [if_neg (of_decide_eq_false hb)] at h
    refine HO.fin' 3 ?_
    exact H.ren' hS [] (ih_law_L2 (x.1, x.2.1, x.2.2.1, x.2.2.2, false) r h W0 w0 S hS HLV)
theorem law_L2_ok : ∀ (x : (List S63) × Int × Int × Int × Bool) (r : Bool), law_L2 x = some r → ∀ (W0 w0 : World) (S : Own), Std W0 w0 S 0 → PTo Tryd.prog W0 29 #[] (.returned (.bool true)) → H Tryd.prog w0 S 221 (cR (cL (cL (cL (cR (cL (cR (cR (cB Tryd.f8))))))))) (mkS [(0, ls 6 false enc63 x.1), (1, .int .u8 x.2.1), (5, .int .i64 x.2.2.1), (6, .int .i64 x.2.2.2.1), (33, .bool x.2.2.2.2)] [] 0 []) (Kseq Tryd.prog w0 S 221 (cR (cL (cL (cR (cL (cR (cR (cB Tryd.f8)))))))) (Kloop Tryd.prog w0 S 221 (cL (cL (cR (cL (cR (cR (cB Tryd.f8))))))) (Kblock 0 (Kseq Tryd.prog w0 S 221 (cR (cR (cR (cB Tryd.f8)))) (KEnd Tryd.prog Tryd.f8 (PEnd w0 S (.returned (.bool r)))))))) := law_L2_grp.1
theorem law_L1_ok : ∀ (x : (List S63) × Int × Int × Int) (r : Bool), law_L1 x = some r → ∀ (W0 w0 : World) (S : Own), Std W0 w0 S 0 → PTo Tryd.prog W0 29 #[] (.returned (.bool true)) → HL Tryd.prog w0 S 221 (cL (cL (cR (cL (cR (cR (cB Tryd.f8))))))) (mkS [(0, ls 6 false enc63 x.1), (1, .int .u8 x.2.1), (5, .int .i64 x.2.2.1), (6, .int .i64 x.2.2.2)] [] 0 []) (Kblock 0 (Kseq Tryd.prog w0 S 221 (cR (cR (cR (cB Tryd.f8)))) (KEnd Tryd.prog Tryd.f8 (PEnd w0 S (.returned (.bool r)))))) := law_L2_grp.2
def law (x : (List S63) × Int) : Option (Bool) :=
  law_L1 (x.1, x.2, 0, 0)
theorem law_ok : ∀ (x : (List S63) × Int) (r : Bool), law x = some r → ∀ W0 : World, PTo Tryd.prog W0 29 #[] (.returned (.bool true)) → PTo Tryd.prog W0 8 #[ls 6 false enc63 x.1, .int .u8 x.2] (.returned (.bool r)) := by
  intro x r h
  unfold law at h
  intro W0
  intro HLV
  refine PTo.of_body (fn := Tryd.f8) (code := cB Tryd.f8) Tryd.func8 rfl rfl ?_
  intro w0 S hS
  haveI := hS.noEx Tryd.prog
  refine H.sr' 1 ?_
  refine H.sr' 1 ?_
  refine H.seq' ?_
  refine H.sr' 1 ?_
  refine H.blk' 0 ?_
  refine H.lop' ?_
  exact HL.ren' hS [] (law_L1_ok (x.1, x.2, 0, 0) r h W0 w0 S hS HLV)
end Vf
