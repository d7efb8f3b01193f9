import Derived.Test.YtcokmnpgeokfpaaDoorVfW
set_option linter.unusedVariables false
set_option linter.unusedSimpArgs false
set_option maxHeartbeats 4000000
namespace Vf
open Go Go.Vx Go.Proofs
def lengthT (x : Int × Int × Bool × (List Int) × (List S36) × (List Int) × Int) : Option (Except Int (Int × Bool × (List Int) × Int)) :=
  (next (x.2.2.2.2.2.1, x.2.2.2.2.2.2)) >>= fun y1 =>
  match y1 with
  | .error y1 =>
    some (.error y1)
  | .ok y1 =>
    if y1.1 < 128 then
      some (.ok ((IntKind.i64.wrap y1.1), true, y1.2.1, y1.2.2))
    else
      if y1.1 = 128 then
        (must (x.2.2.1, 4)) >>= fun y2 =>
        match y2 with
        | .error y2 =>
          some (.error y2)
        | .ok y2 =>
          some (.ok (0, false, y1.2.1, y1.2.2))
      else
        (must ((!decide (y1.1 = 255)), 4)) >>= fun y3 =>
        match y3 with
        | .error y3 =>
          some (.error y3)
        | .ok y3 =>
          (take ((IntKind.i64.wrap (IntKind.u8.wrap (y1.1 - 128))), y1.2.1, y1.2.2)) >>= fun y4 =>
          match y4 with
          | .error y4 =>
            some (.error y4)
          | .ok y4 =>
            lengthT_L1 (0, y4.1, (y4.1.length : Int), 0, y4.2.1, y4.2.2)
theorem lengthT_ok : ∀ (x : Int × Int × Bool × (List Int) × (List S36) × (List Int) × Int) (r : Except Int (Int × Bool × (List Int) × Int)), lengthT x = some r → ∀ W0 : World, FTo Tryd.prog W0 84 #[.pointer (some ⟨0, 0, none⟩), .agg #[.int .u8 x.1, .int .u32 x.2.1, .bool x.2.2.1, ls 1 false (encI .u8) x.2.2.2.1, ls 5 false enc36 x.2.2.2.2.1]] (mkW 1 [] [(0, .cells [ls 1 false (encI .u8) x.2.2.2.2.2.1, .int .i64 x.2.2.2.2.2.2] 121 2)]) (match r with | .ok r => .returned (.tuple #[.int .i64 r.1, .bool r.2.1]) | .error e => panE (.iface 25 (.int .i64 e))) (match r with | .ok r => (mkW 1 [] [(0, .cells [ls 1 false (encI .u8) r.2.2.1, .int .i64 r.2.2.2] 121 2)]) | .error _ => (mkW 1 [] [])) := by
  intro x r h
  unfold lengthT at h
  intro W0
  refine FTo.of_body (fn := Tryd.f84) (code := cB Tryd.f84) Tryd.func84 rfl rfl ?_
  intro w0 S hS
  haveI := hS.noEx Tryd.prog
  refine H.seqP (by kernel_rfl) ?_
  refine H.regP (by kernel_rfl) ?_
  refine HO.goP 3 (by kernel_rfl) ?_
  refine HO.done (by kernel_rfl) ?_
  refine Kseq_norm ?_
  refine H.seqP (by kernel_rfl) ?_
  refine H.regP (by kernel_rfl) ?_
  refine HO.goP 3 (by kernel_rfl) ?_
  obtain ⟨y1, hy, h⟩ := bindS h
  rcases y1 with y1 | y1
  · dsimp only at h
    refine HO.panFW hS 2 [] [(1, .cells [.int .u8 x.1, .int .u32 x.2.1, .bool x.2.2.1, ls 1 false (encI .u8) x.2.2.2.1, ls 5 false enc36 x.2.2.2.2.1] 36 5)] [0] [.keep] (next_ok (x.2.2.2.2.2.1, x.2.2.2.2.2.2) (.error y1) hy W0) (by kernel_rfl) (by kernel_rfl) ?_
    refine Kseq_pan ?_
    obtain rfl := Option.some.inj h
    exact KEnd.ofPan (by kernel_rfl) (FEnd.pan hS [0] [] [] (by kernel_rfl))
  · dsimp only at h
    refine HO.callFW hS (.int .u8 y1.1) 2 [] [(0, .cells [ls 1 false (encI .u8) y1.2.1, .int .i64 y1.2.2] 121 2), (1, .cells [.int .u8 x.1, .int .u32 x.2.1, .bool x.2.2.1, ls 1 false (encI .u8) x.2.2.2.1, ls 5 false enc36 x.2.2.2.2.1] 36 5)] [0] [.keep] (next_ok (x.2.2.2.2.2.1, x.2.2.2.2.2.2) (.ok y1) hy W0) (by kernel_rfl) (by kernel_rfl) ?_
    refine HO.goP 1 (by kernel_rfl) ?_
    refine HO.done (by kernel_rfl) ?_
    refine Kseq_norm ?_
    refine H.seqP (by kernel_rfl) ?_
    refine H.blockI 0 (by kernel_rfl) ?_
    refine H.seqP (by kernel_rfl) ?_
    refine H.regP (by kernel_rfl) ?_
    refine HO.goP 3 (by kernel_rfl) ?_
    refine HO.done (by kernel_rfl) ?_
    refine Kseq_norm ?_
    refine H.condS (b := decide (y1.1 < 128)) (by kernel_rfl) (by kernel_rfl) (fun hb => ?_) (fun hb => ?_)
    · rw [if_pos (of_decide_eq_true hb)] at h
      refine H.seqP (by kernel_rfl) ?_
      refine H.regP (by kernel_rfl) ?_
      refine HO.goP 4 (by kernel_rfl) ?_
      refine HO.done (by kernel_rfl) ?_
      refine Kseq_norm ?_
      refine H.retP (by kernel_rfl) ?_
      refine Kblock_ret ?_
      refine Kseq_ret ?_
      obtain rfl := Option.some.inj h
      exact KEnd.of (v := .tuple #[.int .i64 (IntKind.i64.wrap y1.1), .bool true]) (by kernel_rfl) (by kernel_rfl) (FEnd.ren hS [0] _ _ (by kernel_rfl))
    · rw [if_neg (of_decide_eq_false hb)] at h
      refine H.seqP (by kernel_rfl) ?_
      refine H.regP (by kernel_rfl) ?_
      refine HO.goP 3 (by kernel_rfl) ?_
      refine HO.done (by kernel_rfl) ?_
      refine Kseq_norm ?_
      refine H.condS (b := decide (y1.1 = 128)) (by kernel_rfl) (by kernel_rfl) (fun hb => ?_) (fun hb => ?_)
      · rw [if_pos (of_decide_eq_true hb)] at h
        refine H.seqP (by kernel_rfl) ?_
        refine H.regP (by kernel_rfl) ?_
        refine HO.goP 2 (by kernel_rfl) ?_
        obtain ⟨y2, hy, h⟩ := bindS h
        rcases y2 with y2 | y2
        · dsimp only at h
          refine HO.panW hS [.keep, .keep] (must_ok (x.2.2.1, 4) (.error y2) hy W0) (by kernel_rfl) (by kernel_rfl) ?_
          refine Kseq_pan ?_
          refine Kblock_pan ?_
          refine Kseq_pan ?_
          obtain rfl := Option.some.inj h
          exact KEnd.ofPan (by kernel_rfl) (FEnd.pan hS [0] [] [] (by kernel_rfl))
        · dsimp only at h
          refine HO.callW hS [.keep, .keep] (must_ok (x.2.2.1, 4) (.ok y2) hy W0) (by kernel_rfl) (by kernel_rfl) ?_
          refine HO.done (by kernel_rfl) ?_
          refine Kseq_norm ?_
          refine H.seqP (by kernel_rfl) ?_
          refine H.regP (by kernel_rfl) ?_
          refine HO.goP 2 (by kernel_rfl) ?_
          refine HO.done (by kernel_rfl) ?_
          refine Kseq_norm ?_
          refine H.retP (by kernel_rfl) ?_
          refine Kblock_ret ?_
          refine Kseq_ret ?_
          obtain rfl := Option.some.inj h
          exact KEnd.of (v := .tuple #[.int .i64 0, .bool false]) (by kernel_rfl) (by kernel_rfl) (FEnd.ren hS [0] _ _ (by kernel_rfl))
      · rw [if_neg (of_decide_eq_false hb)] at h
        refine H.skipP (by kernel_rfl) ?_
        refine Kblock_norm ?_
        refine Kseq_norm ?_
        refine H.seqP (by kernel_rfl) ?_
        refine H.regP (by kernel_rfl) ?_
        refine HO.goP 2 (by kernel_rfl) ?_
        obtain ⟨y3, hy, h⟩ := bindS h
        rcases y3 with y3 | y3
        · dsimp only at h
          refine HO.panW hS [.keep, .keep] (must_ok ((!decide (y1.1 = 255)), 4) (.error y3) hy W0) (by kernel_rfl) (by kernel_rfl) ?_
          refine Kseq_pan ?_
          obtain rfl := Option.some.inj h
          exact KEnd.ofPan (by kernel_rfl) (FEnd.pan hS [0] [] [] (by kernel_rfl))
        · dsimp only at h
          refine HO.callW hS [.keep, .keep] (must_ok ((!decide (y1.1 = 255)), 4) (.ok y3) hy W0) (by kernel_rfl) (by kernel_rfl) ?_
          refine HO.done (by kernel_rfl) ?_
          refine Kseq_norm ?_
          refine H.seqP (by kernel_rfl) ?_
          refine H.regP (by kernel_rfl) ?_
          refine HO.goP 1 (by kernel_rfl) ?_
          refine HO.done (by kernel_rfl) ?_
          refine Kseq_norm ?_
          refine H.seqP (by kernel_rfl) ?_
          refine H.seqP (by kernel_rfl) ?_
          refine H.regP (by kernel_rfl) ?_
          refine HO.goP 6 (by kernel_rfl) ?_
          obtain ⟨y4, hy, h⟩ := bindS h
          rcases y4 with y4 | y4
          · dsimp only at h
            refine HO.panFW hS 2 [] [(1, .cells [.int .u8 x.1, .int .u32 x.2.1, .bool x.2.2.1, ls 1 false (encI .u8) x.2.2.2.1, ls 5 false enc36 x.2.2.2.2.1] 36 5)] [0] [.keep, .keep] (take_ok ((IntKind.i64.wrap (IntKind.u8.wrap (y1.1 - 128))), y1.2.1, y1.2.2) (.error y4) hy W0) (by kernel_rfl) (by kernel_rfl) ?_
            refine Kseq_pan ?_
            refine Kseq_pan ?_
            obtain rfl := Option.some.inj h
            exact KEnd.ofPan (by kernel_rfl) (FEnd.pan hS [0] [] [] (by kernel_rfl))
          · dsimp only at h
            refine HO.callFW hS (ls 1 false (encI .u8) y4.1) 2 [] [(0, .cells [ls 1 false (encI .u8) y4.2.1, .int .i64 y4.2.2] 121 2), (1, .cells [.int .u8 x.1, .int .u32 x.2.1, .bool x.2.2.1, ls 1 false (encI .u8) x.2.2.2.1, ls 5 false enc36 x.2.2.2.2.1] 36 5)] [0] [.keep, .keep] (take_ok ((IntKind.i64.wrap (IntKind.u8.wrap (y1.1 - 128))), y1.2.1, y1.2.2) (.ok y4) hy W0) (by kernel_rfl) (by kernel_rfl) ?_
            refine HO.len (by kernel_rfl) (by kernel_rfl) (ls_size (encI .u8) y4.1) ?_
            refine HO.goP 1 (by kernel_rfl) ?_
            refine HO.done (by kernel_rfl) ?_
            refine Kseq_norm ?_
            refine H.blockI 1 (by kernel_rfl) ?_
            refine H.loopP (by kernel_rfl) ?_
            exact HL.ren hS [0] _ _ _ (by kernel_rfl) (lengthT_L1_ok (0, y4.1, (y4.1.length : Int), 0, y4.2.1, y4.2.2) r h W0 w0 S hS)
def ahead (x : (List Int) × Int) : Option (Except Int (Bool × (List Int) × Int)) :=
  (must ((decide (0 < (x.1.length : Int))), 4)) >>= fun y1 =>
  match y1 with
  | .error y1 =>
    some (.error y1)
  | .ok y1 =>
    (at' x.1 0) >>= fun y2 =>
    if (!decide (y2 = 0)) = true then
      some (.ok (true, x.1, x.2))
    else
      (take (2, x.1, x.2)) >>= fun y3 =>
      match y3 with
      | .error y3 =>
        some (.error y3)
      | .ok y3 =>
        (at' y3.1 1) >>= fun y4 =>
        (must ((decide (y4 = 0)), 4)) >>= fun y5 =>
        match y5 with
        | .error y5 =>
          some (.error y5)
        | .ok y5 =>
          some (.ok (false, y3.2.1, y3.2.2))
theorem ahead_ok : ∀ (x : (List Int) × Int) (r : Except Int (Bool × (List Int) × Int)), ahead x = some r → ∀ W0 : World, FTo Tryd.prog W0 85 #[.pointer (some ⟨0, 0, none⟩)] (mkW 1 [] [(0, .cells [ls 1 false (encI .u8) x.1, .int .i64 x.2] 121 2)]) (match r with | .ok r => .returned (.bool r.1) | .error e => panE (.iface 25 (.int .i64 e))) (match r with | .ok r => (mkW 1 [] [(0, .cells [ls 1 false (encI .u8) r.2.1, .int .i64 r.2.2] 121 2)]) | .error _ => (mkW 1 [] [])) := by
  intro x r h
  unfold ahead at h
  intro W0
  refine FTo.of_body (fn := Tryd.f85) (code := cB Tryd.f85) Tryd.func85 rfl rfl ?_
  intro w0 S hS
  haveI := hS.noEx Tryd.prog
  refine H.seqP (by kernel_rfl) ?_
  refine H.regP (by kernel_rfl) ?_
  refine HO.goP 1 (by kernel_rfl) ?_
  refine HO.done (by kernel_rfl) ?_
  refine Kseq_norm ?_
  refine H.seqP (by kernel_rfl) ?_
  refine H.regP (by kernel_rfl) ?_
  refine HO.goP 5 (by kernel_rfl) ?_
  refine HO.len (by kernel_rfl) (by kernel_rfl) (ls_size (encI .u8) x.1) ?_
  refine HO.goP 1 (by kernel_rfl) ?_
  obtain ⟨y1, hy, h⟩ := bindS h
  rcases y1 with y1 | y1
  · dsimp only at h
    refine HO.panW hS [.keep, .keep] (must_ok ((decide (0 < (x.1.length : Int))), 4) (.error y1) hy W0) (by kernel_rfl) (by kernel_rfl) ?_
    refine Kseq_pan ?_
    obtain rfl := Option.some.inj h
    exact KEnd.ofPan (by kernel_rfl) (FEnd.pan hS [0] [] [] (by kernel_rfl))
  · dsimp only at h
    refine HO.callW hS [.keep, .keep] (must_ok ((decide (0 < (x.1.length : Int))), 4) (.ok y1) hy W0) (by kernel_rfl) (by kernel_rfl) ?_
    refine HO.done (by kernel_rfl) ?_
    refine Kseq_norm ?_
    refine H.seqP (by kernel_rfl) ?_
    refine H.seqP (by kernel_rfl) ?_
    refine H.regP (by kernel_rfl) ?_
    refine HO.goP 5 (by kernel_rfl) ?_
    obtain ⟨y2, hy, h⟩ := bindS h
    refine HO.idx (.int .u8 y2) hy rfl (by kernel_rfl) ?_
    refine HO.goP 2 (by kernel_rfl) ?_
    refine HO.done (by kernel_rfl) ?_
    refine Kseq_norm ?_
    refine H.condS (b := !decide (y2 = 0)) (by kernel_rfl) (by kernel_rfl) (fun hb => ?_) (fun hb => ?_)
    · rw [if_pos hb] at h
      refine H.seqP (by kernel_rfl) ?_
      refine H.regP (by kernel_rfl) ?_
      refine HO.goP 1 (by kernel_rfl) ?_
      refine HO.done (by kernel_rfl) ?_
      refine Kseq_norm ?_
      refine H.retP (by kernel_rfl) ?_
      refine Kseq_ret ?_
      obtain rfl := Option.some.inj h
      exact KEnd.of (v := .bool true) (by kernel_rfl) (by kernel_rfl) (FEnd.ren hS [0] _ _ (by kernel_rfl))
    · rw [if_neg (ne_true hb)] at h
      refine H.skipP (by kernel_rfl) ?_
      refine Kseq_norm ?_
      refine H.seqP (by kernel_rfl) ?_
      refine H.regP (by kernel_rfl) ?_
      refine HO.goP 3 (by kernel_rfl) ?_
      obtain ⟨y3, hy, h⟩ := bindS h
      rcases y3 with y3 | y3
      · dsimp only at h
        refine HO.panFW hS 1 [] [] [0] [.keep, .keep] (take_ok (2, x.1, x.2) (.error y3) hy W0) (by kernel_rfl) (by kernel_rfl) ?_
        refine Kseq_pan ?_
        obtain rfl := Option.some.inj h
        exact KEnd.ofPan (by kernel_rfl) (FEnd.pan hS [0] [] [] (by kernel_rfl))
      · dsimp only at h
        refine HO.callFW hS (ls 1 false (encI .u8) y3.1) 1 [] [(0, .cells [ls 1 false (encI .u8) y3.2.1, .int .i64 y3.2.2] 121 2)] [0] [.keep, .keep] (take_ok (2, x.1, x.2) (.ok y3) hy W0) (by kernel_rfl) (by kernel_rfl) ?_
        obtain ⟨y4, hy, h⟩ := bindS h
        refine HO.idx (.int .u8 y4) hy rfl (by kernel_rfl) ?_
        refine HO.goP 2 (by kernel_rfl) ?_
        obtain ⟨y5, hy, h⟩ := bindS h
        rcases y5 with y5 | y5
        · dsimp only at h
          refine HO.panW hS [.keep, .keep] (must_ok ((decide (y4 = 0)), 4) (.error y5) hy W0) (by kernel_rfl) (by kernel_rfl) ?_
          refine Kseq_pan ?_
          obtain rfl := Option.some.inj h
          exact KEnd.ofPan (by kernel_rfl) (FEnd.pan hS [0] [] [] (by kernel_rfl))
        · dsimp only at h
          refine HO.callW hS [.keep, .keep] (must_ok ((decide (y4 = 0)), 4) (.ok y5) hy W0) (by kernel_rfl) (by kernel_rfl) ?_
          refine HO.done (by kernel_rfl) ?_
          refine Kseq_norm ?_
          refine H.seqP (by kernel_rfl) ?_
          refine H.regP (by kernel_rfl) ?_
          refine HO.goP 1 (by kernel_rfl) ?_
          refine HO.done (by kernel_rfl) ?_
          refine Kseq_norm ?_
          refine H.retP (by kernel_rfl) ?_
          obtain rfl := Option.some.inj h
          exact KEnd.of (v := .bool false) (by kernel_rfl) (by kernel_rfl) (FEnd.ren hS [0] _ _ (by kernel_rfl))
def clipT (x : (List S36)) : Option ((List S36)) :=
  (sub' x 0 (x.length : Int)) >>= fun y1 =>
  some y1
theorem clipT_ok : ∀ (x : (List S36)) (r : (List S36)), clipT x = some r → ∀ W0 : World, PTo Tryd.prog W0 75 #[ls 5 false enc36 x] (.returned (ls 5 true enc36 r)) := by
  intro x r h
  unfold clipT at h
  intro W0
  refine PTo.of_body (fn := Tryd.f75) (code := cB Tryd.f75) Tryd.func75 rfl rfl ?_
  intro w0 S hS
  haveI := hS.noEx Tryd.prog
  refine H.seqP (by kernel_rfl) ?_
  refine H.regP (by kernel_rfl) ?_
  refine HO.goP 1 (by kernel_rfl) ?_
  refine HO.done (by kernel_rfl) ?_
  refine Kseq_norm ?_
  refine H.seqP (by kernel_rfl) ?_
  refine H.regP (by kernel_rfl) ?_
  refine HO.goP 2 (by kernel_rfl) ?_
  refine HO.len (by kernel_rfl) (by kernel_rfl) (ls_size enc36 x) ?_
  refine HO.goP 1 (by kernel_rfl) ?_
  refine HO.len (by kernel_rfl) (by kernel_rfl) (ls_size enc36 x) ?_
  obtain ⟨y1, hy, h⟩ := bindS h
  refine HO.valA (sl4_aop (enc := enc36) (k := 5) (j := .i64) (j' := .i64) false hy (by kernel_rfl)) ?_
  refine HO.goP 1 (by kernel_rfl) ?_
  refine HO.done (by kernel_rfl) ?_
  refine Kseq_norm ?_
  refine H.retP (by kernel_rfl) ?_
  obtain rfl := Option.some.inj h
  exact KEnd.retW (v := ls 5 true enc36 y1) (.list 5 true) (by kernel_rfl) (by kernel_rfl) (by kernel_rfl) (by kernel_rfl)
def element_L6 (x : (List Int) × Int × Int × Int × Bool × (List Int) × (List S36)) : Option (Except Int (Int × Int × Bool × (List Int) × (List S36) × (List Int) × Int)) :=
  (clipT x.2.2.2.2.2.2) >>= fun y17 =>
  some (.ok (x.2.2.1, x.2.2.2.1, x.2.2.2.2.1, x.2.2.2.2.2.1, y17, x.1, x.2.1))
theorem element_L6_ok : ∀ (x : (List Int) × Int × Int × Int × Bool × (List Int) × (List S36)) (r : Except Int (Int × Int × Bool × (List Int) × (List S36) × (List Int) × Int)), element_L6 x = some r → ∀ (W0 w0 : World) (S : Own), Std W0 w0 S 1 → H Tryd.prog w0 S 128 (cR (cR (cR (cR (cR (cR (cR (cR (cR (cB Tryd.f59)))))))))) (mkS [(4, .pointer (some ⟨1, 0, none⟩)), (6, .pointer (some ⟨2, 0, none⟩))] [(0, .cells [ls 1 false (encI .u8) x.1, .int .i64 x.2.1] 121 2), (1, .cells [.int .u8 0, .int .u32 0, .bool false, .slice none 0 0, tl 5 3 enc36 []] 36 5), (2, .cells [.int .u8 x.2.2.1, .int .u32 x.2.2.2.1, .bool x.2.2.2.2.1, ls 1 true (encI .u8) x.2.2.2.2.2.1, tl 5 4 enc36 x.2.2.2.2.2.2] 36 5)] 5 [4, 3]) (KEnd Tryd.prog Tryd.f59 (FEnd w0 S (match r with | .ok r => .returned (.agg #[.int .u8 r.1, .int .u32 r.2.1, .bool r.2.2.1, ls 1 false (encI .u8) r.2.2.2.1, ls 5 false enc36 r.2.2.2.2.1]) | .error e => panE (.iface 25 (.int .i64 e))) (match r with | .ok r => (mkW 1 [] [(0, .cells [ls 1 false (encI .u8) r.2.2.2.2.2.1, .int .i64 r.2.2.2.2.2.2] 121 2)]) | .error _ => (mkW 1 [] [])))) := by
  intro x r h
  unfold element_L6 at h
  intro W0 w0 S hS
  haveI := hS.noEx Tryd.prog
  refine H.seqP (by kernel_rfl) ?_
  refine H.regP (by kernel_rfl) ?_
  refine HO.goP 2 (by kernel_rfl) ?_
  obtain ⟨y17, hy, h⟩ := bindS h
  refine HO.callW hS [.list 5 false] (clipT_ok x.2.2.2.2.2.2 y17 hy W0) (by kernel_rfl) (by kernel_rfl) ?_
  refine HO.goP 2 (by kernel_rfl) ?_
  refine HO.done (by kernel_rfl) ?_
  refine Kseq_norm ?_
  refine H.seqP (by kernel_rfl) ?_
  refine H.regP (by kernel_rfl) ?_
  refine HO.goP 2 (by kernel_rfl) ?_
  refine HO.done (by kernel_rfl) ?_
  refine Kseq_norm ?_
  refine H.retP (by kernel_rfl) ?_
  obtain rfl := Option.some.inj h
  exact KEnd.of (v := .agg #[.int .u8 x.2.2.1, .int .u32 x.2.2.2.1, .bool x.2.2.2.2.1, ls 1 true (encI .u8) x.2.2.2.2.2.1, ls 5 true enc36 y17]) (by kernel_rfl) (by kernel_rfl) (FEnd.wk (v1 := .agg #[.int .u8 x.2.2.1, .int .u32 x.2.2.2.1, .bool x.2.2.2.2.1, ls 1 false (encI .u8) x.2.2.2.2.2.1, ls 5 false enc36 y17]) (.agg [.keep, .keep, .keep, .list 1 false, .list 5 false]) (by kernel_rfl) (FEnd.ren hS [0] _ _ (by kernel_rfl)))
mutual
def element_L5 (x : Int × (List Int) × (List Int) × Int × Int × Int × Bool × (List S36)) : Option (Except Int (Int × Int × Bool × (List Int) × (List S36) × (List Int) × Int)) :=
  if 0 < (x.2.2.1.length : Int) then
    (element ((IntKind.i64.wrap (x.1 + 1)), x.2.2.1, x.2.2.2.1)) >>= fun y15 =>
    match y15 with
    | .error y15 =>
      some (.error y15)
    | .ok y15 =>
      (app' 64 x.2.2.2.2.2.2.2 [(S36.mk y15.1 y15.2.1 y15.2.2.1 y15.2.2.2.1 y15.2.2.2.2.1)]) >>= fun y16 =>
      element_L5 (x.1, x.2.1, y15.2.2.2.2.2.1, y15.2.2.2.2.2.2, x.2.2.2.2.1, x.2.2.2.2.2.1, x.2.2.2.2.2.2.1, y16)
  else
    element_L6 (x.2.1, x.2.2.2.1, x.2.2.2.2.1, x.2.2.2.2.2.1, x.2.2.2.2.2.2.1, [], x.2.2.2.2.2.2.2)
partial_fixpoint
def element (x : Int × (List Int) × Int) : Option (Except Int (Int × Int × Bool × (List Int) × (List S36) × (List Int) × Int)) :=
  if x.1 ≤ 16 then
    (must ((decide (x.2.2 < 1024)), 3)) >>= fun y1 =>
    match y1 with
    | .error y1 =>
      some (.error y1)
    | .ok y1 =>
      element_L1 (x.1, x.2.1, x.2.2)
  else
    (must (false, 3)) >>= fun y2 =>
    match y2 with
    | .error y2 =>
      some (.error y2)
    | .ok y2 =>
      element_L1 (x.1, x.2.1, x.2.2)
partial_fixpoint
def element_L1 (x : Int × (List Int) × Int) : Option (Except Int (Int × Int × Bool × (List Int) × (List S36) × (List Int) × Int)) :=
  (next (x.2.1, (IntKind.i64.wrap (x.2.2 + 1)))) >>= fun y3 =>
  match y3 with
  | .error y3 =>
    some (.error y3)
  | .ok y3 =>
    if (IntKind.u32.wrap (bAnd .u8 y3.1 31)) = 31 then
      (numberT (y3.2.1, y3.2.2)) >>= fun y4 =>
      match y4 with
      | .error y4 =>
        some (.error y4)
      | .ok y4 =>
        element_L2 (x.1, y4.2.1, y4.2.2, (shrI .u8 y3.1 6), y4.1, (decide (0 < (bAnd .u8 y3.1 32))))
    else
      element_L2 (x.1, y3.2.1, y3.2.2, (shrI .u8 y3.1 6), (IntKind.u32.wrap (bAnd .u8 y3.1 31)), (decide (0 < (bAnd .u8 y3.1 32))))
partial_fixpoint
def element_L2 (x : Int × (List Int) × Int × Int × Int × Bool) : Option (Except Int (Int × Int × Bool × (List Int) × (List S36) × (List Int) × Int)) :=
  if 0 < x.2.2.2.1 then
    (must (true, 4)) >>= fun y5 =>
    match y5 with
    | .error y5 =>
      some (.error y5)
    | .ok y5 =>
      element_L3 (x.1, x.2.1, x.2.2.1, x.2.2.2.1, x.2.2.2.2.1, x.2.2.2.2.2)
  else
    (must ((decide (0 < x.2.2.2.2.1)), 4)) >>= fun y6 =>
    match y6 with
    | .error y6 =>
      some (.error y6)
    | .ok y6 =>
      element_L3 (x.1, x.2.1, x.2.2.1, x.2.2.2.1, x.2.2.2.2.1, x.2.2.2.2.2)
partial_fixpoint
def element_L3 (x : Int × (List Int) × Int × Int × Int × Bool) : Option (Except Int (Int × Int × Bool × (List Int) × (List S36) × (List Int) × Int)) :=
  (lengthT (x.2.2.2.1, x.2.2.2.2.1, x.2.2.2.2.2, [], [], x.2.1, x.2.2.1)) >>= fun y7 =>
  match y7 with
  | .error y7 =>
    some (.error y7)
  | .ok y7 =>
    if (!y7.2.1) = true then
      element_L4 (x.1, y7.2.2.1, y7.2.2.2, x.2.2.2.1, x.2.2.2.2.1, x.2.2.2.2.2, [])
    else
      if x.2.2.2.2.2 = true then
        (take (y7.1, y7.2.2.1, y7.2.2.2)) >>= fun y11 =>
        match y11 with
        | .error y11 =>
          some (.error y11)
        | .ok y11 =>
          element_L5 (x.1, y11.2.1, y11.1, y11.2.2, x.2.2.2.1, x.2.2.2.2.1, x.2.2.2.2.2, [])
      else
        (take (y7.1, y7.2.2.1, y7.2.2.2)) >>= fun y12 =>
        match y12 with
        | .error y12 =>
          some (.error y12)
        | .ok y12 =>
          (cloneB y12.1) >>= fun y13 =>
          (clip y13) >>= fun y14 =>
          element_L6 (y12.2.1, y12.2.2, x.2.2.2.1, x.2.2.2.2.1, x.2.2.2.2.2, y14, [])
partial_fixpoint
def element_L4 (x : Int × (List Int) × Int × Int × Int × Bool × (List S36)) : Option (Except Int (Int × Int × Bool × (List Int) × (List S36) × (List Int) × Int)) :=
  (ahead (x.2.1, x.2.2.1)) >>= fun y8 =>
  match y8 with
  | .error y8 =>
    some (.error y8)
  | .ok y8 =>
    if y8.1 = true then
      (element ((IntKind.i64.wrap (x.1 + 1)), y8.2.1, y8.2.2)) >>= fun y9 =>
      match y9 with
      | .error y9 =>
        some (.error y9)
      | .ok y9 =>
        (app' 64 x.2.2.2.2.2.2 [(S36.mk y9.1 y9.2.1 y9.2.2.1 y9.2.2.2.1 y9.2.2.2.2.1)]) >>= fun y10 =>
        element_L4 (x.1, y9.2.2.2.2.2.1, y9.2.2.2.2.2.2, x.2.2.2.1, x.2.2.2.2.1, x.2.2.2.2.2.1, y10)
    else
      element_L6 (y8.2.1, y8.2.2, x.2.2.2.1, x.2.2.2.2.1, x.2.2.2.2.2.1, [], x.2.2.2.2.2.2)
partial_fixpoint
end
theorem element_L5_grp : (∀ (x : Int × (List Int) × (List Int) × Int × Int × Int × Bool × (List S36)) (r : Except Int (Int × Int × Bool × (List Int) × (List S36) × (List Int) × Int)), element_L5 x = some r → ∀ (W0 w0 : World) (S : Own), Std W0 w0 S 1 → HL Tryd.prog w0 S 128 (cL (cL (cR (cL (cR (cR (cL (cR (cR (cR (cL (cL (cR (cR (cR (cR (cR (cR (cR (cR (cB Tryd.f59))))))))))))))))))))) (mkS [(0, .pointer (some ⟨0, 0, none⟩)), (1, .int .i64 x.1), (4, .pointer (some ⟨1, 0, none⟩)), (6, .pointer (some ⟨2, 0, none⟩)), (10, ls 1 false (encI .u8) x.2.1)] [(0, .cells [ls 1 false (encI .u8) x.2.2.1, .int .i64 x.2.2.2.1] 121 2), (1, .cells [.int .u8 0, .int .u32 0, .bool false, .slice none 0 0, tl 5 3 enc36 []] 36 5), (2, .cells [.int .u8 x.2.2.2.2.1, .int .u32 x.2.2.2.2.2.1, .bool x.2.2.2.2.2.2.1, .slice none 0 0, tl 5 4 enc36 x.2.2.2.2.2.2.2] 36 5)] 5 [4, 3]) (Kblock 3 (Kseq Tryd.prog w0 S 128 (cR (cR (cR (cL (cR (cR (cR (cL (cL (cR (cR (cR (cR (cR (cR (cR (cR (cB Tryd.f59)))))))))))))))))) (Kblock 0 (Kseq Tryd.prog w0 S 128 (cR (cR (cR (cR (cR (cR (cR (cR (cR (cB Tryd.f59)))))))))) (KEnd Tryd.prog Tryd.f59 (FEnd w0 S (match r with | .ok r => .returned (.agg #[.int .u8 r.1, .int .u32 r.2.1, .bool r.2.2.1, ls 1 false (encI .u8) r.2.2.2.1, ls 5 false enc36 r.2.2.2.2.1]) | .error e => panE (.iface 25 (.int .i64 e))) (match r with | .ok r => (mkW 1 [] [(0, .cells [ls 1 false (encI .u8) r.2.2.2.2.2.1, .int .i64 r.2.2.2.2.2.2] 121 2)]) | .error _ => (mkW 1 [] []))))))))) ∧
  (∀ (x : Int × (List Int) × Int) (r : Except Int (Int × Int × Bool × (List Int) × (List S36) × (List Int) × Int)), element x = some r → ∀ W0 : World, FTo Tryd.prog W0 59 #[.pointer (some ⟨0, 0, none⟩), .int .i64 x.1] (mkW 1 [] [(0, .cells [ls 1 false (encI .u8) x.2.1, .int .i64 x.2.2] 121 2)]) (match r with | .ok r => .returned (.agg #[.int .u8 r.1, .int .u32 r.2.1, .bool r.2.2.1, ls 1 false (encI .u8) r.2.2.2.1, ls 5 false enc36 r.2.2.2.2.1]) | .error e => panE (.iface 25 (.int .i64 e))) (match r with | .ok r => (mkW 1 [] [(0, .cells [ls 1 false (encI .u8) r.2.2.2.2.2.1, .int .i64 r.2.2.2.2.2.2] 121 2)]) | .error _ => (mkW 1 [] []))) ∧
  (∀ (x : Int × (List Int) × Int) (r : Except Int (Int × Int × Bool × (List Int) × (List S36) × (List Int) × Int)), element_L1 x = some r → ∀ (W0 w0 : World) (S : Own), Std W0 w0 S 1 → H Tryd.prog w0 S 128 (cR (cR (cB Tryd.f59))) (mkS [(0, .pointer (some ⟨0, 0, none⟩)), (1, .int .i64 x.1), (4, .pointer (some ⟨1, 0, none⟩))] [(0, .cells [ls 1 false (encI .u8) x.2.1, .int .i64 x.2.2] 121 2), (1, .cells [.int .u8 0, .int .u32 0, .bool false, .slice none 0 0, .slice none 0 0] 36 5)] 2 []) (KEnd Tryd.prog Tryd.f59 (FEnd w0 S (match r with | .ok r => .returned (.agg #[.int .u8 r.1, .int .u32 r.2.1, .bool r.2.2.1, ls 1 false (encI .u8) r.2.2.2.1, ls 5 false enc36 r.2.2.2.2.1]) | .error e => panE (.iface 25 (.int .i64 e))) (match r with | .ok r => (mkW 1 [] [(0, .cells [ls 1 false (encI .u8) r.2.2.2.2.2.1, .int .i64 r.2.2.2.2.2.2] 121 2)]) | .error _ => (mkW 1 [] []))))) ∧
  (∀ (x : Int × (List Int) × Int × Int × Int × Bool) (r : Except Int (Int × Int × Bool × (List Int) × (List S36) × (List Int) × Int)), element_L2 x = some r → ∀ (W0 w0 : World) (S : Own), Std W0 w0 S 1 → H Tryd.prog w0 S 128 (cR (cR (cR (cR (cR (cR (cB Tryd.f59))))))) (mkS [(0, .pointer (some ⟨0, 0, none⟩)), (1, .int .i64 x.1), (4, .pointer (some ⟨1, 0, none⟩)), (6, .pointer (some ⟨2, 0, none⟩))] [(0, .cells [ls 1 false (encI .u8) x.2.1, .int .i64 x.2.2.1] 121 2), (1, .cells [.int .u8 0, .int .u32 0, .bool false, .slice none 0 0, .slice none 0 0] 36 5), (2, .cells [.int .u8 x.2.2.2.1, .int .u32 x.2.2.2.2.1, .bool x.2.2.2.2.2, .slice none 0 0, .slice none 0 0] 36 5)] 3 []) (KEnd Tryd.prog Tryd.f59 (FEnd w0 S (match r with | .ok r => .returned (.agg #[.int .u8 r.1, .int .u32 r.2.1, .bool r.2.2.1, ls 1 false (encI .u8) r.2.2.2.1, ls 5 false enc36 r.2.2.2.2.1]) | .error e => panE (.iface 25 (.int .i64 e))) (match r with | .ok r => (mkW 1 [] [(0, .cells [ls 1 false (encI .u8) r.2.2.2.2.2.1, .int .i64 r.2.2.2.2.2.2] 121 2)]) | .error _ => (mkW 1 [] []))))) ∧
  (∀ (x : Int × (List Int) × Int × Int × Int × Bool) (r : Except Int (Int × Int × Bool × (List Int) × (List S36) × (List Int) × Int)), element_L3 x = some r → ∀ (W0 w0 : World) (S : Own), Std W0 w0 S 1 → H Tryd.prog w0 S 128 (cR (cR (cR (cR (cR (cR (cR (cB Tryd.f59)))))))) (mkS [(0, .pointer (some ⟨0, 0, none⟩)), (1, .int .i64 x.1), (4, .pointer (some ⟨1, 0, none⟩)), (6, .pointer (some ⟨2, 0, none⟩))] [(0, .cells [ls 1 false (encI .u8) x.2.1, .int .i64 x.2.2.1] 121 2), (1, .cells [.int .u8 0, .int .u32 0, .bool false, .slice none 0 0, .slice none 0 0] 36 5), (2, .cells [.int .u8 x.2.2.2.1, .int .u32 x.2.2.2.2.1, .bool x.2.2.2.2.2, .slice none 0 0, .slice none 0 0] 36 5)] 3 []) (KEnd Tryd.prog Tryd.f59 (FEnd w0 S (match r with | .ok r => .returned (.agg #[.int .u8 r.1, .int .u32 r.2.1, .bool r.2.2.1, ls 1 false (encI .u8) r.2.2.2.1, ls 5 false enc36 r.2.2.2.2.1]) | .error e => panE (.iface 25 (.int .i64 e))) (match r with | .ok r => (mkW 1 [] [(0, .cells [ls 1 false (encI .u8) r.2.2.2.2.2.1, .int .i64 r.2.2.2.2.2.2] 121 2)]) | .error _ => (mkW 1 [] []))))) ∧
  (∀ (x : Int × (List Int) × Int × Int × Int × Bool × (List S36)) (r : Except Int (Int × Int × Bool × (List Int) × (List S36) × (List Int) × Int)), element_L4 x = some r → ∀ (W0 w0 : World) (S : Own), Std W0 w0 S 1 → HL Tryd.prog w0 S 128 (cL (cL (cL (cR (cL (cL (cR (cR (cR (cR (cR (cR (cR (cR (cB Tryd.f59))))))))))))))) (mkS [(0, .pointer (some ⟨0, 0, none⟩)), (1, .int .i64 x.1), (4, .pointer (some ⟨1, 0, none⟩)), (6, .pointer (some ⟨2, 0, none⟩))] [(0, .cells [ls 1 false (encI .u8) x.2.1, .int .i64 x.2.2.1] 121 2), (1, .cells [.int .u8 0, .int .u32 0, .bool false, .slice none 0 0, tl 5 3 enc36 []] 36 5), (2, .cells [.int .u8 x.2.2.2.1, .int .u32 x.2.2.2.2.1, .bool x.2.2.2.2.2.1, .slice none 0 0, tl 5 4 enc36 x.2.2.2.2.2.2] 36 5)] 5 [4, 3]) (Kblock 1 (Kblock 0 (Kseq Tryd.prog w0 S 128 (cR (cR (cR (cR (cR (cR (cR (cR (cR (cB Tryd.f59)))))))))) (KEnd Tryd.prog Tryd.f59 (FEnd w0 S (match r with | .ok r => .returned (.agg #[.int .u8 r.1, .int .u32 r.2.1, .bool r.2.2.1, ls 1 false (encI .u8) r.2.2.2.1, ls 5 false enc36 r.2.2.2.2.1]) | .error e => panE (.iface 25 (.int .i64 e))) (match r with | .ok r => (mkW 1 [] [(0, .cells [ls 1 false (encI .u8) r.2.2.2.2.2.1, .int .i64 r.2.2.2.2.2.2] 121 2)]) | .error _ => (mkW 1 [] [])))))))) := by
  refine element_L5.mutual_partial_correctness (fun (x : Int × (List Int) × (List Int) × Int × Int × Int × Bool × (List S36)) (r : Except Int (Int × Int × Bool × (List Int) × (List S36) × (List Int) × Int)) => ∀ (W0 w0 : World) (S : Own), Std W0 w0 S 1 → HL Tryd.prog w0 S 128 (cL (cL (cR (cL (cR (cR (cL (cR (cR (cR (cL (cL (cR (cR (cR (cR (cR (cR (cR (cR (cB Tryd.f59))))))))))))))))))))) (mkS [(0, .pointer (some ⟨0, 0, none⟩)), (1, .int .i64 x.1), (4, .pointer (some ⟨1, 0, none⟩)), (6, .pointer (some ⟨2, 0, none⟩)), (10, ls 1 false (encI .u8) x.2.1)] [(0, .cells [ls 1 false (encI .u8) x.2.2.1, .int .i64 x.2.2.2.1] 121 2), (1, .cells [.int .u8 0, .int .u32 0, .bool false, .slice none 0 0, tl 5 3 enc36 []] 36 5), (2, .cells [.int .u8 x.2.2.2.2.1, .int .u32 x.2.2.2.2.2.1, .bool x.2.2.2.2.2.2.1, .slice none 0 0, tl 5 4 enc36 x.2.2.2.2.2.2.2] 36 5)] 5 [4, 3]) (Kblock 3 (Kseq Tryd.prog w0 S 128 (cR (cR (cR (cL (cR (cR (cR (cL (cL (cR (cR (cR (cR (cR (cR (cR (cR (cB Tryd.f59)))))))))))))))))) (Kblock 0 (Kseq Tryd.prog w0 S 128 (cR (cR (cR (cR (cR (cR (cR (cR (cR (cB Tryd.f59)))))))))) (KEnd Tryd.prog Tryd.f59 (FEnd w0 S (match r with | .ok r => .returned (.agg #[.int .u8 r.1, .int .u32 r.2.1, .bool r.2.2.1, ls 1 false (encI .u8) r.2.2.2.1, ls 5 false enc36 r.2.2.2.2.1]) | .error e => panE (.iface 25 (.int .i64 e))) (match r with | .ok r => (mkW 1 [] [(0, .cells [ls 1 false (encI .u8) r.2.2.2.2.2.1, .int .i64 r.2.2.2.2.2.2] 121 2)]) | .error _ => (mkW 1 [] []))))))))) (fun (x : Int × (List Int) × Int) (r : Except Int (Int × Int × Bool × (List Int) × (List S36) × (List Int) × Int)) => ∀ W0 : World, FTo Tryd.prog W0 59 #[.pointer (some ⟨0, 0, none⟩), .int .i64 x.1] (mkW 1 [] [(0, .cells [ls 1 false (encI .u8) x.2.1, .int .i64 x.2.2] 121 2)]) (match r with | .ok r => .returned (.agg #[.int .u8 r.1, .int .u32 r.2.1, .bool r.2.2.1, ls 1 false (encI .u8) r.2.2.2.1, ls 5 false enc36 r.2.2.2.2.1]) | .error e => panE (.iface 25 (.int .i64 e))) (match r with | .ok r => (mkW 1 [] [(0, .cells [ls 1 false (encI .u8) r.2.2.2.2.2.1, .int .i64 r.2.2.2.2.2.2] 121 2)]) | .error _ => (mkW 1 [] []))) (fun (x : Int × (List Int) × Int) (r : Except Int (Int × Int × Bool × (List Int) × (List S36) × (List Int) × Int)) => ∀ (W0 w0 : World) (S : Own), Std W0 w0 S 1 → H Tryd.prog w0 S 128 (cR (cR (cB Tryd.f59))) (mkS [(0, .pointer (some ⟨0, 0, none⟩)), (1, .int .i64 x.1), (4, .pointer (some ⟨1, 0, none⟩))] [(0, .cells [ls 1 false (encI .u8) x.2.1, .int .i64 x.2.2] 121 2), (1, .cells [.int .u8 0, .int .u32 0, .bool false, .slice none 0 0, .slice none 0 0] 36 5)] 2 []) (KEnd Tryd.prog Tryd.f59 (FEnd w0 S (match r with | .ok r => .returned (.agg #[.int .u8 r.1, .int .u32 r.2.1, .bool r.2.2.1, ls 1 false (encI .u8) r.2.2.2.1, ls 5 false enc36 r.2.2.2.2.1]) | .error e => panE (.iface 25 (.int .i64 e))) (match r with | .ok r => (mkW 1 [] [(0, .cells [ls 1 false (encI .u8) r.2.2.2.2.2.1, .int .i64 r.2.2.2.2.2.2] 121 2)]) | .error _ => (mkW 1 [] []))))) (fun (x : Int × (List Int) × Int × Int × Int × Bool) (r : Except Int (Int × Int × Bool × (List Int) × (List S36) × (List Int) × Int)) => ∀ (W0 w0 : World) (S : Own), Std W0 w0 S 1 → H Tryd.prog w0 S 128 (cR (cR (cR (cR (cR (cR (cB Tryd.f59))))))) (mkS [(0, .pointer (some ⟨0, 0, none⟩)), (1, .int .i64 x.1), (4, .pointer (some ⟨1, 0, none⟩)), (6, .pointer (some ⟨2, 0, none⟩))] [(0, .cells [ls 1 false (encI .u8) x.2.1, .int .i64 x.2.2.1] 121 2), (1, .cells [.int .u8 0, .int .u32 0, .bool false, .slice none 0 0, .slice none 0 0] 36 5), (2, .cells [.int .u8 x.2.2.2.1, .int .u32 x.2.2.2.2.1, .bool x.2.2.2.2.2, .slice none 0 0, .slice none 0 0] 36 5)] 3 []) (KEnd Tryd.prog Tryd.f59 (FEnd w0 S (match r with | .ok r => .returned (.agg #[.int .u8 r.1, .int .u32 r.2.1, .bool r.2.2.1, ls 1 false (encI .u8) r.2.2.2.1, ls 5 false enc36 r.2.2.2.2.1]) | .error e => panE (.iface 25 (.int .i64 e))) (match r with | .ok r => (mkW 1 [] [(0, .cells [ls 1 false (encI .u8) r.2.2.2.2.2.1, .int .i64 r.2.2.2.2.2.2] 121 2)]) | .error _ => (mkW 1 [] []))))) (fun (x : Int × (List Int) × Int × Int × Int × Bool) (r : Except Int (Int × Int × Bool × (List Int) × (List S36) × (List Int) × Int)) => ∀ (W0 w0 : World) (S : Own), Std W0 w0 S 1 → H Tryd.prog w0 S 128 (cR (cR (cR (cR (cR (cR (cR (cB Tryd.f59)))))))) (mkS [(0, .pointer (some ⟨0, 0, none⟩)), (1, .int .i64 x.1), (4, .pointer (some ⟨1, 0, none⟩)), (6, .pointer (some ⟨2, 0, none⟩))] [(0, .cells [ls 1 false (encI .u8) x.2.1, .int .i64 x.2.2.1] 121 2), (1, .cells [.int .u8 0, .int .u32 0, .bool false, .slice none 0 0, .slice none 0 0] 36 5), (2, .cells [.int .u8 x.2.2.2.1, .int .u32 x.2.2.2.2.1, .bool x.2.2.2.2.2, .slice none 0 0, .slice none 0 0] 36 5)] 3 []) (KEnd Tryd.prog Tryd.f59 (FEnd w0 S (match r with | .ok r => .returned (.agg #[.int .u8 r.1, .int .u32 r.2.1, .bool r.2.2.1, ls 1 false (encI .u8) r.2.2.2.1, ls 5 false enc36 r.2.2.2.2.1]) | .error e => panE (.iface 25 (.int .i64 e))) (match r with | .ok r => (mkW 1 [] [(0, .cells [ls 1 false (encI .u8) r.2.2.2.2.2.1, .int .i64 r.2.2.2.2.2.2] 121 2)]) | .error _ => (mkW 1 [] []))))) (fun (x : Int × (List Int) × Int × Int × Int × Bool × (List S36)) (r : Except Int (Int × Int × Bool × (List Int) × (List S36) × (List Int) × Int)) => ∀ (W0 w0 : World) (S : Own), Std W0 w0 S 1 → HL Tryd.prog w0 S 128 (cL (cL (cL (cR (cL (cL (cR (cR (cR (cR (cR (cR (cR (cR (cB Tryd.f59))))))))))))))) (mkS [(0, .pointer (some ⟨0, 0, none⟩)), (1, .int .i64 x.1), (4, .pointer (some ⟨1, 0, none⟩)), (6, .pointer (some ⟨2, 0, none⟩))] [(0, .cells [ls 1 false (encI .u8) x.2.1, .int .i64 x.2.2.1] 121 2), (1, .cells [.int .u8 0, .int .u32 0, .bool false, .slice none 0 0, tl 5 3 enc36 []] 36 5), (2, .cells [.int .u8 x.2.2.2.1, .int .u32 x.2.2.2.2.1, .bool x.2.2.2.2.2.1, .slice none 0 0, tl 5 4 enc36 x.2.2.2.2.2.2] 36 5)] 5 [4, 3]) (Kblock 1 (Kblock 0 (Kseq Tryd.prog w0 S 128 (cR (cR (cR (cR (cR (cR (cR (cR (cR (cB Tryd.f59)))))))))) (KEnd Tryd.prog Tryd.f59 (FEnd w0 S (match r with | .ok r => .returned (.agg #[.int .u8 r.1, .int .u32 r.2.1, .bool r.2.2.1, ls 1 false (encI .u8) r.2.2.2.1, ls 5 false enc36 r.2.2.2.2.1]) | .error e => panE (.iface 25 (.int .i64 e))) (match r with | .ok r => (mkW 1 [] [(0, .cells [ls 1 false (encI .u8) r.2.2.2.2.2.1, .int .i64 r.2.2.2.2.2.2] 121 2)]) | .error _ => (mkW 1 [] [])))))))) ?_ ?_ ?_ ?_ ?_ ?_
  · intro g_element_L5 g_element ih_element_L5 ih_element x r h
    intro W0 w0 S hS
    haveI := hS.noEx Tryd.prog
    refine HL.round ?_
    refine H.seqP (by kernel_rfl) ?_
    refine H.seqP (by kernel_rfl) ?_
    refine H.regP (by kernel_rfl) ?_
    refine HO.goP 5 (by kernel_rfl) ?_
    refine HO.len (by kernel_rfl) (by kernel_rfl) (ls_size (encI .u8) x.2.2.1) ?_
    refine HO.goP 1 (by kernel_rfl) ?_
    refine HO.done (by kernel_rfl) ?_
    refine Kseq_norm ?_
    refine H.condS (b := decide (0 < (x.2.2.1.length : Int))) (by kernel_rfl) (by kernel_rfl) (fun hb => ?_) (fun hb => ?_)
    · rw [if_pos (of_decide_eq_true hb)] at h
      refine H.skipP (by kernel_rfl) ?_
      refine Kseq_norm ?_
      refine H.blockI 4 (by kernel_rfl) ?_
      refine H.drawQ ?_
      refine HQ.goP 5 (by kernel_rfl) ?_
      obtain ⟨y15, hy, h⟩ := bindS h
      rcases y15 with y15 | y15
      · dsimp only at h
        refine HQ.panFW hS [4] 5 [4, 3] [(1, .cells [.int .u8 0, .int .u32 0, .bool false, .slice none 0 0, tl 5 3 enc36 []] 36 5), (2, .cells [.int .u8 x.2.2.2.2.1, .int .u32 x.2.2.2.2.2.1, .bool x.2.2.2.2.2.2.1, .slice none 0 0, tl 5 4 enc36 x.2.2.2.2.2.2.2] 36 5)] [0] [.keep, .keep] (ih_element ((IntKind.i64.wrap (x.1 + 1)), x.2.2.1, x.2.2.2.1) (.error y15) hy W0) (by kernel_rfl) (by kernel_rfl) (by kernel_rfl) (by kernel_rfl) ?_
        refine Kblock_pan ?_
        refine Kloop_pan ?_
        refine Kblock_pan ?_
        refine Kseq_pan ?_
        refine Kblock_pan ?_
        refine Kseq_pan ?_
        obtain rfl := Option.some.inj h
        exact KEnd.ofPan (by kernel_rfl) (FEnd.pan hS [0] [] [] (by kernel_rfl))
      · dsimp only at h
        refine HQ.callFW hS (.agg #[.int .u8 y15.1, .int .u32 y15.2.1, .bool y15.2.2.1, ls 1 false (encI .u8) y15.2.2.2.1, ls 5 false enc36 y15.2.2.2.2.1]) 5 [4, 3] [(0, .cells [ls 1 false (encI .u8) y15.2.2.2.2.2.1, .int .i64 y15.2.2.2.2.2.2] 121 2), (1, .cells [.int .u8 0, .int .u32 0, .bool false, .slice none 0 0, tl 5 3 enc36 []] 36 5), (2, .cells [.int .u8 x.2.2.2.2.1, .int .u32 x.2.2.2.2.2.1, .bool x.2.2.2.2.2.2.1, .slice none 0 0, tl 5 4 enc36 x.2.2.2.2.2.2.2] 36 5)] [0] [.keep, .keep] (ih_element ((IntKind.i64.wrap (x.1 + 1)), x.2.2.1, x.2.2.2.1) (.ok y15) hy W0) (by kernel_rfl) (by kernel_rfl) ?_
        refine HQ.goP 1 (by kernel_rfl) ?_
        obtain ⟨y16, hy, h⟩ := bindS h
        refine HQ.effA (app1_aop (enc := enc36) (k := 5) true 1 [.int .u8 y15.1, .int .u32 y15.2.1, .bool y15.2.2.1, ls 1 false (encI .u8) y15.2.2.2.1, ls 5 false enc36 y15.2.2.2.2.1] [3] hy (by kernel_rfl) (by kernel_rfl) (by simp only [List.map_cons, List.map_nil, enc36_eq]; kernel_rfl)) ?_
        refine HQ.goP 2 (by kernel_rfl) ?_
        refine HQ.done (by kernel_rfl) (by kernel_rfl) (by kernel_rfl) ?_
        refine Kblock_norm ?_
        refine Kloop_norm ?_
        exact HL.ren hS [0, 1, 2, 3, 6] _ _ _ (by kernel_rfl) (ih_element_L5 (x.1, x.2.1, y15.2.2.2.2.2.1, y15.2.2.2.2.2.2, x.2.2.2.2.1, x.2.2.2.2.2.1, x.2.2.2.2.2.2.1, y16) r h W0 w0 S hS)
    · rw [if_neg (of_decide_eq_false hb)] at h
      refine H.exitI 3 (by kernel_rfl) ?_
      refine Kseq_exit ?_
      refine Kloop_exit ?_
      refine Kblock_hit ?_
      refine Kseq_norm ?_
      refine H.regP (by kernel_rfl) ?_
      refine HO.goP 6 (by kernel_rfl) ?_
      refine HO.done (by kernel_rfl) ?_
      refine Kblock_norm ?_
      refine Kseq_norm ?_
      refine H.wkc 2 36 5 3 [.int .u8 x.2.2.2.2.1, .int .u32 x.2.2.2.2.2.1, .bool x.2.2.2.2.2.2.1, .slice none 0 0, tl 5 4 enc36 x.2.2.2.2.2.2.2] (.slice none 0 0) (ls 1 true (encI .u8) []) (.list 1 true) (by kernel_rfl) ?_
      exact H.ren hS [0, 1, 2, 3, 4] _ _ _ (by kernel_rfl) (element_L6_ok (x.2.1, x.2.2.2.1, x.2.2.2.2.1, x.2.2.2.2.2.1, x.2.2.2.2.2.2.1, [], x.2.2.2.2.2.2.2) r h W0 w0 S hS)
  · intro g_element_L1 ih_element_L1 x r h
    intro W0
    refine FTo.of_body (fn := Tryd.f59) (code := cB Tryd.f59) Tryd.func59 rfl rfl ?_
    intro w0 S hS
    haveI := hS.noEx Tryd.prog
    refine H.seqP (by kernel_rfl) ?_
    refine H.regP (by kernel_rfl) ?_
    refine HO.goP 1 (by kernel_rfl) ?_
    refine HO.done (by kernel_rfl) ?_
    refine Kseq_norm ?_
    refine H.seqP (by kernel_rfl) ?_
    refine H.regP (by kernel_rfl) ?_
    refine HO.goP 2 (by kernel_rfl) ?_
    refine HO.boolP (decide (x.1 ≤ 16)) (by kernel_rfl) (by kernel_rfl) (fun hb => ?_) (fun hb => ?_)
    · rw [if_pos (of_decide_eq_true hb)] at h
      refine HO.goP 6 (by kernel_rfl) ?_
      obtain ⟨y1, hy, h⟩ := bindS h
      rcases y1 with y1 | y1
      · dsimp only at h
        refine HO.panW hS [.keep, .keep] (must_ok ((decide (x.2.2 < 1024)), 3) (.error y1) hy W0) (by kernel_rfl) (by kernel_rfl) ?_
        refine Kseq_pan ?_
        obtain rfl := Option.some.inj h
        exact KEnd.ofPan (by kernel_rfl) (FEnd.pan hS [0] [] [] (by kernel_rfl))
      · dsimp only at h
        refine HO.callW hS [.keep, .keep] (must_ok ((decide (x.2.2 < 1024)), 3) (.ok y1) hy W0) (by kernel_rfl) (by kernel_rfl) ?_
        refine HO.done (by kernel_rfl) ?_
        refine Kseq_norm ?_
        exact H.ren hS [0, 1] _ _ _ (by kernel_rfl) (ih_element_L1 (x.1, x.2.1, x.2.2) r h W0 w0 S hS)
    · rw [if_neg (of_decide_eq_false hb)] at h
      refine HO.goP 6 (by kernel_rfl) ?_
      obtain ⟨y2, hy, h⟩ := bindS h
      rcases y2 with y2 | y2
      · dsimp only at h
        refine HO.panW hS [.keep, .keep] (must_ok (false, 3) (.error y2) hy W0) (by kernel_rfl) (by kernel_rfl) ?_
        refine Kseq_pan ?_
        obtain rfl := Option.some.inj h
        exact KEnd.ofPan (by kernel_rfl) (FEnd.pan hS [0] [] [] (by kernel_rfl))
      · dsimp only at h
        refine HO.callW hS [.keep, .keep] (must_ok (false, 3) (.ok y2) hy W0) (by kernel_rfl) (by kernel_rfl) ?_
        refine HO.done (by kernel_rfl) ?_
        refine Kseq_norm ?_
        exact H.ren hS [0, 1] _ _ _ (by kernel_rfl) (ih_element_L1 (x.1, x.2.1, x.2.2) r h W0 w0 S hS)
  · intro g_element_L2 ih_element_L2 x r h
    intro W0 w0 S hS
    haveI := hS.noEx Tryd.prog
    refine H.seqP (by kernel_rfl) ?_
    refine H.regP (by kernel_rfl) ?_
    refine HO.goP 8 (by kernel_rfl) ?_
    refine HO.done (by kernel_rfl) ?_
    refine Kseq_norm ?_
    refine H.seqP (by kernel_rfl) ?_
    refine H.regP (by kernel_rfl) ?_
    refine HO.goP 3 (by kernel_rfl) ?_
    obtain ⟨y3, hy, h⟩ := bindS h
    rcases y3 with y3 | y3
    · dsimp only at h
      refine HO.panFW hS 2 [] [(1, .cells [.int .u8 0, .int .u32 0, .bool false, .slice none 0 0, .slice none 0 0] 36 5)] [0] [.keep] (next_ok (x.2.1, (IntKind.i64.wrap (x.2.2 + 1))) (.error y3) hy W0) (by kernel_rfl) (by kernel_rfl) ?_
      refine Kseq_pan ?_
      obtain rfl := Option.some.inj h
      exact KEnd.ofPan (by kernel_rfl) (FEnd.pan hS [0] [] [] (by kernel_rfl))
    · dsimp only at h
      refine HO.callFW hS (.int .u8 y3.1) 2 [] [(0, .cells [ls 1 false (encI .u8) y3.2.1, .int .i64 y3.2.2] 121 2), (1, .cells [.int .u8 0, .int .u32 0, .bool false, .slice none 0 0, .slice none 0 0] 36 5)] [0] [.keep] (next_ok (x.2.1, (IntKind.i64.wrap (x.2.2 + 1))) (.ok y3) hy W0) (by kernel_rfl) (by kernel_rfl) ?_
      refine HO.goP 1 (by kernel_rfl) ?_
      refine HO.done (by kernel_rfl) ?_
      refine Kseq_norm ?_
      refine H.seqP (by kernel_rfl) ?_
      refine H.regP (by kernel_rfl) ?_
      refine HO.goP 11 (by kernel_rfl) ?_
      refine HO.done (by kernel_rfl) ?_
      refine Kseq_norm ?_
      refine H.seqP (by kernel_rfl) ?_
      refine H.seqP (by kernel_rfl) ?_
      refine H.regP (by kernel_rfl) ?_
      refine HO.goP 3 (by kernel_rfl) ?_
      refine HO.done (by kernel_rfl) ?_
      refine Kseq_norm ?_
      refine H.condS (b := decide ((IntKind.u32.wrap (bAnd .u8 y3.1 31)) = 31)) (by kernel_rfl) (by kernel_rfl) (fun hb => ?_) (fun hb => ?_)
      · rw [if_pos (of_decide_eq_true hb)] at h
        refine H.regP (by kernel_rfl) ?_
        refine HO.goP 1 (by kernel_rfl) ?_
        obtain ⟨y4, hy, h⟩ := bindS h
        rcases y4 with y4 | y4
        · dsimp only at h
          refine HO.panFW hS 3 [] [(1, .cells [.int .u8 0, .int .u32 0, .bool false, .slice none 0 0, .slice none 0 0] 36 5), (2, .cells [.int .u8 (shrI .u8 y3.1 6), .int .u32 (IntKind.u32.wrap (bAnd .u8 y3.1 31)), .bool (decide (0 < (bAnd .u8 y3.1 32))), .slice none 0 0, .slice none 0 0] 36 5)] [0] [.keep] (numberT_ok (y3.2.1, y3.2.2) (.error y4) hy W0) (by kernel_rfl) (by kernel_rfl) ?_
          refine Kseq_pan ?_
          obtain rfl := Option.some.inj h
          exact KEnd.ofPan (by kernel_rfl) (FEnd.pan hS [0] [] [] (by kernel_rfl))
        · dsimp only at h
          refine HO.callFW hS (.int .u32 y4.1) 3 [] [(0, .cells [ls 1 false (encI .u8) y4.2.1, .int .i64 y4.2.2] 121 2), (1, .cells [.int .u8 0, .int .u32 0, .bool false, .slice none 0 0, .slice none 0 0] 36 5), (2, .cells [.int .u8 (shrI .u8 y3.1 6), .int .u32 (IntKind.u32.wrap (bAnd .u8 y3.1 31)), .bool (decide (0 < (bAnd .u8 y3.1 32))), .slice none 0 0, .slice none 0 0] 36 5)] [0] [.keep] (numberT_ok (y3.2.1, y3.2.2) (.ok y4) hy W0) (by kernel_rfl) (by kernel_rfl) ?_
          refine HO.goP 2 (by kernel_rfl) ?_
          refine HO.done (by kernel_rfl) ?_
          refine Kseq_norm ?_
          exact H.ren hS [0, 1, 2] _ _ _ (by kernel_rfl) (ih_element_L2 (x.1, y4.2.1, y4.2.2, (shrI .u8 y3.1 6), y4.1, (decide (0 < (bAnd .u8 y3.1 32)))) r h W0 w0 S hS)
      · rw [if_neg (of_decide_eq_false hb)] at h
        refine H.skipP (by kernel_rfl) ?_
        refine Kseq_norm ?_
        exact H.ren hS [0, 1, 2] _ _ _ (by kernel_rfl) (ih_element_L2 (x.1, y3.2.1, y3.2.2, (shrI .u8 y3.1 6), (IntKind.u32.wrap (bAnd .u8 y3.1 31)), (decide (0 < (bAnd .u8 y3.1 32)))) r h W0 w0 S hS)
  · intro g_element_L3 ih_element_L3 x r h
    intro W0 w0 S hS
    haveI := hS.noEx Tryd.prog
    refine H.seqP (by kernel_rfl) ?_
    refine H.regP (by kernel_rfl) ?_
    refine HO.goP 3 (by kernel_rfl) ?_
    refine HO.boolP (decide (0 < x.2.2.2.1)) (by kernel_rfl) (by kernel_rfl) (fun hb => ?_) (fun hb => ?_)
    · rw [if_pos (of_decide_eq_true hb)] at h
      refine HO.goP 4 (by kernel_rfl) ?_
      obtain ⟨y5, hy, h⟩ := bindS h
      rcases y5 with y5 | y5
      · dsimp only at h
        refine HO.panW hS [.keep, .keep] (must_ok (true, 4) (.error y5) hy W0) (by kernel_rfl) (by kernel_rfl) ?_
        refine Kseq_pan ?_
        obtain rfl := Option.some.inj h
        exact KEnd.ofPan (by kernel_rfl) (FEnd.pan hS [0] [] [] (by kernel_rfl))
      · dsimp only at h
        refine HO.callW hS [.keep, .keep] (must_ok (true, 4) (.ok y5) hy W0) (by kernel_rfl) (by kernel_rfl) ?_
        refine HO.done (by kernel_rfl) ?_
        refine Kseq_norm ?_
        exact H.ren hS [0, 1, 2] _ _ _ (by kernel_rfl) (ih_element_L3 (x.1, x.2.1, x.2.2.1, x.2.2.2.1, x.2.2.2.2.1, x.2.2.2.2.2) r h W0 w0 S hS)
    · rw [if_neg (of_decide_eq_false hb)] at h
      refine HO.goP 4 (by kernel_rfl) ?_
      obtain ⟨y6, hy, h⟩ := bindS h
      rcases y6 with y6 | y6
      · dsimp only at h
        refine HO.panW hS [.keep, .keep] (must_ok ((decide (0 < x.2.2.2.2.1)), 4) (.error y6) hy W0) (by kernel_rfl) (by kernel_rfl) ?_
        refine Kseq_pan ?_
        obtain rfl := Option.some.inj h
        exact KEnd.ofPan (by kernel_rfl) (FEnd.pan hS [0] [] [] (by kernel_rfl))
      · dsimp only at h
        refine HO.callW hS [.keep, .keep] (must_ok ((decide (0 < x.2.2.2.2.1)), 4) (.ok y6) hy W0) (by kernel_rfl) (by kernel_rfl) ?_
        refine HO.done (by kernel_rfl) ?_
        refine Kseq_norm ?_
        exact H.ren hS [0, 1, 2] _ _ _ (by kernel_rfl) (ih_element_L3 (x.1, x.2.1, x.2.2.1, x.2.2.2.1, x.2.2.2.2.1, x.2.2.2.2.2) r h W0 w0 S hS)
  · intro g_element_L5 g_element_L4 ih_element_L5 ih_element_L4 x r h
    intro W0 w0 S hS
    haveI := hS.noEx Tryd.prog
    refine H.seqP (by kernel_rfl) ?_
    refine H.regP (by kernel_rfl) ?_
    refine HO.goP 2 (by kernel_rfl) ?_
    obtain ⟨y7, hy, h⟩ := bindS h
    rcases y7 with y7 | y7
    · dsimp only at h
      refine HO.panFW hS 3 [] [(1, .cells [.int .u8 0, .int .u32 0, .bool false, .slice none 0 0, .slice none 0 0] 36 5), (2, .cells [.int .u8 x.2.2.2.1, .int .u32 x.2.2.2.2.1, .bool x.2.2.2.2.2, .slice none 0 0, .slice none 0 0] 36 5)] [0] [.keep, .agg [.keep, .keep, .keep, .list 1 false, .list 5 false]] (lengthT_ok (x.2.2.2.1, x.2.2.2.2.1, x.2.2.2.2.2, [], [], x.2.1, x.2.2.1) (.error y7) hy W0) (by kernel_rfl) (by kernel_rfl) ?_
      refine Kseq_pan ?_
      obtain rfl := Option.some.inj h
      exact KEnd.ofPan (by kernel_rfl) (FEnd.pan hS [0] [] [] (by kernel_rfl))
    · dsimp only at h
      refine HO.callFW hS (.tuple #[.int .i64 y7.1, .bool y7.2.1]) 3 [] [(0, .cells [ls 1 false (encI .u8) y7.2.2.1, .int .i64 y7.2.2.2] 121 2), (1, .cells [.int .u8 0, .int .u32 0, .bool false, .slice none 0 0, .slice none 0 0] 36 5), (2, .cells [.int .u8 x.2.2.2.1, .int .u32 x.2.2.2.2.1, .bool x.2.2.2.2.2, .slice none 0 0, .slice none 0 0] 36 5)] [0] [.keep, .agg [.keep, .keep, .keep, .list 1 false, .list 5 false]] (lengthT_ok (x.2.2.2.1, x.2.2.2.2.1, x.2.2.2.2.2, [], [], x.2.1, x.2.2.1) (.ok y7) hy W0) (by kernel_rfl) (by kernel_rfl) ?_
      refine HO.goP 5 (by kernel_rfl) ?_
      refine HO.done (by kernel_rfl) ?_
      refine Kseq_norm ?_
      refine H.seqP (by kernel_rfl) ?_
      refine H.blockI 0 (by kernel_rfl) ?_
      refine H.seqP (by kernel_rfl) ?_
      refine H.regP (by kernel_rfl) ?_
      refine HO.goP 3 (by kernel_rfl) ?_
      refine HO.done (by kernel_rfl) ?_
      refine Kseq_norm ?_
      refine H.condS (b := !y7.2.1) (by kernel_rfl) (by kernel_rfl) (fun hb => ?_) (fun hb => ?_)
      · rw [if_pos hb] at h
        refine H.blockI 1 (by kernel_rfl) ?_
        refine H.loopP (by kernel_rfl) ?_
        refine HL.tkc 1 36 5 4 5 [.int .u8 0, .int .u32 0, .bool false, .slice none 0 0, .slice none 0 0] (.slice none 0 0) #[] (by kernel_rfl) ?_
        refine HL.tkc 2 36 5 4 5 [.int .u8 x.2.2.2.1, .int .u32 x.2.2.2.2.1, .bool x.2.2.2.2.2, .slice none 0 0, .slice none 0 0] (.slice none 0 0) #[] (by kernel_rfl) ?_
        exact HL.ren hS [0, 1, 2, 3, 4] _ _ _ (by kernel_rfl) (ih_element_L4 (x.1, y7.2.2.1, y7.2.2.2, x.2.2.2.1, x.2.2.2.2.1, x.2.2.2.2.2, []) r h W0 w0 S hS)
      · rw [if_neg (ne_true hb)] at h
        refine H.seqP (by kernel_rfl) ?_
        refine H.regP (by kernel_rfl) ?_
        refine HO.goP 3 (by kernel_rfl) ?_
        refine HO.done (by kernel_rfl) ?_
        refine Kseq_norm ?_
        refine H.condS (b := x.2.2.2.2.2) (by kernel_rfl) (by kernel_rfl) (fun hb => ?_) (fun hb => ?_)
        · rw [if_pos hb] at h
          refine H.seqP (by kernel_rfl) ?_
          refine H.regP (by kernel_rfl) ?_
          refine HO.goP 4 (by kernel_rfl) ?_
          obtain ⟨y11, hy, h⟩ := bindS h
          rcases y11 with y11 | y11
          · dsimp only at h
            refine HO.panFW hS 3 [] [(1, .cells [.int .u8 0, .int .u32 0, .bool false, .slice none 0 0, .slice none 0 0] 36 5), (2, .cells [.int .u8 x.2.2.2.1, .int .u32 x.2.2.2.2.1, .bool x.2.2.2.2.2, .slice none 0 0, .slice none 0 0] 36 5)] [0] [.keep, .keep] (take_ok (y7.1, y7.2.2.1, y7.2.2.2) (.error y11) hy W0) (by kernel_rfl) (by kernel_rfl) ?_
            refine Kseq_pan ?_
            refine Kblock_pan ?_
            refine Kseq_pan ?_
            obtain rfl := Option.some.inj h
            exact KEnd.ofPan (by kernel_rfl) (FEnd.pan hS [0] [] [] (by kernel_rfl))
          · dsimp only at h
            refine HO.callFW hS (ls 1 false (encI .u8) y11.1) 3 [] [(0, .cells [ls 1 false (encI .u8) y11.2.1, .int .i64 y11.2.2] 121 2), (1, .cells [.int .u8 0, .int .u32 0, .bool false, .slice none 0 0, .slice none 0 0] 36 5), (2, .cells [.int .u8 x.2.2.2.1, .int .u32 x.2.2.2.2.1, .bool x.2.2.2.2.2, .slice none 0 0, .slice none 0 0] 36 5)] [0] [.keep, .keep] (take_ok (y7.1, y7.2.2.1, y7.2.2.2) (.ok y11) hy W0) (by kernel_rfl) (by kernel_rfl) ?_
            refine HO.goP 1 (by kernel_rfl) ?_
            refine HO.done (by kernel_rfl) ?_
            refine Kseq_norm ?_
            refine H.seqP (by kernel_rfl) ?_
            refine H.regP (by kernel_rfl) ?_
            refine HO.goP 6 (by kernel_rfl) ?_
            refine HO.done (by kernel_rfl) ?_
            refine Kseq_norm ?_
            refine H.seqP (by kernel_rfl) ?_
            refine H.seqP (by kernel_rfl) ?_
            refine H.regP (by kernel_rfl) ?_
            refine HO.goP 6 (by kernel_rfl) ?_
            refine HO.done (by kernel_rfl) ?_
            refine Kseq_norm ?_
            refine H.blockI 3 (by kernel_rfl) ?_
            refine H.loopP (by kernel_rfl) ?_
            refine HL.tkc 1 36 5 4 5 [.int .u8 0, .int .u32 0, .bool false, .slice none 0 0, .slice none 0 0] (.slice none 0 0) #[] (by kernel_rfl) ?_
            refine HL.tkc 2 36 5 4 5 [.int .u8 x.2.2.2.1, .int .u32 x.2.2.2.2.1, .bool x.2.2.2.2.2, .slice none 0 0, .slice none 0 0] (.slice none 0 0) #[] (by kernel_rfl) ?_
            exact HL.ren hS [0, 1, 2, 3, 4] _ _ _ (by kernel_rfl) (ih_element_L5 (x.1, y11.2.1, y11.1, y11.2.2, x.2.2.2.1, x.2.2.2.2.1, x.2.2.2.2.2, []) r h W0 w0 S hS)
        · rw [if_neg (ne_true hb)] at h
          refine H.regP (by kernel_rfl) ?_
          refine HO.goP 4 (by kernel_rfl) ?_
          obtain ⟨y12, hy, h⟩ := bindS h
          rcases y12 with y12 | y12
          · dsimp only at h
            refine HO.panFW hS 3 [] [(1, .cells [.int .u8 0, .int .u32 0, .bool false, .slice none 0 0, .slice none 0 0] 36 5), (2, .cells [.int .u8 x.2.2.2.1, .int .u32 x.2.2.2.2.1, .bool x.2.2.2.2.2, .slice none 0 0, .slice none 0 0] 36 5)] [0] [.keep, .keep] (take_ok (y7.1, y7.2.2.1, y7.2.2.2) (.error y12) hy W0) (by kernel_rfl) (by kernel_rfl) ?_
            refine Kblock_pan ?_
            refine Kseq_pan ?_
            obtain rfl := Option.some.inj h
            exact KEnd.ofPan (by kernel_rfl) (FEnd.pan hS [0] [] [] (by kernel_rfl))
          · dsimp only at h
            refine HO.callFW hS (ls 1 false (encI .u8) y12.1) 3 [] [(0, .cells [ls 1 false (encI .u8) y12.2.1, .int .i64 y12.2.2] 121 2), (1, .cells [.int .u8 0, .int .u32 0, .bool false, .slice none 0 0, .slice none 0 0] 36 5), (2, .cells [.int .u8 x.2.2.2.1, .int .u32 x.2.2.2.2.1, .bool x.2.2.2.2.2, .slice none 0 0, .slice none 0 0] 36 5)] [0] [.keep, .keep] (take_ok (y7.1, y7.2.2.1, y7.2.2.2) (.ok y12) hy W0) (by kernel_rfl) (by kernel_rfl) ?_
            obtain ⟨y13, hy, h⟩ := bindS h
            refine HO.callW hS [.list 1 false] (cloneB_ok y12.1 y13 hy W0) (by kernel_rfl) (by kernel_rfl) ?_
            obtain ⟨y14, hy, h⟩ := bindS h
            refine HO.callW hS [.list 1 false] (clip_ok y13 y14 hy W0) (by kernel_rfl) (by kernel_rfl) ?_
            refine HO.goP 2 (by kernel_rfl) ?_
            refine HO.done (by kernel_rfl) ?_
            refine Kblock_norm ?_
            refine Kseq_norm ?_
            refine H.tkc 1 36 5 4 5 [.int .u8 0, .int .u32 0, .bool false, .slice none 0 0, .slice none 0 0] (.slice none 0 0) #[] (by kernel_rfl) ?_
            refine H.tkc 2 36 5 4 5 [.int .u8 x.2.2.2.1, .int .u32 x.2.2.2.2.1, .bool x.2.2.2.2.2, ls 1 true (encI .u8) y14, .slice none 0 0] (.slice none 0 0) #[] (by kernel_rfl) ?_
            exact H.ren hS [0, 1, 2, 3, 4] _ _ _ (by kernel_rfl) (element_L6_ok (y12.2.1, y12.2.2, x.2.2.2.1, x.2.2.2.2.1, x.2.2.2.2.2, y14, []) r h W0 w0 S hS)
  · intro g_element g_element_L4 ih_element ih_element_L4 x r h
    intro W0 w0 S hS
    haveI := hS.noEx Tryd.prog
    refine HL.round ?_
    refine H.seqP (by kernel_rfl) ?_
    refine H.seqP (by kernel_rfl) ?_
    refine H.regP (by kernel_rfl) ?_
    refine HO.goP 1 (by kernel_rfl) ?_
    obtain ⟨y8, hy, h⟩ := bindS h
    rcases y8 with y8 | y8
    · dsimp only at h
      refine HO.panFW hS 5 [4, 3] [(1, .cells [.int .u8 0, .int .u32 0, .bool false, .slice none 0 0, tl 5 3 enc36 []] 36 5), (2, .cells [.int .u8 x.2.2.2.1, .int .u32 x.2.2.2.2.1, .bool x.2.2.2.2.2.1, .slice none 0 0, tl 5 4 enc36 x.2.2.2.2.2.2] 36 5)] [0] [.keep] (ahead_ok (x.2.1, x.2.2.1) (.error y8) hy W0) (by kernel_rfl) (by kernel_rfl) ?_
      refine Kseq_pan ?_
      refine Kseq_pan ?_
      refine Kloop_pan ?_
      refine Kblock_pan ?_
      refine Kblock_pan ?_
      refine Kseq_pan ?_
      obtain rfl := Option.some.inj h
      exact KEnd.ofPan (by kernel_rfl) (FEnd.pan hS [0] [] [] (by kernel_rfl))
    · dsimp only at h
      refine HO.callFW hS (.bool y8.1) 5 [4, 3] [(0, .cells [ls 1 false (encI .u8) y8.2.1, .int .i64 y8.2.2] 121 2), (1, .cells [.int .u8 0, .int .u32 0, .bool false, .slice none 0 0, tl 5 3 enc36 []] 36 5), (2, .cells [.int .u8 x.2.2.2.1, .int .u32 x.2.2.2.2.1, .bool x.2.2.2.2.2.1, .slice none 0 0, tl 5 4 enc36 x.2.2.2.2.2.2] 36 5)] [0] [.keep] (ahead_ok (x.2.1, x.2.2.1) (.ok y8) hy W0) (by kernel_rfl) (by kernel_rfl) ?_
      refine HO.done (by kernel_rfl) ?_
      refine Kseq_norm ?_
      refine H.condS (b := y8.1) (by kernel_rfl) (by kernel_rfl) (fun hb => ?_) (fun hb => ?_)
      · rw [if_pos hb] at h
        refine H.skipP (by kernel_rfl) ?_
        refine Kseq_norm ?_
        refine H.blockI 2 (by kernel_rfl) ?_
        refine H.drawQ ?_
        refine HQ.goP 5 (by kernel_rfl) ?_
        obtain ⟨y9, hy, h⟩ := bindS h
        rcases y9 with y9 | y9
        · dsimp only at h
          refine HQ.panFW hS [4] 5 [4, 3] [(1, .cells [.int .u8 0, .int .u32 0, .bool false, .slice none 0 0, tl 5 3 enc36 []] 36 5), (2, .cells [.int .u8 x.2.2.2.1, .int .u32 x.2.2.2.2.1, .bool x.2.2.2.2.2.1, .slice none 0 0, tl 5 4 enc36 x.2.2.2.2.2.2] 36 5)] [0] [.keep, .keep] (ih_element ((IntKind.i64.wrap (x.1 + 1)), y8.2.1, y8.2.2) (.error y9) hy W0) (by kernel_rfl) (by kernel_rfl) (by kernel_rfl) (by kernel_rfl) ?_
          refine Kblock_pan ?_
          refine Kloop_pan ?_
          refine Kblock_pan ?_
          refine Kblock_pan ?_
          refine Kseq_pan ?_
          obtain rfl := Option.some.inj h
          exact KEnd.ofPan (by kernel_rfl) (FEnd.pan hS [0] [] [] (by kernel_rfl))
        · dsimp only at h
          refine HQ.callFW hS (.agg #[.int .u8 y9.1, .int .u32 y9.2.1, .bool y9.2.2.1, ls 1 false (encI .u8) y9.2.2.2.1, ls 5 false enc36 y9.2.2.2.2.1]) 5 [4, 3] [(0, .cells [ls 1 false (encI .u8) y9.2.2.2.2.2.1, .int .i64 y9.2.2.2.2.2.2] 121 2), (1, .cells [.int .u8 0, .int .u32 0, .bool false, .slice none 0 0, tl 5 3 enc36 []] 36 5), (2, .cells [.int .u8 x.2.2.2.1, .int .u32 x.2.2.2.2.1, .bool x.2.2.2.2.2.1, .slice none 0 0, tl 5 4 enc36 x.2.2.2.2.2.2] 36 5)] [0] [.keep, .keep] (ih_element ((IntKind.i64.wrap (x.1 + 1)), y8.2.1, y8.2.2) (.ok y9) hy W0) (by kernel_rfl) (by kernel_rfl) ?_
          refine HQ.goP 1 (by kernel_rfl) ?_
          obtain ⟨y10, hy, h⟩ := bindS h
          refine HQ.effA (app1_aop (enc := enc36) (k := 5) true 1 [.int .u8 y9.1, .int .u32 y9.2.1, .bool y9.2.2.1, ls 1 false (encI .u8) y9.2.2.2.1, ls 5 false enc36 y9.2.2.2.2.1] [3] hy (by kernel_rfl) (by kernel_rfl) (by simp only [List.map_cons, List.map_nil, enc36_eq]; kernel_rfl)) ?_
          refine HQ.goP 2 (by kernel_rfl) ?_
          refine HQ.done (by kernel_rfl) (by kernel_rfl) (by kernel_rfl) ?_
          refine Kblock_norm ?_
          refine Kloop_norm ?_
          exact HL.ren hS [0, 1, 2, 3, 6] _ _ _ (by kernel_rfl) (ih_element_L4 (x.1, y9.2.2.2.2.2.1, y9.2.2.2.2.2.2, x.2.2.2.1, x.2.2.2.2.1, x.2.2.2.2.2.1, y10) r h W0 w0 S hS)
      · rw [if_neg (ne_true hb)] at h
        refine H.exitI 1 (by kernel_rfl) ?_
        refine Kseq_exit ?_
        refine Kloop_exit ?_
        refine Kblock_hit ?_
        refine Kblock_norm ?_
        refine Kseq_norm ?_
        refine H.wkc 2 36 5 3 [.int .u8 x.2.2.2.1, .int .u32 x.2.2.2.2.1, .bool x.2.2.2.2.2.1, .slice none 0 0, tl 5 4 enc36 x.2.2.2.2.2.2] (.slice none 0 0) (ls 1 true (encI .u8) []) (.list 1 true) (by kernel_rfl) ?_
        exact H.ren hS [0, 1, 2, 3, 4] _ _ _ (by kernel_rfl) (element_L6_ok (y8.2.1, y8.2.2, x.2.2.2.1, x.2.2.2.2.1, x.2.2.2.2.2.1, [], x.2.2.2.2.2.2) r h W0 w0 S hS)
theorem element_L5_ok : ∀ (x : Int × (List Int) × (List Int) × Int × Int × Int × Bool × (List S36)) (r : Except Int (Int × Int × Bool × (List Int) × (List S36) × (List Int) × Int)), element_L5 x = some r → ∀ (W0 w0 : World) (S : Own), Std W0 w0 S 1 → HL Tryd.prog w0 S 128 (cL (cL (cR (cL (cR (cR (cL (cR (cR (cR (cL (cL (cR (cR (cR (cR (cR (cR (cR (cR (cB Tryd.f59))))))))))))))))))))) (mkS [(0, .pointer (some ⟨0, 0, none⟩)), (1, .int .i64 x.1), (4, .pointer (some ⟨1, 0, none⟩)), (6, .pointer (some ⟨2, 0, none⟩)), (10, ls 1 false (encI .u8) x.2.1)] [(0, .cells [ls 1 false (encI .u8) x.2.2.1, .int .i64 x.2.2.2.1] 121 2), (1, .cells [.int .u8 0, .int .u32 0, .bool false, .slice none 0 0, tl 5 3 enc36 []] 36 5), (2, .cells [.int .u8 x.2.2.2.2.1, .int .u32 x.2.2.2.2.2.1, .bool x.2.2.2.2.2.2.1, .slice none 0 0, tl 5 4 enc36 x.2.2.2.2.2.2.2] 36 5)] 5 [4, 3]) (Kblock 3 (Kseq Tryd.prog w0 S 128 (cR (cR (cR (cL (cR (cR (cR (cL (cL (cR (cR (cR (cR (cR (cR (cR (cR (cB Tryd.f59)))))))))))))))))) (Kblock 0 (Kseq Tryd.prog w0 S 128 (cR (cR (cR (cR (cR (cR (cR (cR (cR (cB Tryd.f59)))))))))) (KEnd Tryd.prog Tryd.f59 (FEnd w0 S (match r with | .ok r => .returned (.agg #[.int .u8 r.1, .int .u32 r.2.1, .bool r.2.2.1, ls 1 false (encI .u8) r.2.2.2.1, ls 5 false enc36 r.2.2.2.2.1]) | .error e => panE (.iface 25 (.int .i64 e))) (match r with | .ok r => (mkW 1 [] [(0, .cells [ls 1 false (encI .u8) r.2.2.2.2.2.1, .int .i64 r.2.2.2.2.2.2] 121 2)]) | .error _ => (mkW 1 [] [])))))))) := element_L5_grp.1
theorem element_ok : ∀ (x : Int × (List Int) × Int) (r : Except Int (Int × Int × Bool × (List Int) × (List S36) × (List Int) × Int)), element x = some r → ∀ W0 : World, FTo Tryd.prog W0 59 #[.pointer (some ⟨0, 0, none⟩), .int .i64 x.1] (mkW 1 [] [(0, .cells [ls 1 false (encI .u8) x.2.1, .int .i64 x.2.2] 121 2)]) (match r with | .ok r => .returned (.agg #[.int .u8 r.1, .int .u32 r.2.1, .bool r.2.2.1, ls 1 false (encI .u8) r.2.2.2.1, ls 5 false enc36 r.2.2.2.2.1]) | .error e => panE (.iface 25 (.int .i64 e))) (match r with | .ok r => (mkW 1 [] [(0, .cells [ls 1 false (encI .u8) r.2.2.2.2.2.1, .int .i64 r.2.2.2.2.2.2] 121 2)]) | .error _ => (mkW 1 [] [])) := element_L5_grp.2.1
theorem element_L1_ok : ∀ (x : Int × (List Int) × Int) (r : Except Int (Int × Int × Bool × (List Int) × (List S36) × (List Int) × Int)), element_L1 x = some r → ∀ (W0 w0 : World) (S : Own), Std W0 w0 S 1 → H Tryd.prog w0 S 128 (cR (cR (cB Tryd.f59))) (mkS [(0, .pointer (some ⟨0, 0, none⟩)), (1, .int .i64 x.1), (4, .pointer (some ⟨1, 0, none⟩))] [(0, .cells [ls 1 false (encI .u8) x.2.1, .int .i64 x.2.2] 121 2), (1, .cells [.int .u8 0, .int .u32 0, .bool false, .slice none 0 0, .slice none 0 0] 36 5)] 2 []) (KEnd Tryd.prog Tryd.f59 (FEnd w0 S (match r with | .ok r => .returned (.agg #[.int .u8 r.1, .int .u32 r.2.1, .bool r.2.2.1, ls 1 false (encI .u8) r.2.2.2.1, ls 5 false enc36 r.2.2.2.2.1]) | .error e => panE (.iface 25 (.int .i64 e))) (match r with | .ok r => (mkW 1 [] [(0, .cells [ls 1 false (encI .u8) r.2.2.2.2.2.1, .int .i64 r.2.2.2.2.2.2] 121 2)]) | .error _ => (mkW 1 [] [])))) := element_L5_grp.2.2.1
theorem element_L2_ok : ∀ (x : Int × (List Int) × Int × Int × Int × Bool) (r : Except Int (Int × Int × Bool × (List Int) × (List S36) × (List Int) × Int)), element_L2 x = some r → ∀ (W0 w0 : World) (S : Own), Std W0 w0 S 1 → H Tryd.prog w0 S 128 (cR (cR (cR (cR (cR (cR (cB Tryd.f59))))))) (mkS [(0, .pointer (some ⟨0, 0, none⟩)), (1, .int .i64 x.1), (4, .pointer (some ⟨1, 0, none⟩)), (6, .pointer (some ⟨2, 0, none⟩))] [(0, .cells [ls 1 false (encI .u8) x.2.1, .int .i64 x.2.2.1] 121 2), (1, .cells [.int .u8 0, .int .u32 0, .bool false, .slice none 0 0, .slice none 0 0] 36 5), (2, .cells [.int .u8 x.2.2.2.1, .int .u32 x.2.2.2.2.1, .bool x.2.2.2.2.2, .slice none 0 0, .slice none 0 0] 36 5)] 3 []) (KEnd Tryd.prog Tryd.f59 (FEnd w0 S (match r with | .ok r => .returned (.agg #[.int .u8 r.1, .int .u32 r.2.1, .bool r.2.2.1, ls 1 false (encI .u8) r.2.2.2.1, ls 5 false enc36 r.2.2.2.2.1]) | .error e => panE (.iface 25 (.int .i64 e))) (match r with | .ok r => (mkW 1 [] [(0, .cells [ls 1 false (encI .u8) r.2.2.2.2.2.1, .int .i64 r.2.2.2.2.2.2] 121 2)]) | .error _ => (mkW 1 [] [])))) := element_L5_grp.2.2.2.1
theorem element_L3_ok : ∀ (x : Int × (List Int) × Int × Int × Int × Bool) (r : Except Int (Int × Int × Bool × (List Int) × (List S36) × (List Int) × Int)), element_L3 x = some r → ∀ (W0 w0 : World) (S : Own), Std W0 w0 S 1 → H Tryd.prog w0 S 128 (cR (cR (cR (cR (cR (cR (cR (cB Tryd.f59)))))))) (mkS [(0, .pointer (some ⟨0, 0, none⟩)), (1, .int .i64 x.1), (4, .pointer (some ⟨1, 0, none⟩)), (6, .pointer (some ⟨2, 0, none⟩))] [(0, .cells [ls 1 false (encI .u8) x.2.1, .int .i64 x.2.2.1] 121 2), (1, .cells [.int .u8 0, .int .u32 0, .bool false, .slice none 0 0, .slice none 0 0] 36 5), (2, .cells [.int .u8 x.2.2.2.1, .int .u32 x.2.2.2.2.1, .bool x.2.2.2.2.2, .slice none 0 0, .slice none 0 0] 36 5)] 3 []) (KEnd Tryd.prog Tryd.f59 (FEnd w0 S (match r with | .ok r => .returned (.agg #[.int .u8 r.1, .int .u32 r.2.1, .bool r.2.2.1, ls 1 false (encI .u8) r.2.2.2.1, ls 5 false enc36 r.2.2.2.2.1]) | .error e => panE (.iface 25 (.int .i64 e))) (match r with | .ok r => (mkW 1 [] [(0, .cells [ls 1 false (encI .u8) r.2.2.2.2.2.1, .int .i64 r.2.2.2.2.2.2] 121 2)]) | .error _ => (mkW 1 [] [])))) := element_L5_grp.2.2.2.2.1
theorem element_L4_ok : ∀ (x : Int × (List Int) × Int × Int × Int × Bool × (List S36)) (r : Except Int (Int × Int × Bool × (List Int) × (List S36) × (List Int) × Int)), element_L4 x = some r → ∀ (W0 w0 : World) (S : Own), Std W0 w0 S 1 → HL Tryd.prog w0 S 128 (cL (cL (cL (cR (cL (cL (cR (cR (cR (cR (cR (cR (cR (cR (cB Tryd.f59))))))))))))))) (mkS [(0, .pointer (some ⟨0, 0, none⟩)), (1, .int .i64 x.1), (4, .pointer (some ⟨1, 0, none⟩)), (6, .pointer (some ⟨2, 0, none⟩))] [(0, .cells [ls 1 false (encI .u8) x.2.1, .int .i64 x.2.2.1] 121 2), (1, .cells [.int .u8 0, .int .u32 0, .bool false, .slice none 0 0, tl 5 3 enc36 []] 36 5), (2, .cells [.int .u8 x.2.2.2.1, .int .u32 x.2.2.2.2.1, .bool x.2.2.2.2.2.1, .slice none 0 0, tl 5 4 enc36 x.2.2.2.2.2.2] 36 5)] 5 [4, 3]) (Kblock 1 (Kblock 0 (Kseq Tryd.prog w0 S 128 (cR (cR (cR (cR (cR (cR (cR (cR (cR (cB Tryd.f59)))))))))) (KEnd Tryd.prog Tryd.f59 (FEnd w0 S (match r with | .ok r => .returned (.agg #[.int .u8 r.1, .int .u32 r.2.1, .bool r.2.2.1, ls 1 false (encI .u8) r.2.2.2.1, ls 5 false enc36 r.2.2.2.2.1]) | .error e => panE (.iface 25 (.int .i64 e))) (match r with | .ok r => (mkW 1 [] [(0, .cells [ls 1 false (encI .u8) r.2.2.2.2.2.1, .int .i64 r.2.2.2.2.2.2] 121 2)]) | .error _ => (mkW 1 [] []))))))) := element_L5_grp.2.2.2.2.2
def first (x : (List Int)) : Option (Int × Int × Bool × (List Int) × (List S36) × Int × Int) :=
  if 65536 < (x.length : Int) then
    some (0, 0, false, [], [], 0, 3)
  else
    (element (1, x, 0)) >>= fun y1 =>
    match y1 with
    | .error y1 =>
      some (0, 0, false, [], [], 0, y1)
    | .ok y1 =>
      some (y1.1, y1.2.1, y1.2.2.1, y1.2.2.2.1, y1.2.2.2.2.1, (IntKind.i64.wrap ((x.length : Int) - (y1.2.2.2.2.2.1.length : Int))), 0)
theorem first_ok : ∀ (x : (List Int)) (r : Int × Int × Bool × (List Int) × (List S36) × Int × Int), first x = some r → ∀ W0 : World, PTo Tryd.prog W0 23 #[ls 1 false (encI .u8) x] (.returned (.tuple #[.agg #[.int .u8 r.1, .int .u32 r.2.1, .bool r.2.2.1, ls 1 false (encI .u8) r.2.2.2.1, ls 5 false enc36 r.2.2.2.2.1], .int .i64 r.2.2.2.2.2.1, .int .i64 r.2.2.2.2.2.2])) := by
  intro x r h
  unfold first at h
  intro W0
  refine PTo.of_body (fn := Tryd.f23) (code := cB Tryd.f23) Tryd.func23 rfl rfl ?_
  intro w0 S hS
  haveI := hS.noEx Tryd.prog
  refine H.seqP (by kernel_rfl) ?_
  refine H.regP (by kernel_rfl) ?_
  refine HO.goP 3 (by kernel_rfl) ?_
  refine HO.done (by kernel_rfl) ?_
  refine Kseq_norm ?_
  refine H.seqP (by kernel_rfl) ?_
  refine H.seqP (by kernel_rfl) ?_
  refine H.regP (by kernel_rfl) ?_
  refine HO.goP 1 (by kernel_rfl) ?_
  refine HO.len (by kernel_rfl) (by kernel_rfl) (ls_size (encI .u8) x) ?_
  refine HO.goP 1 (by kernel_rfl) ?_
  refine HO.done (by kernel_rfl) ?_
  refine Kseq_norm ?_
  refine H.condS (b := decide (65536 < (x.length : Int))) (by kernel_rfl) (by kernel_rfl) (fun hb => ?_) (fun hb => ?_)
  · rw [if_pos (of_decide_eq_true hb)] at h
    refine H.seqP (by kernel_rfl) ?_
    refine H.regP (by kernel_rfl) ?_
    refine HO.goP 4 (by kernel_rfl) ?_
    refine HO.done (by kernel_rfl) ?_
    refine Kseq_norm ?_
    refine H.retP (by kernel_rfl) ?_
    refine Kseq_ret ?_
    obtain rfl := Option.some.inj h
    exact KEnd.retW (v := .tuple #[.agg #[.int .u8 0, .int .u32 0, .bool false, .slice none 0 0, .slice none 0 0], .int .i64 0, .int .i64 3]) (.tuple [.agg [.keep, .keep, .keep, .list 1 false, .list 5 false], .keep, .keep]) (by kernel_rfl) (by kernel_rfl) (by kernel_rfl) (by kernel_rfl)
  · rw [if_neg (of_decide_eq_false hb)] at h
    refine H.skipP (by kernel_rfl) ?_
    refine Kseq_norm ?_
    refine H.seqP (by kernel_rfl) ?_
    refine H.regP (by kernel_rfl) ?_
    refine HO.goP 2 (by kernel_rfl) ?_
    refine HO.done (by kernel_rfl) ?_
    refine Kseq_norm ?_
    refine H.seqP (by kernel_rfl) ?_
    refine H.regP (by kernel_rfl) ?_
    refine HO.goP 5 (by kernel_rfl) ?_
    refine HO.done (by kernel_rfl) ?_
    refine Kseq_norm ?_
    refine H.seqP (by kernel_rfl) ?_
    refine H.regP (by kernel_rfl) ?_
    refine HO.goP 1 (by kernel_rfl) ?_
    obtain ⟨y1, hy, h⟩ := bindS h
    rcases y1 with y1 | y1
    · dsimp only at h
      refine HO.panFW hS 4 [] [(0, .cells [.int .u8 0, .int .u32 0, .bool false, .slice none 0 0, .slice none 0 0] 36 5), (1, .cells [.int .i64 0] 3 1), (2, .cells [.int .i64 0] 25 1)] [3] [.keep, .keep] (element_ok (1, x, 0) (.error y1) hy W0) (by kernel_rfl) (by kernel_rfl) ?_
      refine Kseq_pan ?_
      obtain rfl := Option.some.inj h
      exact KEnd.genP (e := .returned (.tuple #[.agg #[.int .u8 0, .int .u32 0, .bool false, .slice none 0 0, .slice none 0 0], .int .i64 0, .int .i64 y1])) (by kernel_rfl) (PEnd.wk (v1 := .tuple #[.agg #[.int .u8 0, .int .u32 0, .bool false, ls 1 false (encI .u8) [], ls 5 false enc36 []], .int .i64 0, .int .i64 y1]) (.tuple [.agg [.keep, .keep, .keep, .list 1 false, .list 5 false], .keep, .keep]) (by kernel_rfl) (PEnd.fin (by kernel_rfl)))
    · dsimp only at h
      refine HO.callFW hS (.agg #[.int .u8 y1.1, .int .u32 y1.2.1, .bool y1.2.2.1, ls 1 false (encI .u8) y1.2.2.2.1, ls 5 false enc36 y1.2.2.2.2.1]) 4 [] [(0, .cells [.int .u8 0, .int .u32 0, .bool false, .slice none 0 0, .slice none 0 0] 36 5), (1, .cells [.int .i64 0] 3 1), (2, .cells [.int .i64 0] 25 1), (3, .cells [ls 1 false (encI .u8) y1.2.2.2.2.2.1, .int .i64 y1.2.2.2.2.2.2] 121 2)] [3] [.keep, .keep] (element_ok (1, x, 0) (.ok y1) hy W0) (by kernel_rfl) (by kernel_rfl) ?_
      refine HO.goP 1 (by kernel_rfl) ?_
      refine HO.done (by kernel_rfl) ?_
      refine Kseq_norm ?_
      refine H.seqP (by kernel_rfl) ?_
      refine H.drawQ ?_
      refine HQ.goP 2 (by kernel_rfl) ?_
      refine HQ.len (by kernel_rfl) (ls_size (encI .u8) x) ?_
      refine HQ.goP 5 (by kernel_rfl) ?_
      refine HQ.len (by kernel_rfl) (ls_size (encI .u8) y1.2.2.2.2.2.1) ?_
      refine HQ.goP 4 (by kernel_rfl) ?_
      refine HQ.done (by kernel_rfl) (by kernel_rfl) (by kernel_rfl) ?_
      refine Kseq_norm ?_
      refine H.retP (by kernel_rfl) ?_
      obtain rfl := Option.some.inj h
      exact KEnd.genR (by kernel_rfl) (e := .returned (.tuple #[.agg #[.int .u8 y1.1, .int .u32 y1.2.1, .bool y1.2.2.1, ls 1 false (encI .u8) y1.2.2.2.1, ls 5 false enc36 y1.2.2.2.2.1], .int .i64 (IntKind.i64.wrap ((x.length : Int) - (y1.2.2.2.2.2.1.length : Int))), .int .i64 0])) (by kernel_rfl) (PEnd.wk (v1 := .tuple #[.agg #[.int .u8 y1.1, .int .u32 y1.2.1, .bool y1.2.2.1, ls 1 false (encI .u8) y1.2.2.2.1, ls 5 false enc36 y1.2.2.2.2.1], .int .i64 (IntKind.i64.wrap ((x.length : Int) - (y1.2.2.2.2.2.1.length : Int))), .int .i64 0]) (.tuple [.agg [.keep, .keep, .keep, .list 1 false, .list 5 false], .keep, .keep]) (by kernel_rfl) (PEnd.fin (by kernel_rfl)))
def decode (x : (List Int)) : Option (Int × Int × Bool × (List Int) × (List S36) × Int) :=
  (first x) >>= fun y1 =>
  if (!decide (y1.2.2.2.2.2.2 = 0)) = true then
    some (0, 0, false, [], [], y1.2.2.2.2.2.2)
  else
    if y1.2.2.2.2.2.1 < (x.length : Int) then
      some (0, 0, false, [], [], 4)
    else
      some (y1.1, y1.2.1, y1.2.2.1, y1.2.2.2.1, y1.2.2.2.2.1, 0)
theorem decode_ok : ∀ (x : (List Int)) (r : Int × Int × Bool × (List Int) × (List S36) × Int), decode x = some r → ∀ W0 : World, PTo Tryd.prog W0 24 #[ls 1 false (encI .u8) x] (.returned (.tuple #[.agg #[.int .u8 r.1, .int .u32 r.2.1, .bool r.2.2.1, ls 1 false (encI .u8) r.2.2.2.1, ls 5 false enc36 r.2.2.2.2.1], .int .i64 r.2.2.2.2.2])) := by
  intro x r h
  unfold decode at h
  intro W0
  refine PTo.of_body (fn := Tryd.f24) (code := cB Tryd.f24) Tryd.func24 rfl rfl ?_
  intro w0 S hS
  haveI := hS.noEx Tryd.prog
  refine H.seqP (by kernel_rfl) ?_
  refine H.regP (by kernel_rfl) ?_
  refine HO.goP 2 (by kernel_rfl) ?_
  refine HO.done (by kernel_rfl) ?_
  refine Kseq_norm ?_
  refine H.seqP (by kernel_rfl) ?_
  refine H.regP (by kernel_rfl) ?_
  refine HO.goP 1 (by kernel_rfl) ?_
  obtain ⟨y1, hy, h⟩ := bindS h
  refine HO.callW hS [.list 1 false] (first_ok x y1 hy W0) (by kernel_rfl) (by kernel_rfl) ?_
  refine HO.goP 8 (by kernel_rfl) ?_
  refine HO.done (by kernel_rfl) ?_
  refine Kseq_norm ?_
  refine H.seqP (by kernel_rfl) ?_
  refine H.blockI 0 (by kernel_rfl) ?_
  refine H.seqP (by kernel_rfl) ?_
  refine H.regP (by kernel_rfl) ?_
  refine HO.goP 3 (by kernel_rfl) ?_
  refine HO.done (by kernel_rfl) ?_
  refine Kseq_norm ?_
  refine H.condS (b := !decide (y1.2.2.2.2.2.2 = 0)) (by kernel_rfl) (by kernel_rfl) (fun hb => ?_) (fun hb => ?_)
  · rw [if_pos hb] at h
    refine H.seqP (by kernel_rfl) ?_
    refine H.regP (by kernel_rfl) ?_
    refine HO.goP 4 (by kernel_rfl) ?_
    refine HO.done (by kernel_rfl) ?_
    refine Kseq_norm ?_
    refine H.retP (by kernel_rfl) ?_
    refine Kblock_ret ?_
    refine Kseq_ret ?_
    obtain rfl := Option.some.inj h
    exact KEnd.retW (v := .tuple #[.agg #[.int .u8 0, .int .u32 0, .bool false, .slice none 0 0, .slice none 0 0], .int .i64 y1.2.2.2.2.2.2]) (.tuple [.agg [.keep, .keep, .keep, .list 1 false, .list 5 false], .keep]) (by kernel_rfl) (by kernel_rfl) (by kernel_rfl) (by kernel_rfl)
  · rw [if_neg (ne_true hb)] at h
    refine H.seqP (by kernel_rfl) ?_
    refine H.regP (by kernel_rfl) ?_
    refine HO.goP 2 (by kernel_rfl) ?_
    refine HO.len (by kernel_rfl) (by kernel_rfl) (ls_size (encI .u8) x) ?_
    refine HO.goP 2 (by kernel_rfl) ?_
    refine HO.done (by kernel_rfl) ?_
    refine Kseq_norm ?_
    refine H.condS (b := decide (y1.2.2.2.2.2.1 < (x.length : Int))) (by kernel_rfl) (by kernel_rfl) (fun hb => ?_) (fun hb => ?_)
    · rw [if_pos (of_decide_eq_true hb)] at h
      refine H.seqP (by kernel_rfl) ?_
      refine H.regP (by kernel_rfl) ?_
      refine HO.goP 3 (by kernel_rfl) ?_
      refine HO.done (by kernel_rfl) ?_
      refine Kseq_norm ?_
      refine H.retP (by kernel_rfl) ?_
      refine Kblock_ret ?_
      refine Kseq_ret ?_
      obtain rfl := Option.some.inj h
      exact KEnd.retW (v := .tuple #[.agg #[.int .u8 0, .int .u32 0, .bool false, .slice none 0 0, .slice none 0 0], .int .i64 4]) (.tuple [.agg [.keep, .keep, .keep, .list 1 false, .list 5 false], .keep]) (by kernel_rfl) (by kernel_rfl) (by kernel_rfl) (by kernel_rfl)
    · rw [if_neg (of_decide_eq_false hb)] at h
      refine H.skipP (by kernel_rfl) ?_
      refine Kblock_norm ?_
      refine Kseq_norm ?_
      refine H.seqP (by kernel_rfl) ?_
      refine H.regP (by kernel_rfl) ?_
      refine HO.goP 3 (by kernel_rfl) ?_
      refine HO.done (by kernel_rfl) ?_
      refine Kseq_norm ?_
      refine H.retP (by kernel_rfl) ?_
      obtain rfl := Option.some.inj h
      exact KEnd.retW (v := .tuple #[.agg #[.int .u8 y1.1, .int .u32 y1.2.1, .bool y1.2.2.1, ls 1 false (encI .u8) y1.2.2.2.1, ls 5 false enc36 y1.2.2.2.2.1], .int .i64 0]) (.tuple [.agg [.keep, .keep, .keep, .list 1 false, .list 5 false], .keep]) (by kernel_rfl) (by kernel_rfl) (by kernel_rfl) (by kernel_rfl)
def bytesEqual (x : (List Int) × (List Int)) : Option (Bool) :=
  some (strEq (bytesU x.1) (bytesU x.2))
theorem bytesEqual_ok : ∀ (x : (List Int) × (List Int)) (r : Bool), bytesEqual x = some r → ∀ W0 : World, PTo Tryd.prog W0 60 #[ls 1 false (encI .u8) x.1, ls 1 false (encI .u8) x.2] (.returned (.bool r)) := by
  intro x r h
  unfold bytesEqual at h
  intro W0
  refine PTo.of_body (fn := Tryd.f60) (code := cB Tryd.f60) Tryd.func60 rfl rfl ?_
  intro w0 S hS
  haveI := hS.noEx Tryd.prog
  refine H.seqP (by kernel_rfl) ?_
  refine H.regP (by kernel_rfl) ?_
  refine HO.goP 1 (by kernel_rfl) ?_
  refine HO.done (by kernel_rfl) ?_
  refine Kseq_norm ?_
  refine H.seqP (by kernel_rfl) ?_
  refine H.regP (by kernel_rfl) ?_
  refine HO.goP 1 (by kernel_rfl) ?_
  refine HO.valA (str_aop x.1 (by kernel_rfl)) ?_
  refine HO.goP 1 (by kernel_rfl) ?_
  refine HO.valA (str_aop x.2 (by kernel_rfl)) ?_
  refine HO.goP 2 (by kernel_rfl) ?_
  refine HO.done (by kernel_rfl) ?_
  refine Kseq_norm ?_
  refine H.retP (by kernel_rfl) ?_
  obtain rfl := Option.some.inj h
  exact KEnd.ret (by kernel_rfl) (by kernel_rfl) (by kernel_rfl)
def sameI_L1 (x : Bool) : Option (Bool) :=
  some x
theorem sameI_L1_ok : ∀ (x : Bool) (r : Bool), sameI_L1 x = some r → ∀ (W0 w0 : World) (S : Own), Std W0 w0 S 0 → H Tryd.prog w0 S 38 (cR (cR (cB Tryd.f52))) (mkS [(4, .bool x)] [] 0 []) (KEnd Tryd.prog Tryd.f52 (PEnd w0 S (.returned (.bool r)))) := by
  intro x r h
  unfold sameI_L1 at h
  intro W0 w0 S hS
  haveI := hS.noEx Tryd.prog
  refine H.retP (by kernel_rfl) ?_
  obtain rfl := Option.some.inj h
  exact KEnd.ret (by kernel_rfl) (by kernel_rfl) (by kernel_rfl)
mutual
def sameI (x : Int × Int × Bool × (List Int) × (List S36) × Int × Int × Bool × (List Int) × (List S36)) : Option (Bool) :=
  if x.1 = x.2.2.2.2.2.1 then
    if x.2.1 = x.2.2.2.2.2.2.1 then
      if (x.2.2.1 == x.2.2.2.2.2.2.2.1) = true then
        (bytesEqual (x.2.2.2.1, x.2.2.2.2.2.2.2.2.1)) >>= fun y1 =>
        if y1 = true then
          (equalFunc (x.2.2.2.2.1, x.2.2.2.2.2.2.2.2.2)) >>= fun y2 =>
          sameI_L1 y2
        else
          sameI_L1 false
      else
        sameI_L1 false
    else
      sameI_L1 false
  else
    sameI_L1 false
partial_fixpoint
def equalFunc (x : (List S36) × (List S36)) : Option (Bool) :=
  if (!decide ((x.1.length : Int) = (x.2.length : Int))) = true then
    some false
  else
    equalFunc_L1 (x.2, x.1, (x.1.length : Int), 0)
partial_fixpoint
def equalFunc_L1 (x : (List S36) × (List S36) × Int × Int) : Option (Bool) :=
  if x.2.2.2 < x.2.2.1 then
    (at' x.2.1 x.2.2.2) >>= fun y1 =>
    (at' x.1 x.2.2.2) >>= fun y2 =>
    (sameI (y1.c0, y1.c1, y1.c2, y1.c3, y1.c4, y2.c0, y2.c1, y2.c2, y2.c3, y2.c4)) >>= fun y3 =>
    if (!y3) = true then
      some false
    else
      equalFunc_L1 (x.1, x.2.1, x.2.2.1, (IntKind.i64.wrap (x.2.2.2 + 1)))
  else
    some true
partial_fixpoint
end
theorem sameI_grp : (∀ (x : Int × Int × Bool × (List Int) × (List S36) × Int × Int × Bool × (List Int) × (List S36)) (r : Bool), sameI x = some r → ∀ W0 : World, PTo Tryd.prog W0 52 #[.agg #[.int .u8 x.1, .int .u32 x.2.1, .bool x.2.2.1, ls 1 false (encI .u8) x.2.2.2.1, ls 5 false enc36 x.2.2.2.2.1], .agg #[.int .u8 x.2.2.2.2.2.1, .int .u32 x.2.2.2.2.2.2.1, .bool x.2.2.2.2.2.2.2.1, ls 1 false (encI .u8) x.2.2.2.2.2.2.2.2.1, ls 5 false enc36 x.2.2.2.2.2.2.2.2.2]] (.returned (.bool r))) ∧
  (∀ (x : (List S36) × (List S36)) (r : Bool), equalFunc x = some r → ∀ W0 : World, PTo Tryd.prog W0 76 #[ls 5 false enc36 x.1, ls 5 false enc36 x.2, .func (.func 52) #[] #[]] (.returned (.bool r))) ∧
  (∀ (x : (List S36) × (List S36) × Int × Int) (r : Bool), equalFunc_L1 x = some r → ∀ (W0 w0 : World) (S : Own), Std W0 w0 S 0 → HL Tryd.prog w0 S 32 (cL (cL (cR (cL (cR (cR (cB Tryd.f76))))))) (mkS [(1, ls 5 false enc36 x.1), (2, .func (.func 52) #[] #[]), (15, ls 5 false enc36 x.2.1), (16, .int .i64 x.2.2.1), (17, .int .i64 x.2.2.2)] [] 0 []) (Kblock 0 (Kseq Tryd.prog w0 S 32 (cR (cR (cR (cB Tryd.f76)))) (KEnd Tryd.prog Tryd.f76 (PEnd w0 S (.returned (.bool r))))))) := by
  refine sameI.mutual_partial_correctness (fun (x : Int × Int × Bool × (List Int) × (List S36) × Int × Int × Bool × (List Int) × (List S36)) (r : Bool) => ∀ W0 : World, PTo Tryd.prog W0 52 #[.agg #[.int .u8 x.1, .int .u32 x.2.1, .bool x.2.2.1, ls 1 false (encI .u8) x.2.2.2.1, ls 5 false enc36 x.2.2.2.2.1], .agg #[.int .u8 x.2.2.2.2.2.1, .int .u32 x.2.2.2.2.2.2.1, .bool x.2.2.2.2.2.2.2.1, ls 1 false (encI .u8) x.2.2.2.2.2.2.2.2.1, ls 5 false enc36 x.2.2.2.2.2.2.2.2.2]] (.returned (.bool r))) (fun (x : (List S36) × (List S36)) (r : Bool) => ∀ W0 : World, PTo Tryd.prog W0 76 #[ls 5 false enc36 x.1, ls 5 false enc36 x.2, .func (.func 52) #[] #[]] (.returned (.bool r))) (fun (x : (List S36) × (List S36) × Int × Int) (r : Bool) => ∀ (W0 w0 : World) (S : Own), Std W0 w0 S 0 → HL Tryd.prog w0 S 32 (cL (cL (cR (cL (cR (cR (cB Tryd.f76))))))) (mkS [(1, ls 5 false enc36 x.1), (2, .func (.func 52) #[] #[]), (15, ls 5 false enc36 x.2.1), (16, .int .i64 x.2.2.1), (17, .int .i64 x.2.2.2)] [] 0 []) (Kblock 0 (Kseq Tryd.prog w0 S 32 (cR (cR (cR (cB Tryd.f76)))) (KEnd Tryd.prog Tryd.f76 (PEnd w0 S (.returned (.bool r))))))) ?_ ?_ ?_
  · intro g_equalFunc ih_equalFunc x r h
    intro W0
    refine PTo.of_body (fn := Tryd.f52) (code := cB Tryd.f52) Tryd.func52 rfl rfl ?_
    intro w0 S hS
    haveI := hS.noEx Tryd.prog
    refine H.seqP (by kernel_rfl) ?_
    refine H.regP (by kernel_rfl) ?_
    refine HO.goP 3 (by kernel_rfl) ?_
    refine HO.done (by kernel_rfl) ?_
    refine Kseq_norm ?_
    refine H.seqP (by kernel_rfl) ?_
    refine H.regP (by kernel_rfl) ?_
    refine HO.goP 5 (by kernel_rfl) ?_
    refine HO.boolP (decide (x.1 = x.2.2.2.2.2.1)) (by kernel_rfl) (by kernel_rfl) (fun hb => ?_) (fun hb => ?_)
    · rw [if_pos (of_decide_eq_true hb)] at h
      refine HO.goP 6 (by kernel_rfl) ?_
      refine HO.boolP (decide (x.2.1 = x.2.2.2.2.2.2.1)) (by kernel_rfl) (by kernel_rfl) (fun hb => ?_) (fun hb => ?_)
      · rw [if_pos (of_decide_eq_true hb)] at h
        refine HO.goP 6 (by kernel_rfl) ?_
        refine HO.boolP (x.2.2.1 == x.2.2.2.2.2.2.2.1) (by kernel_rfl) (by kernel_rfl) (fun hb => ?_) (fun hb => ?_)
        · rw [if_pos hb] at h
          refine HO.goP 4 (by kernel_rfl) ?_
          obtain ⟨y1, hy, h⟩ := bindS h
          refine HO.callW hS [.list 1 false, .list 1 false] (bytesEqual_ok (x.2.2.2.1, x.2.2.2.2.2.2.2.2.1) y1 hy W0) (by kernel_rfl) (by kernel_rfl) ?_
          refine HO.goP 1 (by kernel_rfl) ?_
          refine HO.boolP y1 (by kernel_rfl) (by kernel_rfl) (fun hb => ?_) (fun hb => ?_)
          · rw [if_pos hb] at h
            refine HO.goP 4 (by kernel_rfl) ?_
            obtain ⟨y2, hy, h⟩ := bindS h
            refine HO.callW hS [.list 5 false, .list 5 false, .keep] (ih_equalFunc (x.2.2.2.2.1, x.2.2.2.2.2.2.2.2.2) y2 hy W0) (by kernel_rfl) (by kernel_rfl) ?_
            refine HO.goP 2 (by kernel_rfl) ?_
            refine HO.done (by kernel_rfl) ?_
            refine Kseq_norm ?_
            exact H.ren hS [] _ _ _ (by kernel_rfl) (sameI_L1_ok y2 r h W0 w0 S hS)
          · rw [if_neg (ne_true hb)] at h
            refine HO.goP 7 (by kernel_rfl) ?_
            refine HO.done (by kernel_rfl) ?_
            refine Kseq_norm ?_
            exact H.ren hS [] _ _ _ (by kernel_rfl) (sameI_L1_ok false r h W0 w0 S hS)
        · rw [if_neg (ne_true hb)] at h
          refine HO.goP 14 (by kernel_rfl) ?_
          refine HO.done (by kernel_rfl) ?_
          refine Kseq_norm ?_
          exact H.ren hS [] _ _ _ (by kernel_rfl) (sameI_L1_ok false r h W0 w0 S hS)
      · rw [if_neg (of_decide_eq_false hb)] at h
        refine HO.goP 21 (by kernel_rfl) ?_
        refine HO.done (by kernel_rfl) ?_
        refine Kseq_norm ?_
        exact H.ren hS [] _ _ _ (by kernel_rfl) (sameI_L1_ok false r h W0 w0 S hS)
    · rw [if_neg (of_decide_eq_false hb)] at h
      refine HO.goP 28 (by kernel_rfl) ?_
      refine HO.done (by kernel_rfl) ?_
      refine Kseq_norm ?_
      exact H.ren hS [] _ _ _ (by kernel_rfl) (sameI_L1_ok false r h W0 w0 S hS)
  · intro g_equalFunc_L1 ih_equalFunc_L1 x r h
    intro W0
    refine PTo.of_body (fn := Tryd.f76) (code := cB Tryd.f76) Tryd.func76 rfl rfl ?_
    intro w0 S hS
    haveI := hS.noEx Tryd.prog
    refine H.seqP (by kernel_rfl) ?_
    refine H.regP (by kernel_rfl) ?_
    refine HO.goP 1 (by kernel_rfl) ?_
    refine HO.done (by kernel_rfl) ?_
    refine Kseq_norm ?_
    refine H.seqP (by kernel_rfl) ?_
    refine H.seqP (by kernel_rfl) ?_
    refine H.regP (by kernel_rfl) ?_
    refine HO.goP 1 (by kernel_rfl) ?_
    refine HO.len (by kernel_rfl) (by kernel_rfl) (ls_size enc36 x.1) ?_
    refine HO.goP 1 (by kernel_rfl) ?_
    refine HO.len (by kernel_rfl) (by kernel_rfl) (ls_size enc36 x.2) ?_
    refine HO.goP 1 (by kernel_rfl) ?_
    refine HO.done (by kernel_rfl) ?_
    refine Kseq_norm ?_
    refine H.condS (b := !decide ((x.1.length : Int) = (x.2.length : Int))) (by kernel_rfl) (by kernel_rfl) (fun hb => ?_) (fun hb => ?_)
    · rw [if_pos hb] at h
      refine H.seqP (by kernel_rfl) ?_
      refine H.regP (by kernel_rfl) ?_
      refine HO.goP 1 (by kernel_rfl) ?_
      refine HO.done (by kernel_rfl) ?_
      refine Kseq_norm ?_
      refine H.retP (by kernel_rfl) ?_
      refine Kseq_ret ?_
      obtain rfl := Option.some.inj h
      exact KEnd.ret (by kernel_rfl) (by kernel_rfl) (by kernel_rfl)
    · rw [if_neg (ne_true hb)] at h
      refine H.skipP (by kernel_rfl) ?_
      refine Kseq_norm ?_
      refine H.seqP (by kernel_rfl) ?_
      refine H.seqP (by kernel_rfl) ?_
      refine H.regP (by kernel_rfl) ?_
      refine HO.goP 1 (by kernel_rfl) ?_
      refine HO.len (by kernel_rfl) (by kernel_rfl) (ls_size enc36 x.1) ?_
      refine HO.goP 1 (by kernel_rfl) ?_
      refine HO.done (by kernel_rfl) ?_
      refine Kseq_norm ?_
      refine H.blockI 0 (by kernel_rfl) ?_
      refine H.loopP (by kernel_rfl) ?_
      exact HL.ren hS [] _ _ _ (by kernel_rfl) (ih_equalFunc_L1 (x.2, x.1, (x.1.length : Int), 0) r h W0 w0 S hS)
  · intro g_sameI g_equalFunc_L1 ih_sameI ih_equalFunc_L1 x r h
    intro W0 w0 S hS
    haveI := hS.noEx Tryd.prog
    refine HL.round ?_
    refine H.seqP (by kernel_rfl) ?_
    refine H.regP (by kernel_rfl) ?_
    refine HO.goP 1 (by kernel_rfl) ?_
    refine HO.done (by kernel_rfl) ?_
    refine Kseq_norm ?_
    refine H.seqP (by kernel_rfl) ?_
    refine H.condS (b := decide (x.2.2.2 < x.2.2.1)) (by kernel_rfl) (by kernel_rfl) (fun hb => ?_) (fun hb => ?_)
    · rw [if_pos (of_decide_eq_true hb)] at h
      refine H.skipP (by kernel_rfl) ?_
      refine Kseq_norm ?_
      refine H.seqP (by kernel_rfl) ?_
      refine H.blockI 1 (by kernel_rfl) ?_
      refine H.seqP (by kernel_rfl) ?_
      refine H.regP (by kernel_rfl) ?_
      refine HO.goP 1 (by kernel_rfl) ?_
      obtain ⟨y1, hy, h⟩ := bindS h
      refine HO.idx (.agg #[.int .u8 y1.c0, .int .u32 y1.c1, .bool y1.c2, ls 1 false (encI .u8) y1.c3, ls 5 false enc36 y1.c4]) hy (enc36_eq y1) (by kernel_rfl) ?_
      refine HO.goP 4 (by kernel_rfl) ?_
      refine HO.done (by kernel_rfl) ?_
      refine Kseq_norm ?_
      refine H.seqP (by kernel_rfl) ?_
      refine H.regP (by kernel_rfl) ?_
      refine HO.goP 2 (by kernel_rfl) ?_
      obtain ⟨y2, hy, h⟩ := bindS h
      refine HO.idx (.agg #[.int .u8 y2.c0, .int .u32 y2.c1, .bool y2.c2, ls 1 false (encI .u8) y2.c3, ls 5 false enc36 y2.c4]) hy (enc36_eq y2) (by kernel_rfl) ?_
      refine HO.goP 3 (by kernel_rfl) ?_
      refine HO.done (by kernel_rfl) ?_
      refine Kseq_norm ?_
      refine H.seqP (by kernel_rfl) ?_
      refine H.regP (by kernel_rfl) ?_
      refine HO.goP 3 (by kernel_rfl) ?_
      obtain ⟨y3, hy, h⟩ := bindS h
      refine HO.callW hS [.agg [.keep, .keep, .keep, .list 1 false, .list 5 false], .agg [.keep, .keep, .keep, .list 1 false, .list 5 false]] (ih_sameI (y1.c0, y1.c1, y1.c2, y1.c3, y1.c4, y2.c0, y2.c1, y2.c2, y2.c3, y2.c4) y3 hy W0) (by kernel_rfl) (by kernel_rfl) ?_
      refine HO.goP 1 (by kernel_rfl) ?_
      refine HO.done (by kernel_rfl) ?_
      refine Kseq_norm ?_
      refine H.condS (b := !y3) (by kernel_rfl) (by kernel_rfl) (fun hb => ?_) (fun hb => ?_)
      · rw [if_pos hb] at h
        refine H.seqP (by kernel_rfl) ?_
        refine H.regP (by kernel_rfl) ?_
        refine HO.goP 1 (by kernel_rfl) ?_
        refine HO.done (by kernel_rfl) ?_
        refine Kseq_norm ?_
        refine H.retP (by kernel_rfl) ?_
        refine Kblock_ret ?_
        refine Kseq_ret ?_
        refine Kloop_ret ?_
        refine Kblock_ret ?_
        refine Kseq_ret ?_
        obtain rfl := Option.some.inj h
        exact KEnd.ret (by kernel_rfl) (by kernel_rfl) (by kernel_rfl)
      · rw [if_neg (ne_true hb)] at h
        refine H.skipP (by kernel_rfl) ?_
        refine Kblock_norm ?_
        refine Kseq_norm ?_
        refine H.regP (by kernel_rfl) ?_
        refine HO.goP 2 (by kernel_rfl) ?_
        refine HO.done (by kernel_rfl) ?_
        refine Kloop_norm ?_
        exact HL.ren hS [] _ _ _ (by kernel_rfl) (ih_equalFunc_L1 (x.1, x.2.1, x.2.2.1, (IntKind.i64.wrap (x.2.2.2 + 1))) r h W0 w0 S hS)
    · rw [if_neg (of_decide_eq_false hb)] at h
      refine H.exitI 0 (by kernel_rfl) ?_
      refine Kseq_exit ?_
      refine Kloop_exit ?_
      refine Kblock_hit ?_
      refine Kseq_norm ?_
      refine H.seqP (by kernel_rfl) ?_
      refine H.regP (by kernel_rfl) ?_
      refine HO.goP 1 (by kernel_rfl) ?_
      refine HO.done (by kernel_rfl) ?_
      refine Kseq_norm ?_
      refine H.retP (by kernel_rfl) ?_
      obtain rfl := Option.some.inj h
      exact KEnd.ret (by kernel_rfl) (by kernel_rfl) (by kernel_rfl)
theorem sameI_ok : ∀ (x : Int × Int × Bool × (List Int) × (List S36) × Int × Int × Bool × (List Int) × (List S36)) (r : Bool), sameI x = some r → ∀ W0 : World, PTo Tryd.prog W0 52 #[.agg #[.int .u8 x.1, .int .u32 x.2.1, .bool x.2.2.1, ls 1 false (encI .u8) x.2.2.2.1, ls 5 false enc36 x.2.2.2.2.1], .agg #[.int .u8 x.2.2.2.2.2.1, .int .u32 x.2.2.2.2.2.2.1, .bool x.2.2.2.2.2.2.2.1, ls 1 false (encI .u8) x.2.2.2.2.2.2.2.2.1, ls 5 false enc36 x.2.2.2.2.2.2.2.2.2]] (.returned (.bool r)) := sameI_grp.1
theorem equalFunc_ok : ∀ (x : (List S36) × (List S36)) (r : Bool), equalFunc x = some r → ∀ W0 : World, PTo Tryd.prog W0 76 #[ls 5 false enc36 x.1, ls 5 false enc36 x.2, .func (.func 52) #[] #[]] (.returned (.bool r)) := sameI_grp.2.1
theorem equalFunc_L1_ok : ∀ (x : (List S36) × (List S36) × Int × Int) (r : Bool), equalFunc_L1 x = some r → ∀ (W0 w0 : World) (S : Own), Std W0 w0 S 0 → HL Tryd.prog w0 S 32 (cL (cL (cR (cL (cR (cR (cB Tryd.f76))))))) (mkS [(1, ls 5 false enc36 x.1), (2, .func (.func 52) #[] #[]), (15, ls 5 false enc36 x.2.1), (16, .int .i64 x.2.2.1), (17, .int .i64 x.2.2.2)] [] 0 []) (Kblock 0 (Kseq Tryd.prog w0 S 32 (cR (cR (cR (cB Tryd.f76)))) (KEnd Tryd.prog Tryd.f76 (PEnd w0 S (.returned (.bool r)))))) := sameI_grp.2.2
def sameT_L1 (x : Bool) : Option (Bool) :=
  some x
theorem sameT_L1_ok : ∀ (x : Bool) (r : Bool), sameT_L1 x = some r → ∀ (W0 w0 : World) (S : Own), Std W0 w0 S 0 → H Tryd.prog w0 S 18 (cR (cR (cB Tryd.f20))) (mkS [(4, .bool x)] [] 0 []) (KEnd Tryd.prog Tryd.f20 (PEnd w0 S (.returned (.bool r)))) := by
  intro x r h
  unfold sameT_L1 at h
  intro W0 w0 S hS
  haveI := hS.noEx Tryd.prog
  refine H.retP (by kernel_rfl) ?_
  obtain rfl := Option.some.inj h
  exact KEnd.ret (by kernel_rfl) (by kernel_rfl) (by kernel_rfl)
def sameT (x : Int × Int × Bool × (List Int) × (List S36) × Int × Int × Bool × (List Int) × (List S36)) : Option (Bool) :=
  (check (x.1, x.2.1, x.2.2.1, x.2.2.2.1, x.2.2.2.2.1)) >>= fun y1 =>
  if y1 = 0 then
    (check (x.2.2.2.2.2.1, x.2.2.2.2.2.2.1, x.2.2.2.2.2.2.2.1, x.2.2.2.2.2.2.2.2.1, x.2.2.2.2.2.2.2.2.2)) >>= fun y2 =>
    if y2 = 0 then
      (sameI (x.1, x.2.1, x.2.2.1, x.2.2.2.1, x.2.2.2.2.1, x.2.2.2.2.2.1, x.2.2.2.2.2.2.1, x.2.2.2.2.2.2.2.1, x.2.2.2.2.2.2.2.2.1, x.2.2.2.2.2.2.2.2.2)) >>= fun y3 =>
      sameT_L1 y3
    else
      sameT_L1 false
  else
    sameT_L1 false
theorem sameT_ok : ∀ (x : Int × Int × Bool × (List Int) × (List S36) × Int × Int × Bool × (List Int) × (List S36)) (r : Bool), sameT x = some r → ∀ W0 : World, PTo Tryd.prog W0 20 #[.agg #[.int .u8 x.1, .int .u32 x.2.1, .bool x.2.2.1, ls 1 false (encI .u8) x.2.2.2.1, ls 5 false enc36 x.2.2.2.2.1], .agg #[.int .u8 x.2.2.2.2.2.1, .int .u32 x.2.2.2.2.2.2.1, .bool x.2.2.2.2.2.2.2.1, ls 1 false (encI .u8) x.2.2.2.2.2.2.2.2.1, ls 5 false enc36 x.2.2.2.2.2.2.2.2.2]] (.returned (.bool r)) := by
  intro x r h
  unfold sameT at h
  intro W0
  refine PTo.of_body (fn := Tryd.f20) (code := cB Tryd.f20) Tryd.func20 rfl rfl ?_
  intro w0 S hS
  haveI := hS.noEx Tryd.prog
  refine H.seqP (by kernel_rfl) ?_
  refine H.regP (by kernel_rfl) ?_
  refine HO.goP 3 (by kernel_rfl) ?_
  refine HO.done (by kernel_rfl) ?_
  refine Kseq_norm ?_
  refine H.seqP (by kernel_rfl) ?_
  refine H.regP (by kernel_rfl) ?_
  refine HO.goP 1 (by kernel_rfl) ?_
  obtain ⟨y1, hy, h⟩ := bindS h
  refine HO.callW hS [.agg [.keep, .keep, .keep, .list 1 false, .list 5 false]] (check_ok (x.1, x.2.1, x.2.2.1, x.2.2.2.1, x.2.2.2.2.1) y1 hy W0) (by kernel_rfl) (by kernel_rfl) ?_
  refine HO.goP 1 (by kernel_rfl) ?_
  refine HO.boolP (decide (y1 = 0)) (by kernel_rfl) (by kernel_rfl) (fun hb => ?_) (fun hb => ?_)
  · rw [if_pos (of_decide_eq_true hb)] at h
    refine HO.goP 1 (by kernel_rfl) ?_
    obtain ⟨y2, hy, h⟩ := bindS h
    refine HO.callW hS [.agg [.keep, .keep, .keep, .list 1 false, .list 5 false]] (check_ok (x.2.2.2.2.2.1, x.2.2.2.2.2.2.1, x.2.2.2.2.2.2.2.1, x.2.2.2.2.2.2.2.2.1, x.2.2.2.2.2.2.2.2.2) y2 hy W0) (by kernel_rfl) (by kernel_rfl) ?_
    refine HO.goP 2 (by kernel_rfl) ?_
    refine HO.boolP (decide (y2 = 0)) (by kernel_rfl) (by kernel_rfl) (fun hb => ?_) (fun hb => ?_)
    · rw [if_pos (of_decide_eq_true hb)] at h
      refine HO.goP 2 (by kernel_rfl) ?_
      obtain ⟨y3, hy, h⟩ := bindS h
      refine HO.callW hS [.agg [.keep, .keep, .keep, .list 1 false, .list 5 false], .agg [.keep, .keep, .keep, .list 1 false, .list 5 false]] (sameI_ok (x.1, x.2.1, x.2.2.1, x.2.2.2.1, x.2.2.2.2.1, x.2.2.2.2.2.1, x.2.2.2.2.2.2.1, x.2.2.2.2.2.2.2.1, x.2.2.2.2.2.2.2.2.1, x.2.2.2.2.2.2.2.2.2) y3 hy W0) (by kernel_rfl) (by kernel_rfl) ?_
      refine HO.goP 2 (by kernel_rfl) ?_
      refine HO.done (by kernel_rfl) ?_
      refine Kseq_norm ?_
      exact H.ren hS [] _ _ _ (by kernel_rfl) (sameT_L1_ok y3 r h W0 w0 S hS)
    · rw [if_neg (of_decide_eq_false hb)] at h
      refine HO.goP 5 (by kernel_rfl) ?_
      refine HO.done (by kernel_rfl) ?_
      refine Kseq_norm ?_
      exact H.ren hS [] _ _ _ (by kernel_rfl) (sameT_L1_ok false r h W0 w0 S hS)
  · rw [if_neg (of_decide_eq_false hb)] at h
    refine HO.goP 10 (by kernel_rfl) ?_
    refine HO.done (by kernel_rfl) ?_
    refine Kseq_norm ?_
    exact H.ren hS [] _ _ _ (by kernel_rfl) (sameT_L1_ok false r h W0 w0 S hS)
mutual
def flat_L2 (x : (List S111) × Int × Int × Int × Bool × (List Int) × (List S36)) : Option ((List S111)) :=
  flat_L1 (x.1, (IntKind.i64.wrap (x.2.1 + 1)), x.2.2.1, x.2.2.2.1, x.2.2.2.2.1, x.2.2.2.2.2.1, x.2.2.2.2.2.2)
partial_fixpoint
def flat_L1 (x : (List S111) × Int × Int × Int × Bool × (List Int) × (List S36)) : Option ((List S111)) :=
  if x.2.1 < (x.2.2.2.2.2.2.length : Int) then
    (at' x.2.2.2.2.2.2 x.2.1) >>= fun y1 =>
    (flat (y1.c0, y1.c1, y1.c2, y1.c3, y1.c4)) >>= fun y2 =>
    (app' 48 x.1 y2) >>= fun y3 =>
    if y2.length = 0 then
      flat_L2 (x.1, x.2.1, x.2.2.1, x.2.2.2.1, x.2.2.2.2.1, x.2.2.2.2.2.1, x.2.2.2.2.2.2)
    else
      flat_L2 (y3, x.2.1, x.2.2.1, x.2.2.2.1, x.2.2.2.2.1, x.2.2.2.2.2.1, x.2.2.2.2.2.2)
  else
    some x.1
partial_fixpoint
def flat (x : Int × Int × Bool × (List Int) × (List S36)) : Option ((List S111)) :=
  flat_L1 ([(S111.mk (IntKind.i64.wrap x.1) (IntKind.i64.wrap x.2.1) x.2.2.1 (bytesU x.2.2.2.1) (x.2.2.2.2.length : Int))], 0, x.1, x.2.1, x.2.2.1, x.2.2.2.1, x.2.2.2.2)
partial_fixpoint
end
theorem flat_L2_grp : (∀ (x : (List S111) × Int × Int × Int × Bool × (List Int) × (List S36)) (r : (List S111)), flat_L2 x = some r → ∀ (W0 w0 : World) (S : Own), Std W0 w0 S 0 → H Tryd.prog w0 S 37 (cR (cR (cL (cL (cR (cL (cR (cR (cB Tryd.f19))))))))) (mkS [(1, .pointer (some ⟨0, 0, none⟩)), (3, tl 5 1 enc111 x.1), (4, .int .i64 x.2.1)] [(0, .cells [.int .u8 x.2.2.1, .int .u32 x.2.2.2.1, .bool x.2.2.2.2.1, ls 1 false (encI .u8) x.2.2.2.2.2.1, ls 5 false enc36 x.2.2.2.2.2.2] 36 5)] 2 [1]) (Kloop Tryd.prog w0 S 37 (cL (cL (cR (cL (cR (cR (cB Tryd.f19))))))) (Kblock 0 (Kseq Tryd.prog w0 S 37 (cR (cR (cR (cB Tryd.f19)))) (KEnd Tryd.prog Tryd.f19 (PEnd w0 S (.returned (ls 5 false enc111 r)))))))) ∧
  (∀ (x : (List S111) × Int × Int × Int × Bool × (List Int) × (List S36)) (r : (List S111)), flat_L1 x = some r → ∀ (W0 w0 : World) (S : Own), Std W0 w0 S 0 → HL Tryd.prog w0 S 37 (cL (cL (cR (cL (cR (cR (cB Tryd.f19))))))) (mkS [(1, .pointer (some ⟨0, 0, none⟩)), (3, tl 5 1 enc111 x.1), (4, .int .i64 x.2.1)] [(0, .cells [.int .u8 x.2.2.1, .int .u32 x.2.2.2.1, .bool x.2.2.2.2.1, ls 1 false (encI .u8) x.2.2.2.2.2.1, ls 5 false enc36 x.2.2.2.2.2.2] 36 5)] 2 [1]) (Kblock 0 (Kseq Tryd.prog w0 S 37 (cR (cR (cR (cB Tryd.f19)))) (KEnd Tryd.prog Tryd.f19 (PEnd w0 S (.returned (ls 5 false enc111 r))))))) ∧
  (∀ (x : Int × Int × Bool × (List Int) × (List S36)) (r : (List S111)), flat x = some r → ∀ W0 : World, PTo Tryd.prog W0 19 #[.agg #[.int .u8 x.1, .int .u32 x.2.1, .bool x.2.2.1, ls 1 false (encI .u8) x.2.2.2.1, ls 5 false enc36 x.2.2.2.2]] (.returned (ls 5 false enc111 r))) := by
  refine flat_L2.mutual_partial_correctness (fun (x : (List S111) × Int × Int × Int × Bool × (List Int) × (List S36)) (r : (List S111)) => ∀ (W0 w0 : World) (S : Own), Std W0 w0 S 0 → H Tryd.prog w0 S 37 (cR (cR (cL (cL (cR (cL (cR (cR (cB Tryd.f19))))))))) (mkS [(1, .pointer (some ⟨0, 0, none⟩)), (3, tl 5 1 enc111 x.1), (4, .int .i64 x.2.1)] [(0, .cells [.int .u8 x.2.2.1, .int .u32 x.2.2.2.1, .bool x.2.2.2.2.1, ls 1 false (encI .u8) x.2.2.2.2.2.1, ls 5 false enc36 x.2.2.2.2.2.2] 36 5)] 2 [1]) (Kloop Tryd.prog w0 S 37 (cL (cL (cR (cL (cR (cR (cB Tryd.f19))))))) (Kblock 0 (Kseq Tryd.prog w0 S 37 (cR (cR (cR (cB Tryd.f19)))) (KEnd Tryd.prog Tryd.f19 (PEnd w0 S (.returned (ls 5 false enc111 r)))))))) (fun (x : (List S111) × Int × Int × Int × Bool × (List Int) × (List S36)) (r : (List S111)) => ∀ (W0 w0 : World) (S : Own), Std W0 w0 S 0 → HL Tryd.prog w0 S 37 (cL (cL (cR (cL (cR (cR (cB Tryd.f19))))))) (mkS [(1, .pointer (some ⟨0, 0, none⟩)), (3, tl 5 1 enc111 x.1), (4, .int .i64 x.2.1)] [(0, .cells [.int .u8 x.2.2.1, .int .u32 x.2.2.2.1, .bool x.2.2.2.2.1, ls 1 false (encI .u8) x.2.2.2.2.2.1, ls 5 false enc36 x.2.2.2.2.2.2] 36 5)] 2 [1]) (Kblock 0 (Kseq Tryd.prog w0 S 37 (cR (cR (cR (cB Tryd.f19)))) (KEnd Tryd.prog Tryd.f19 (PEnd w0 S (.returned (ls 5 false enc111 r))))))) (fun (x : Int × Int × Bool × (List Int) × (List S36)) (r : (List S111)) => ∀ W0 : World, PTo Tryd.prog W0 19 #[.agg #[.int .u8 x.1, .int .u32 x.2.1, .bool x.2.2.1, ls 1 false (encI .u8) x.2.2.2.1, ls 5 false enc36 x.2.2.2.2]] (.returned (ls 5 false enc111 r))) ?_ ?_ ?_
  · intro g_flat_L1 ih_flat_L1 x r h
    intro W0 w0 S hS
    haveI := hS.noEx Tryd.prog
    refine H.regP (by kernel_rfl) ?_
    refine HO.goP 3 (by kernel_rfl) ?_
    refine HO.done (by kernel_rfl) ?_
    refine Kloop_norm ?_
    exact HL.ren hS [0, 1] _ _ _ (by kernel_rfl) (ih_flat_L1 (x.1, (IntKind.i64.wrap (x.2.1 + 1)), x.2.2.1, x.2.2.2.1, x.2.2.2.2.1, x.2.2.2.2.2.1, x.2.2.2.2.2.2) r h W0 w0 S hS)
  · intro g_flat_L2 g_flat ih_flat_L2 ih_flat x r h
    intro W0 w0 S hS
    haveI := hS.noEx Tryd.prog
    refine HL.round ?_
    refine H.seqP (by kernel_rfl) ?_
    refine H.seqP (by kernel_rfl) ?_
    refine H.regP (by kernel_rfl) ?_
    refine HO.goP 3 (by kernel_rfl) ?_
    refine HO.len (by kernel_rfl) (by kernel_rfl) (ls_size enc36 x.2.2.2.2.2.2) ?_
    refine HO.goP 1 (by kernel_rfl) ?_
    refine HO.done (by kernel_rfl) ?_
    refine Kseq_norm ?_
    refine H.condS (b := decide (x.2.1 < (x.2.2.2.2.2.2.length : Int))) (by kernel_rfl) (by kernel_rfl) (fun hb => ?_) (fun hb => ?_)
    · rw [if_pos (of_decide_eq_true hb)] at h
      refine H.skipP (by kernel_rfl) ?_
      refine Kseq_norm ?_
      refine H.seqP (by kernel_rfl) ?_
      refine H.blockI 1 (by kernel_rfl) ?_
      refine H.regP (by kernel_rfl) ?_
      refine HO.goP 4 (by kernel_rfl) ?_
      obtain ⟨y1, hy, h⟩ := bindS h
      refine HO.idx (.agg #[.int .u8 y1.c0, .int .u32 y1.c1, .bool y1.c2, ls 1 false (encI .u8) y1.c3, ls 5 false enc36 y1.c4]) hy (enc36_eq y1) (by kernel_rfl) ?_
      refine HO.goP 1 (by kernel_rfl) ?_
      obtain ⟨y2, hy, h⟩ := bindS h
      refine HO.callW hS [.agg [.keep, .keep, .keep, .list 1 false, .list 5 false]] (ih_flat (y1.c0, y1.c1, y1.c2, y1.c3, y1.c4) y2 hy W0) (by kernel_rfl) (by kernel_rfl) ?_
      obtain ⟨y3, hy, h⟩ := bindS h
      by_cases hb : y2.length = 0
      · rw [if_pos hb] at h
        refine HO.valA (appN_aop (ag := true) [] enc111_ok hy hb (by kernel_rfl)) ?_
        refine HO.goP 1 (by kernel_rfl) ?_
        refine HO.done (by kernel_rfl) ?_
        refine Kblock_norm ?_
        refine Kseq_norm ?_
        exact H.ren hS [0, 1] _ _ _ (by kernel_rfl) (ih_flat_L2 (x.1, x.2.1, x.2.2.1, x.2.2.2.1, x.2.2.2.2.1, x.2.2.2.2.2.1, x.2.2.2.2.2.2) r h W0 w0 S hS)
      · rw [if_neg hb] at h
        refine HO.effA (appL_aop (ag := true) [] enc111_ok hy hb (by kernel_rfl)) ?_
        refine HO.goP 1 (by kernel_rfl) ?_
        refine HO.done (by kernel_rfl) ?_
        refine Kblock_norm ?_
        refine Kseq_norm ?_
        exact H.ren hS [0, 2] _ _ _ (by kernel_rfl) (ih_flat_L2 (y3, x.2.1, x.2.2.1, x.2.2.2.1, x.2.2.2.2.1, x.2.2.2.2.2.1, x.2.2.2.2.2.2) r h W0 w0 S hS)
    · rw [if_neg (of_decide_eq_false hb)] at h
      refine H.exitI 0 (by kernel_rfl) ?_
      refine Kseq_exit ?_
      refine Kloop_exit ?_
      refine Kblock_hit ?_
      refine Kseq_norm ?_
      refine H.seqP (by kernel_rfl) ?_
      refine H.regP (by kernel_rfl) ?_
      refine HO.goP 2 (by kernel_rfl) ?_
      refine HO.done (by kernel_rfl) ?_
      refine Kseq_norm ?_
      refine H.retP (by kernel_rfl) ?_
      obtain rfl := Option.some.inj h
      exact KEnd.retW (v := tl 5 1 enc111 x.1) (.list 5 false) (by kernel_rfl) (by kernel_rfl) (by kernel_rfl) (by kernel_rfl)
  · intro g_flat_L1 ih_flat_L1 x r h
    intro W0
    refine PTo.of_body (fn := Tryd.f19) (code := cB Tryd.f19) Tryd.func19 rfl rfl ?_
    intro w0 S hS
    haveI := hS.noEx Tryd.prog
    refine H.seqP (by kernel_rfl) ?_
    refine H.regP (by kernel_rfl) ?_
    refine HO.goP 2 (by kernel_rfl) ?_
    refine HO.done (by kernel_rfl) ?_
    refine Kseq_norm ?_
    refine H.seqP (by kernel_rfl) ?_
    refine H.regP (by kernel_rfl) ?_
    refine HO.goP 10 (by kernel_rfl) ?_
    refine HO.valA (str_aop x.2.2.2.1 (by kernel_rfl)) ?_
    refine HO.goP 2 (by kernel_rfl) ?_
    refine HO.len (by kernel_rfl) (by kernel_rfl) (ls_size enc36 x.2.2.2.2) ?_
    refine HO.goP 3 (by kernel_rfl) ?_
    refine HO.done (by kernel_rfl) ?_
    refine Kseq_norm ?_
    refine H.seqP (by kernel_rfl) ?_
    refine H.seqP (by kernel_rfl) ?_
    refine H.regP (by kernel_rfl) ?_
    refine HO.goP 1 (by kernel_rfl) ?_
    refine HO.done (by kernel_rfl) ?_
    refine Kseq_norm ?_
    refine H.blockI 0 (by kernel_rfl) ?_
    refine H.loopP (by kernel_rfl) ?_
    refine HL.tkz [3, 20] 1 1 1 5 111 ([(S111.mk (IntKind.i64.wrap x.1) (IntKind.i64.wrap x.2.1) x.2.2.1 (bytesU x.2.2.2.1) (x.2.2.2.2.length : Int))].map enc111).toArray [.int .i64 (IntKind.i64.wrap x.1), .int .i64 (IntKind.i64.wrap x.2.1), .bool x.2.2.1, .string (bytesU x.2.2.2.1), .int .i64 (x.2.2.2.2.length : Int)] (by kernel_rfl) ?_
    exact HL.ren hS [0, 2] _ _ _ (by kernel_rfl) (ih_flat_L1 ([(S111.mk (IntKind.i64.wrap x.1) (IntKind.i64.wrap x.2.1) x.2.2.1 (bytesU x.2.2.2.1) (x.2.2.2.2.length : Int))], 0, x.1, x.2.1, x.2.2.1, x.2.2.2.1, x.2.2.2.2) r h W0 w0 S hS)
theorem flat_L2_ok : ∀ (x : (List S111) × Int × Int × Int × Bool × (List Int) × (List S36)) (r : (List S111)), flat_L2 x = some r → ∀ (W0 w0 : World) (S : Own), Std W0 w0 S 0 → H Tryd.prog w0 S 37 (cR (cR (cL (cL (cR (cL (cR (cR (cB Tryd.f19))))))))) (mkS [(1, .pointer (some ⟨0, 0, none⟩)), (3, tl 5 1 enc111 x.1), (4, .int .i64 x.2.1)] [(0, .cells [.int .u8 x.2.2.1, .int .u32 x.2.2.2.1, .bool x.2.2.2.2.1, ls 1 false (encI .u8) x.2.2.2.2.2.1, ls 5 false enc36 x.2.2.2.2.2.2] 36 5)] 2 [1]) (Kloop Tryd.prog w0 S 37 (cL (cL (cR (cL (cR (cR (cB Tryd.f19))))))) (Kblock 0 (Kseq Tryd.prog w0 S 37 (cR (cR (cR (cB Tryd.f19)))) (KEnd Tryd.prog Tryd.f19 (PEnd w0 S (.returned (ls 5 false enc111 r))))))) := flat_L2_grp.1
theorem flat_L1_ok : ∀ (x : (List S111) × Int × Int × Int × Bool × (List Int) × (List S36)) (r : (List S111)), flat_L1 x = some r → ∀ (W0 w0 : World) (S : Own), Std W0 w0 S 0 → HL Tryd.prog w0 S 37 (cL (cL (cR (cL (cR (cR (cB Tryd.f19))))))) (mkS [(1, .pointer (some ⟨0, 0, none⟩)), (3, tl 5 1 enc111 x.1), (4, .int .i64 x.2.1)] [(0, .cells [.int .u8 x.2.2.1, .int .u32 x.2.2.2.1, .bool x.2.2.2.2.1, ls 1 false (encI .u8) x.2.2.2.2.2.1, ls 5 false enc36 x.2.2.2.2.2.2] 36 5)] 2 [1]) (Kblock 0 (Kseq Tryd.prog w0 S 37 (cR (cR (cR (cB Tryd.f19)))) (KEnd Tryd.prog Tryd.f19 (PEnd w0 S (.returned (ls 5 false enc111 r)))))) := flat_L2_grp.2.1
theorem flat_ok : ∀ (x : Int × Int × Bool × (List Int) × (List S36)) (r : (List S111)), flat x = some r → ∀ W0 : World, PTo Tryd.prog W0 19 #[.agg #[.int .u8 x.1, .int .u32 x.2.1, .bool x.2.2.1, ls 1 false (encI .u8) x.2.2.2.1, ls 5 false enc36 x.2.2.2.2]] (.returned (ls 5 false enc111 r)) := flat_L2_grp.2.2
def alike_L1 (x : (List S111) × (List S111) × Int) : Option (Bool) :=
  if x.2.2 < (x.1.length : Int) then
    (at' x.1 x.2.2) >>= fun y1 =>
    (at' x.2.1 x.2.2) >>= fun y2 =>
    if (!(((y1.c0 : Int) == y2.c0) && (((y1.c1 : Int) == y2.c1) && (((y1.c2 : Bool) == y2.c2) && (((y1.c3 : ByteArray) == y2.c3) && (((y1.c4 : Int) == y2.c4) && (true))))))) = true then
      some false
    else
      alike_L1 (x.1, x.2.1, (IntKind.i64.wrap (x.2.2 + 1)))
  else
    some true
partial_fixpoint
theorem alike_L1_ok : ∀ (x : (List S111) × (List S111) × Int) (r : Bool), alike_L1 x = some r → ∀ (W0 w0 : World) (S : Own), Std W0 w0 S 0 → HL Tryd.prog w0 S 26 (cL (cL (cR (cL (cR (cR (cB Tryd.f25))))))) (mkS [(0, ls 5 false enc111 x.1), (1, ls 5 false enc111 x.2.1), (5, .int .i64 x.2.2)] [] 0 []) (Kblock 0 (Kseq Tryd.prog w0 S 26 (cR (cR (cR (cB Tryd.f25)))) (KEnd Tryd.prog Tryd.f25 (PEnd w0 S (.returned (.bool r)))))) := by
  refine alike_L1.partial_correctness (fun (x : (List S111) × (List S111) × Int) (r : Bool) => ∀ (W0 w0 : World) (S : Own), Std W0 w0 S 0 → HL Tryd.prog w0 S 26 (cL (cL (cR (cL (cR (cR (cB Tryd.f25))))))) (mkS [(0, ls 5 false enc111 x.1), (1, ls 5 false enc111 x.2.1), (5, .int .i64 x.2.2)] [] 0 []) (Kblock 0 (Kseq Tryd.prog w0 S 26 (cR (cR (cR (cB Tryd.f25)))) (KEnd Tryd.prog Tryd.f25 (PEnd w0 S (.returned (.bool r))))))) ?_
  intro self ih_alike_L1 x r h
  intro W0 w0 S hS
  haveI := hS.noEx Tryd.prog
  refine HL.round ?_
  refine H.seqP (by kernel_rfl) ?_
  refine H.seqP (by kernel_rfl) ?_
  refine H.regP (by kernel_rfl) ?_
  refine HO.goP 2 (by kernel_rfl) ?_
  refine HO.len (by kernel_rfl) (by kernel_rfl) (ls_size enc111 x.1) ?_
  refine HO.goP 1 (by kernel_rfl) ?_
  refine HO.done (by kernel_rfl) ?_
  refine Kseq_norm ?_
  refine H.condS (b := decide (x.2.2 < (x.1.length : Int))) (by kernel_rfl) (by kernel_rfl) (fun hb => ?_) (fun hb => ?_)
  · rw [if_pos (of_decide_eq_true hb)] at h
    refine H.skipP (by kernel_rfl) ?_
    refine Kseq_norm ?_
    refine H.seqP (by kernel_rfl) ?_
    refine H.blockI 1 (by kernel_rfl) ?_
    refine H.seqP (by kernel_rfl) ?_
    refine H.drawQ ?_
    refine HQ.goP 2 (by kernel_rfl) ?_
    obtain ⟨y1, hy, h⟩ := bindS h
    refine HQ.idx (.agg #[.int .i64 y1.c0, .int .i64 y1.c1, .bool y1.c2, .string y1.c3, .int .i64 y1.c4]) hy (enc111_eq y1) (by kernel_rfl) ?_
    refine HQ.goP 3 (by kernel_rfl) ?_
    obtain ⟨y2, hy, h⟩ := bindS h
    refine HQ.idx (.agg #[.int .i64 y2.c0, .int .i64 y2.c1, .bool y2.c2, .string y2.c3, .int .i64 y2.c4]) hy (enc111_eq y2) (by kernel_rfl) ?_
    refine HQ.goP 1 (by kernel_rfl) ?_
    refine HQ.valA (eqS_aop (r := (((y1.c0 : Int) == y2.c0) && (((y1.c1 : Int) == y2.c1) && (((y1.c2 : Bool) == y2.c2) && (((y1.c3 : ByteArray) == y2.c3) && (((y1.c4 : Int) == y2.c4) && (true))))))) true (by kernel_rfl)) ?_
    refine HQ.calm (by kernel_rfl) (by kernel_rfl) (by kernel_rfl) (by kernel_rfl) ?_
    refine Kseq_norm ?_
    refine H.condS (b := !(((y1.c0 : Int) == y2.c0) && (((y1.c1 : Int) == y2.c1) && (((y1.c2 : Bool) == y2.c2) && (((y1.c3 : ByteArray) == y2.c3) && (((y1.c4 : Int) == y2.c4) && (true))))))) (by kernel_rfl) (by kernel_rfl) (fun hb => ?_) (fun hb => ?_)
    · rw [if_pos hb] at h
      refine H.seqP (by kernel_rfl) ?_
      refine H.regP (by kernel_rfl) ?_
      refine HO.goP 1 (by kernel_rfl) ?_
      refine HO.done (by kernel_rfl) ?_
      refine Kseq_norm ?_
      refine H.retP (by kernel_rfl) ?_
      refine Kblock_ret ?_
      refine Kseq_ret ?_
      refine Kloop_ret ?_
      refine Kblock_ret ?_
      refine Kseq_ret ?_
      obtain rfl := Option.some.inj h
      exact KEnd.ret (by kernel_rfl) (by kernel_rfl) (by kernel_rfl)
    · rw [if_neg (ne_true hb)] at h
      refine H.skipP (by kernel_rfl) ?_
      refine Kblock_norm ?_
      refine Kseq_norm ?_
      refine H.regP (by kernel_rfl) ?_
      refine HO.goP 3 (by kernel_rfl) ?_
      refine HO.done (by kernel_rfl) ?_
      refine Kloop_norm ?_
      exact HL.ren hS [] _ _ _ (by kernel_rfl) (ih_alike_L1 (x.1, x.2.1, (IntKind.i64.wrap (x.2.2 + 1))) r h W0 w0 S hS)
  · rw [if_neg (of_decide_eq_false hb)] at h
    refine H.exitI 0 (by kernel_rfl) ?_
    refine Kseq_exit ?_
    refine Kloop_exit ?_
    refine Kblock_hit ?_
    refine Kseq_norm ?_
    refine H.seqP (by kernel_rfl) ?_
    refine H.regP (by kernel_rfl) ?_
    refine HO.goP 1 (by kernel_rfl) ?_
    refine HO.done (by kernel_rfl) ?_
    refine Kseq_norm ?_
    refine H.retP (by kernel_rfl) ?_
    obtain rfl := Option.some.inj h
    exact KEnd.ret (by kernel_rfl) (by kernel_rfl) (by kernel_rfl)
def alike (x : (List S111) × (List S111)) : Option (Bool) :=
  if (!decide ((x.1.length : Int) = (x.2.length : Int))) = true then
    some false
  else
    alike_L1 (x.1, x.2, 0)
theorem alike_ok : ∀ (x : (List S111) × (List S111)) (r : Bool), alike x = some r → ∀ W0 : World, PTo Tryd.prog W0 25 #[ls 5 false enc111 x.1, ls 5 false enc111 x.2] (.returned (.bool r)) := by
  intro x r h
  unfold alike at h
  intro W0
  refine PTo.of_body (fn := Tryd.f25) (code := cB Tryd.f25) Tryd.func25 rfl rfl ?_
  intro w0 S hS
  haveI := hS.noEx Tryd.prog
  refine H.seqP (by kernel_rfl) ?_
  refine H.regP (by kernel_rfl) ?_
  refine HO.goP 1 (by kernel_rfl) ?_
  refine HO.done (by kernel_rfl) ?_
  refine Kseq_norm ?_
  refine H.seqP (by kernel_rfl) ?_
  refine H.seqP (by kernel_rfl) ?_
  refine H.regP (by kernel_rfl) ?_
  refine HO.goP 1 (by kernel_rfl) ?_
  refine HO.len (by kernel_rfl) (by kernel_rfl) (ls_size enc111 x.1) ?_
  refine HO.goP 1 (by kernel_rfl) ?_
  refine HO.len (by kernel_rfl) (by kernel_rfl) (ls_size enc111 x.2) ?_
  refine HO.goP 1 (by kernel_rfl) ?_
  refine HO.done (by kernel_rfl) ?_
  refine Kseq_norm ?_
  refine H.condS (b := !decide ((x.1.length : Int) = (x.2.length : Int))) (by kernel_rfl) (by kernel_rfl) (fun hb => ?_) (fun hb => ?_)
  · rw [if_pos hb] at h
    refine H.seqP (by kernel_rfl) ?_
    refine H.regP (by kernel_rfl) ?_
    refine HO.goP 1 (by kernel_rfl) ?_
    refine HO.done (by kernel_rfl) ?_
    refine Kseq_norm ?_
    refine H.retP (by kernel_rfl) ?_
    refine Kseq_ret ?_
    obtain rfl := Option.some.inj h
    exact KEnd.ret (by kernel_rfl) (by kernel_rfl) (by kernel_rfl)
  · rw [if_neg (ne_true hb)] at h
    refine H.skipP (by kernel_rfl) ?_
    refine Kseq_norm ?_
    refine H.seqP (by kernel_rfl) ?_
    refine H.seqP (by kernel_rfl) ?_
    refine H.regP (by kernel_rfl) ?_
    refine HO.goP 1 (by kernel_rfl) ?_
    refine HO.done (by kernel_rfl) ?_
    refine Kseq_norm ?_
    refine H.blockI 0 (by kernel_rfl) ?_
    refine H.loopP (by kernel_rfl) ?_
    exact HL.ren hS [] _ _ _ (by kernel_rfl) (alike_L1_ok (x.1, x.2, 0) r h W0 w0 S hS)
def isCanonical_L1 (x : Bool) : Option (Bool) :=
  some x
theorem isCanonical_L1_ok : ∀ (x : Bool) (r : Bool), isCanonical_L1 x = some r → ∀ (W0 w0 : World) (S : Own), Std W0 w0 S 0 → H Tryd.prog w0 S 18 (cR (cR (cR (cB Tryd.f26)))) (mkS [(2, .bool x)] [] 0 []) (KEnd Tryd.prog Tryd.f26 (PEnd w0 S (.returned (.bool r)))) := by
  intro x r h
  unfold isCanonical_L1 at h
  intro W0 w0 S hS
  haveI := hS.noEx Tryd.prog
  refine H.retP (by kernel_rfl) ?_
  obtain rfl := Option.some.inj h
  exact KEnd.ret (by kernel_rfl) (by kernel_rfl) (by kernel_rfl)
def isCanonical (x : (List Int)) : Option (Bool) :=
  (decode x) >>= fun y1 =>
  if y1.2.2.2.2.2 = 0 then
    (encode (y1.1, y1.2.1, y1.2.2.1, y1.2.2.2.1, y1.2.2.2.2.1, 0)) >>= fun y2 =>
    (bytesEqual (y2, x)) >>= fun y3 =>
    isCanonical_L1 y3
  else
    isCanonical_L1 false
theorem isCanonical_ok : ∀ (x : (List Int)) (r : Bool), isCanonical x = some r → ∀ W0 : World, PTo Tryd.prog W0 26 #[ls 1 false (encI .u8) x] (.returned (.bool r)) := by
  intro x r h
  unfold isCanonical at h
  intro W0
  refine PTo.of_body (fn := Tryd.f26) (code := cB Tryd.f26) Tryd.func26 rfl rfl ?_
  intro w0 S hS
  haveI := hS.noEx Tryd.prog
  refine H.seqP (by kernel_rfl) ?_
  refine H.regP (by kernel_rfl) ?_
  refine HO.goP 1 (by kernel_rfl) ?_
  refine HO.done (by kernel_rfl) ?_
  refine Kseq_norm ?_
  refine H.seqP (by kernel_rfl) ?_
  refine H.regP (by kernel_rfl) ?_
  refine HO.goP 1 (by kernel_rfl) ?_
  obtain ⟨y1, hy, h⟩ := bindS h
  refine HO.callW hS [.list 1 false] (decode_ok x y1 hy W0) (by kernel_rfl) (by kernel_rfl) ?_
  refine HO.goP 6 (by kernel_rfl) ?_
  refine HO.done (by kernel_rfl) ?_
  refine Kseq_norm ?_
  refine H.seqP (by kernel_rfl) ?_
  refine H.regP (by kernel_rfl) ?_
  refine HO.goP 2 (by kernel_rfl) ?_
  refine HO.boolP (decide (y1.2.2.2.2.2 = 0)) (by kernel_rfl) (by kernel_rfl) (fun hb => ?_) (fun hb => ?_)
  · rw [if_pos (of_decide_eq_true hb)] at h
    refine HO.goP 1 (by kernel_rfl) ?_
    obtain ⟨y2, hy, h⟩ := bindS h
    refine HO.callFW hS (tl 1 1 (encI .u8) y2) 2 [1] [(0, .cells [.int .u8 y1.1, .int .u32 y1.2.1, .bool y1.2.2.1, ls 1 false (encI .u8) y1.2.2.2.1, ls 5 false enc36 y1.2.2.2.2.1] 36 5)] [] [.keep, .agg [.keep, .keep, .keep, .list 1 false, .list 5 false], .keep] (encode_ok (y1.1, y1.2.1, y1.2.2.1, y1.2.2.2.1, y1.2.2.2.2.1, 0) y2 hy W0) (by kernel_rfl) (by kernel_rfl) ?_
    refine HO.goP 1 (by kernel_rfl) ?_
    obtain ⟨y3, hy, h⟩ := bindS h
    refine HO.callW hS [.list 1 false, .list 1 false] (bytesEqual_ok (y2, x) y3 hy W0) (by kernel_rfl) (by kernel_rfl) ?_
    refine HO.goP 2 (by kernel_rfl) ?_
    refine HO.done (by kernel_rfl) ?_
    refine Kseq_norm ?_
    exact H.ren hS [] _ _ _ (by kernel_rfl) (isCanonical_L1_ok y3 r h W0 w0 S hS)
  · rw [if_neg (of_decide_eq_false hb)] at h
    refine HO.goP 6 (by kernel_rfl) ?_
    refine HO.done (by kernel_rfl) ?_
    refine Kseq_norm ?_
    exact H.ren hS [] _ _ _ (by kernel_rfl) (isCanonical_L1_ok false r h W0 w0 S hS)
def encodeC (x : Int × Int × Bool × (List Int) × (List S36)) : Option ((List Int) × Int) :=
  (encodeAs (x.1, x.2.1, x.2.2.1, x.2.2.2.1, x.2.2.2.2, 0)) >>= fun y1 =>
  some (y1.1, y1.2)
theorem encodeC_ok : ∀ (x : Int × Int × Bool × (List Int) × (List S36)) (r : (List Int) × Int), encodeC x = some r → ∀ W0 : World, PTo Tryd.prog W0 41 #[.agg #[.int .u8 x.1, .int .u32 x.2.1, .bool x.2.2.1, ls 1 false (encI .u8) x.2.2.2.1, ls 5 false enc36 x.2.2.2.2]] (.returned (.tuple #[ls 1 true (encI .u8) r.1, .int .i64 r.2])) := by
  intro x r h
  unfold encodeC at h
  intro W0
  refine PTo.of_body (fn := Tryd.f41) (code := cB Tryd.f41) Tryd.func41 rfl rfl ?_
  intro w0 S hS
  haveI := hS.noEx Tryd.prog
  refine H.seqP (by kernel_rfl) ?_
  refine H.regP (by kernel_rfl) ?_
  refine HO.goP 3 (by kernel_rfl) ?_
  refine HO.done (by kernel_rfl) ?_
  refine Kseq_norm ?_
  refine H.seqP (by kernel_rfl) ?_
  refine H.regP (by kernel_rfl) ?_
  refine HO.goP 1 (by kernel_rfl) ?_
  obtain ⟨y1, hy, h⟩ := bindS h
  refine HO.callW hS [.agg [.keep, .keep, .keep, .list 1 false, .list 5 false], .keep] (encodeAs_ok (x.1, x.2.1, x.2.2.1, x.2.2.2.1, x.2.2.2.2, 0) y1 hy W0) (by kernel_rfl) (by kernel_rfl) ?_
  refine HO.goP 4 (by kernel_rfl) ?_
  refine HO.done (by kernel_rfl) ?_
  refine Kseq_norm ?_
  refine H.retP (by kernel_rfl) ?_
  obtain rfl := Option.some.inj h
  exact KEnd.retW (v := .tuple #[ls 1 true (encI .u8) y1.1, .int .i64 y1.2]) (.tuple [.list 1 true, .keep]) (by kernel_rfl) (by kernel_rfl) (by kernel_rfl) (by kernel_rfl)
def canonical (x : Int × Int × Bool × (List Int) × (List S36)) : Option ((List Int)) :=
  (encodeC (x.1, x.2.1, x.2.2.1, x.2.2.2.1, x.2.2.2.2)) >>= fun y1 =>
  some y1.1
theorem canonical_ok : ∀ (x : Int × Int × Bool × (List Int) × (List S36)) (r : (List Int)), canonical x = some r → ∀ W0 : World, PTo Tryd.prog W0 27 #[.agg #[.int .u8 x.1, .int .u32 x.2.1, .bool x.2.2.1, ls 1 false (encI .u8) x.2.2.2.1, ls 5 false enc36 x.2.2.2.2]] (.returned (ls 1 false (encI .u8) r)) := by
  intro x r h
  unfold canonical at h
  intro W0
  refine PTo.of_body (fn := Tryd.f27) (code := cB Tryd.f27) Tryd.func27 rfl rfl ?_
  intro w0 S hS
  haveI := hS.noEx Tryd.prog
  refine H.seqP (by kernel_rfl) ?_
  refine H.regP (by kernel_rfl) ?_
  refine HO.goP 2 (by kernel_rfl) ?_
  refine HO.done (by kernel_rfl) ?_
  refine Kseq_norm ?_
  refine H.seqP (by kernel_rfl) ?_
  refine H.regP (by kernel_rfl) ?_
  refine HO.goP 1 (by kernel_rfl) ?_
  obtain ⟨y1, hy, h⟩ := bindS h
  refine HO.callW hS [.agg [.keep, .keep, .keep, .list 1 false, .list 5 false]] (encodeC_ok (x.1, x.2.1, x.2.2.1, x.2.2.2.1, x.2.2.2.2) y1 hy W0) (by kernel_rfl) (by kernel_rfl) ?_
  refine HO.goP 5 (by kernel_rfl) ?_
  refine HO.done (by kernel_rfl) ?_
  refine Kseq_norm ?_
  refine H.seqP (by kernel_rfl) ?_
  refine H.regP (by kernel_rfl) ?_
  refine HO.goP 2 (by kernel_rfl) ?_
  refine HO.done (by kernel_rfl) ?_
  refine Kseq_norm ?_
  refine H.retP (by kernel_rfl) ?_
  obtain rfl := Option.some.inj h
  exact KEnd.retW (v := ls 1 true (encI .u8) y1.1) (.list 1 false) (by kernel_rfl) (by kernel_rfl) (by kernel_rfl) (by kernel_rfl)
def sameS (x : (List Int) × (List Int)) : Option (Bool) :=
  some (strEq (bytesU x.1) (bytesU x.2))
theorem sameS_ok : ∀ (x : (List Int) × (List Int)) (r : Bool), sameS x = some r → ∀ W0 : World, PTo Tryd.prog W0 13 #[ls 1 false (encI .u8) x.1, ls 1 false (encI .u8) x.2] (.returned (.bool r)) := by
  intro x r h
  unfold sameS at h
  intro W0
  refine PTo.of_body (fn := Tryd.f13) (code := cB Tryd.f13) Tryd.func13 rfl rfl ?_
  intro w0 S hS
  haveI := hS.noEx Tryd.prog
  refine H.seqP (by kernel_rfl) ?_
  refine H.regP (by kernel_rfl) ?_
  refine HO.goP 1 (by kernel_rfl) ?_
  refine HO.done (by kernel_rfl) ?_
  refine Kseq_norm ?_
  refine H.seqP (by kernel_rfl) ?_
  refine H.regP (by kernel_rfl) ?_
  refine HO.goP 1 (by kernel_rfl) ?_
  refine HO.valA (str_aop x.1 (by kernel_rfl)) ?_
  refine HO.goP 1 (by kernel_rfl) ?_
  refine HO.valA (str_aop x.2 (by kernel_rfl)) ?_
  refine HO.goP 2 (by kernel_rfl) ?_
  refine HO.done (by kernel_rfl) ?_
  refine Kseq_norm ?_
  refine H.retP (by kernel_rfl) ?_
  obtain rfl := Option.some.inj h
  exact KEnd.ret (by kernel_rfl) (by kernel_rfl) (by kernel_rfl)
def law_L9 (x : Bool) : Option (Bool) :=
  some x
theorem law_L9_ok : ∀ (x : Bool) (r : Bool), law_L9 x = some r → ∀ (W0 w0 : World) (S : Own), Std W0 w0 S 0 → PTo Tryd.prog W0 10 #[] (.returned (.bool true)) → H Tryd.prog w0 S 151 (cR (cR (cR (cR (cR (cR (cR (cR (cR (cR (cR (cR (cB Tryd.f5))))))))))))) (mkS [(6, .bool x)] [] 0 []) (KEnd Tryd.prog Tryd.f5 (PEnd w0 S (.returned (.bool r)))) := by
  intro x r h
  unfold law_L9 at h
  intro W0 w0 S hS
  intro HLV
  haveI := hS.noEx Tryd.prog
  refine H.retP (by kernel_rfl) ?_
  obtain rfl := Option.some.inj h
  exact KEnd.ret (by kernel_rfl) (by kernel_rfl) (by kernel_rfl)
mutual
def law_L8 (x : Int × (List Int) × Int × Bool × Int × Int × Bool × (List Int) × (List S36)) : Option (Bool) :=
  if x.2.2.2.1 = true then
    some false
  else
    law_L6 (x.1, x.2.1, (IntKind.i64.wrap (x.2.2.1 + 1)), x.2.2.2.2.1, x.2.2.2.2.2.1, x.2.2.2.2.2.2.1, x.2.2.2.2.2.2.2.1, x.2.2.2.2.2.2.2.2)
partial_fixpoint
def law_L6 (x : Int × (List Int) × Int × Int × Int × Bool × (List Int) × (List S36)) : Option (Bool) :=
  if x.2.2.1 < (x.2.1.length : Int) then
    law_L7 (x.1, x.2.1, x.2.2.1, (decide (x.2.2.1 < 60)), x.2.2.2.1, x.2.2.2.2.1, x.2.2.2.2.2.1, x.2.2.2.2.2.2.1, x.2.2.2.2.2.2.2)
  else
    law_L7 (x.1, x.2.1, x.2.2.1, false, x.2.2.2.1, x.2.2.2.2.1, x.2.2.2.2.2.1, x.2.2.2.2.2.2.1, x.2.2.2.2.2.2.2)
partial_fixpoint
def law_L7 (x : Int × (List Int) × Int × Bool × Int × Int × Bool × (List Int) × (List S36)) : Option (Bool) :=
  if x.2.2.2.1 = true then
    (sub' x.2.1 0 (IntKind.i64.wrap ((IntKind.i64.wrap ((x.2.1.length : Int) - 1)) - x.2.2.1))) >>= fun y22 =>
    (first y22) >>= fun y23 =>
    if (!decide (y23.2.2.2.2.2.2 = 4)) = true then
      law_L8 (x.1, x.2.1, x.2.2.1, true, x.2.2.2.2.1, x.2.2.2.2.2.1, x.2.2.2.2.2.2.1, x.2.2.2.2.2.2.2.1, x.2.2.2.2.2.2.2.2)
    else
      law_L8 (x.1, x.2.1, x.2.2.1, (!decide (y23.2.2.2.2.2.1 = 0)), x.2.2.2.2.1, x.2.2.2.2.2.1, x.2.2.2.2.2.2.1, x.2.2.2.2.2.2.2.1, x.2.2.2.2.2.2.2.2)
  else
    (isCanonical x.2.1) >>= fun y24 =>
    if x.1 = 0 then
      if (y24 == true) = true then
        law_L9 true
      else
        law_L9 false
    else
      (canonical (x.2.2.2.2.1, x.2.2.2.2.2.1, x.2.2.2.2.2.2.1, x.2.2.2.2.2.2.2.1, x.2.2.2.2.2.2.2.2)) >>= fun y25 =>
      (sameS (x.2.1, y25)) >>= fun y26 =>
      if (y24 == y26) = true then
        law_L9 true
      else
        law_L9 false
partial_fixpoint
end
theorem law_L8_grp : (∀ (x : Int × (List Int) × Int × Bool × Int × Int × Bool × (List Int) × (List S36)) (r : Bool), law_L8 x = some r → ∀ (W0 w0 : World) (S : Own), Std W0 w0 S 0 → PTo Tryd.prog W0 10 #[] (.returned (.bool true)) → H Tryd.prog w0 S 151 (cR (cR (cL (cL (cR (cL (cL (cR (cL (cR (cR (cR (cR (cR (cR (cR (cR (cR (cR (cB Tryd.f5)))))))))))))))))))) (mkS [(7, .pointer (some ⟨0, 0, none⟩)), (8, .int .u8 x.1), (9, ls 1 true (encI .u8) x.2.1), (18, .int .i64 x.2.2.1), (136, .bool x.2.2.2.1)] [(0, .cells [.int .u8 x.2.2.2.2.1, .int .u32 x.2.2.2.2.2.1, .bool x.2.2.2.2.2.2.1, ls 1 false (encI .u8) x.2.2.2.2.2.2.2.1, ls 5 false enc36 x.2.2.2.2.2.2.2.2] 36 5)] 1 []) (Kblock 1 (Kseq Tryd.prog w0 S 151 (cR (cR (cL (cL (cR (cL (cR (cR (cR (cR (cR (cR (cR (cR (cR (cR (cB Tryd.f5))))))))))))))))) (Kloop Tryd.prog w0 S 151 (cL (cL (cR (cL (cR (cR (cR (cR (cR (cR (cR (cR (cR (cR (cB Tryd.f5))))))))))))))) (Kblock 0 (Kseq Tryd.prog w0 S 151 (cR (cR (cR (cR (cR (cR (cR (cR (cR (cR (cR (cB Tryd.f5)))))))))))) (KEnd Tryd.prog Tryd.f5 (PEnd w0 S (.returned (.bool r)))))))))) ∧
  (∀ (x : Int × (List Int) × Int × Int × Int × Bool × (List Int) × (List S36)) (r : Bool), law_L6 x = some r → ∀ (W0 w0 : World) (S : Own), Std W0 w0 S 0 → PTo Tryd.prog W0 10 #[] (.returned (.bool true)) → HL Tryd.prog w0 S 151 (cL (cL (cR (cL (cR (cR (cR (cR (cR (cR (cR (cR (cR (cR (cB Tryd.f5))))))))))))))) (mkS [(7, .pointer (some ⟨0, 0, none⟩)), (8, .int .u8 x.1), (9, ls 1 true (encI .u8) x.2.1), (18, .int .i64 x.2.2.1)] [(0, .cells [.int .u8 x.2.2.2.1, .int .u32 x.2.2.2.2.1, .bool x.2.2.2.2.2.1, ls 1 false (encI .u8) x.2.2.2.2.2.2.1, ls 5 false enc36 x.2.2.2.2.2.2.2] 36 5)] 1 []) (Kblock 0 (Kseq Tryd.prog w0 S 151 (cR (cR (cR (cR (cR (cR (cR (cR (cR (cR (cR (cB Tryd.f5)))))))))))) (KEnd Tryd.prog Tryd.f5 (PEnd w0 S (.returned (.bool r))))))) ∧
  (∀ (x : Int × (List Int) × Int × Bool × Int × Int × Bool × (List Int) × (List S36)) (r : Bool), law_L7 x = some r → ∀ (W0 w0 : World) (S : Own), Std W0 w0 S 0 → PTo Tryd.prog W0 10 #[] (.returned (.bool true)) → H Tryd.prog w0 S 151 (cR (cL (cL (cL (cR (cL (cR (cR (cR (cR (cR (cR (cR (cR (cR (cR (cB Tryd.f5))))))))))))))))) (mkS [(7, .pointer (some ⟨0, 0, none⟩)), (8, .int .u8 x.1), (9, ls 1 true (encI .u8) x.2.1), (18, .int .i64 x.2.2.1), (116, .bool x.2.2.2.1)] [(0, .cells [.int .u8 x.2.2.2.2.1, .int .u32 x.2.2.2.2.2.1, .bool x.2.2.2.2.2.2.1, ls 1 false (encI .u8) x.2.2.2.2.2.2.2.1, ls 5 false enc36 x.2.2.2.2.2.2.2.2] 36 5)] 1 []) (Kseq Tryd.prog w0 S 151 (cR (cL (cL (cR (cL (cR (cR (cR (cR (cR (cR (cR (cR (cR (cR (cB Tryd.f5)))))))))))))))) (Kloop Tryd.prog w0 S 151 (cL (cL (cR (cL (cR (cR (cR (cR (cR (cR (cR (cR (cR (cR (cB Tryd.f5))))))))))))))) (Kblock 0 (Kseq Tryd.prog w0 S 151 (cR (cR (cR (cR (cR (cR (cR (cR (cR (cR (cR (cB Tryd.f5)))))))))))) (KEnd Tryd.prog Tryd.f5 (PEnd w0 S (.returned (.bool r))))))))) := by
  refine law_L8.mutual_partial_correctness (fun (x : Int × (List Int) × Int × Bool × Int × Int × Bool × (List Int) × (List S36)) (r : Bool) => ∀ (W0 w0 : World) (S : Own), Std W0 w0 S 0 → PTo Tryd.prog W0 10 #[] (.returned (.bool true)) → H Tryd.prog w0 S 151 (cR (cR (cL (cL (cR (cL (cL (cR (cL (cR (cR (cR (cR (cR (cR (cR (cR (cR (cR (cB Tryd.f5)))))))))))))))))))) (mkS [(7, .pointer (some ⟨0, 0, none⟩)), (8, .int .u8 x.1), (9, ls 1 true (encI .u8) x.2.1), (18, .int .i64 x.2.2.1), (136, .bool x.2.2.2.1)] [(0, .cells [.int .u8 x.2.2.2.2.1, .int .u32 x.2.2.2.2.2.1, .bool x.2.2.2.2.2.2.1, ls 1 false (encI .u8) x.2.2.2.2.2.2.2.1, ls 5 false enc36 x.2.2.2.2.2.2.2.2] 36 5)] 1 []) (Kblock 1 (Kseq Tryd.prog w0 S 151 (cR (cR (cL (cL (cR (cL (cR (cR (cR (cR (cR (cR (cR (cR (cR (cR (cB Tryd.f5))))))))))))))))) (Kloop Tryd.prog w0 S 151 (cL (cL (cR (cL (cR (cR (cR (cR (cR (cR (cR (cR (cR (cR (cB Tryd.f5))))))))))))))) (Kblock 0 (Kseq Tryd.prog w0 S 151 (cR (cR (cR (cR (cR (cR (cR (cR (cR (cR (cR (cB Tryd.f5)))))))))))) (KEnd Tryd.prog Tryd.f5 (PEnd w0 S (.returned (.bool r)))))))))) (fun (x : Int × (List Int) × Int × Int × Int × Bool × (List Int) × (List S36)) (r : Bool) => ∀ (W0 w0 : World) (S : Own), Std W0 w0 S 0 → PTo Tryd.prog W0 10 #[] (.returned (.bool true)) → HL Tryd.prog w0 S 151 (cL (cL (cR (cL (cR (cR (cR (cR (cR (cR (cR (cR (cR (cR (cB Tryd.f5))))))))))))))) (mkS [(7, .pointer (some ⟨0, 0, none⟩)), (8, .int .u8 x.1), (9, ls 1 true (encI .u8) x.2.1), (18, .int .i64 x.2.2.1)] [(0, .cells [.int .u8 x.2.2.2.1, .int .u32 x.2.2.2.2.1, .bool x.2.2.2.2.2.1, ls 1 false (encI .u8) x.2.2.2.2.2.2.1, ls 5 false enc36 x.2.2.2.2.2.2.2] 36 5)] 1 []) (Kblock 0 (Kseq Tryd.prog w0 S 151 (cR (cR (cR (cR (cR (cR (cR (cR (cR (cR (cR (cB Tryd.f5)))))))))))) (KEnd Tryd.prog Tryd.f5 (PEnd w0 S (.returned (.bool r))))))) (fun (x : Int × (List Int) × Int × Bool × Int × Int × Bool × (List Int) × (List S36)) (r : Bool) => ∀ (W0 w0 : World) (S : Own), Std W0 w0 S 0 → PTo Tryd.prog W0 10 #[] (.returned (.bool true)) → H Tryd.prog w0 S 151 (cR (cL (cL (cL (cR (cL (cR (cR (cR (cR (cR (cR (cR (cR (cR (cR (cB Tryd.f5))))))))))))))))) (mkS [(7, .pointer (some ⟨0, 0, none⟩)), (8, .int .u8 x.1), (9, ls 1 true (encI .u8) x.2.1), (18, .int .i64 x.2.2.1), (116, .bool x.2.2.2.1)] [(0, .cells [.int .u8 x.2.2.2.2.1, .int .u32 x.2.2.2.2.2.1, .bool x.2.2.2.2.2.2.1, ls 1 false (encI .u8) x.2.2.2.2.2.2.2.1, ls 5 false enc36 x.2.2.2.2.2.2.2.2] 36 5)] 1 []) (Kseq Tryd.prog w0 S 151 (cR (cL (cL (cR (cL (cR (cR (cR (cR (cR (cR (cR (cR (cR (cR (cB Tryd.f5)))))))))))))))) (Kloop Tryd.prog w0 S 151 (cL (cL (cR (cL (cR (cR (cR (cR (cR (cR (cR (cR (cR (cR (cB Tryd.f5))))))))))))))) (Kblock 0 (Kseq Tryd.prog w0 S 151 (cR (cR (cR (cR (cR (cR (cR (cR (cR (cR (cR (cB Tryd.f5)))))))))))) (KEnd Tryd.prog Tryd.f5 (PEnd w0 S (.returned (.bool r))))))))) ?_ ?_ ?_
  · intro g_law_L6 ih_law_L6 x r h
    intro W0 w0 S hS
    intro HLV
    haveI := hS.noEx Tryd.prog
    refine H.condS (b := x.2.2.2.1) (by kernel_rfl) (by kernel_rfl) (fun hb => ?_) (fun hb => ?_)
    · rw [if_pos hb] at h
      refine H.seqP (by kernel_rfl) ?_
      refine H.regP (by kernel_rfl) ?_
      refine HO.goP 1 (by kernel_rfl) ?_
      refine HO.done (by kernel_rfl) ?_
      refine Kseq_norm ?_
      refine H.retP (by kernel_rfl) ?_
      refine Kblock_ret ?_
      refine Kseq_ret ?_
      refine Kloop_ret ?_
      refine Kblock_ret ?_
      refine Kseq_ret ?_
      obtain rfl := Option.some.inj h
      exact KEnd.ret (by kernel_rfl) (by kernel_rfl) (by kernel_rfl)
    · rw [if_neg (ne_true hb)] at h
      refine H.skipP (by kernel_rfl) ?_
      refine Kblock_norm ?_
      refine Kseq_norm ?_
      refine H.regP (by kernel_rfl) ?_
      refine HO.goP 3 (by kernel_rfl) ?_
      refine HO.done (by kernel_rfl) ?_
      refine Kloop_norm ?_
      exact HL.ren hS [0] _ _ _ (by kernel_rfl) (ih_law_L6 (x.1, x.2.1, (IntKind.i64.wrap (x.2.2.1 + 1)), x.2.2.2.2.1, x.2.2.2.2.2.1, x.2.2.2.2.2.2.1, x.2.2.2.2.2.2.2.1, x.2.2.2.2.2.2.2.2) r h W0 w0 S hS HLV)
  · intro g_law_L7 ih_law_L7 x r h
    intro W0 w0 S hS
    intro HLV
    haveI := hS.noEx Tryd.prog
    refine HL.round ?_
    refine H.seqP (by kernel_rfl) ?_
    refine H.seqP (by kernel_rfl) ?_
    refine H.regP (by kernel_rfl) ?_
    refine HO.goP 2 (by kernel_rfl) ?_
    refine HO.len (by kernel_rfl) (by kernel_rfl) (ls_size (encI .u8) x.2.1) ?_
    refine HO.goP 1 (by kernel_rfl) ?_
    refine HO.boolP (decide (x.2.2.1 < (x.2.1.length : Int))) (by kernel_rfl) (by kernel_rfl) (fun hb => ?_) (fun hb => ?_)
    · rw [if_pos (of_decide_eq_true hb)] at h
      refine HO.goP 3 (by kernel_rfl) ?_
      refine HO.done (by kernel_rfl) ?_
      refine Kseq_norm ?_
      exact H.ren hS [0] _ _ _ (by kernel_rfl) (ih_law_L7 (x.1, x.2.1, x.2.2.1, (decide (x.2.2.1 < 60)), x.2.2.2.1, x.2.2.2.2.1, x.2.2.2.2.2.1, x.2.2.2.2.2.2.1, x.2.2.2.2.2.2.2) r h W0 w0 S hS HLV)
    · rw [if_neg (of_decide_eq_false hb)] at h
      refine HO.goP 3 (by kernel_rfl) ?_
      refine HO.done (by kernel_rfl) ?_
      refine Kseq_norm ?_
      exact H.ren hS [0] _ _ _ (by kernel_rfl) (ih_law_L7 (x.1, x.2.1, x.2.2.1, false, x.2.2.2.1, x.2.2.2.2.1, x.2.2.2.2.2.1, x.2.2.2.2.2.2.1, x.2.2.2.2.2.2.2) r h W0 w0 S hS HLV)
  · intro g_law_L8 ih_law_L8 x r h
    intro W0 w0 S hS
    intro HLV
    haveI := hS.noEx Tryd.prog
    refine H.condS (b := x.2.2.2.1) (by kernel_rfl) (by kernel_rfl) (fun hb => ?_) (fun hb => ?_)
    · rw [if_pos hb] at h
      refine H.skipP (by kernel_rfl) ?_
      refine Kseq_norm ?_
      refine H.seqP (by kernel_rfl) ?_
      refine H.blockI 1 (by kernel_rfl) ?_
      refine H.seqP (by kernel_rfl) ?_
      refine H.regP (by kernel_rfl) ?_
      refine HO.goP 2 (by kernel_rfl) ?_
      refine HO.len (by kernel_rfl) (by kernel_rfl) (ls_size (encI .u8) x.2.1) ?_
      refine HO.goP 3 (by kernel_rfl) ?_
      refine HO.wk 120 (.list 1 false) (v' := ls 1 false (encI .u8) x.2.1) (by kernel_rfl) ?_
      obtain ⟨y22, hy, h⟩ := bindS h
      refine HO.valA (sl2_aop (enc := (encI .u8)) (k := 1) (j := .i64) hy (by kernel_rfl)) ?_
      obtain ⟨y23, hy, h⟩ := bindS h
      refine HO.callW hS [.list 1 false] (first_ok y22 y23 hy W0) (by kernel_rfl) (by kernel_rfl) ?_
      refine HO.goP 8 (by kernel_rfl) ?_
      refine HO.done (by kernel_rfl) ?_
      refine Kseq_norm ?_
      refine H.seqP (by kernel_rfl) ?_
      refine H.regP (by kernel_rfl) ?_
      refine HO.goP 2 (by kernel_rfl) ?_
      refine HO.boolP (!decide (y23.2.2.2.2.2.2 = 4)) (by kernel_rfl) (by kernel_rfl) (fun hb => ?_) (fun hb => ?_)
      · rw [if_pos hb] at h
        refine HO.goP 3 (by kernel_rfl) ?_
        refine HO.done (by kernel_rfl) ?_
        refine Kseq_norm ?_
        exact H.ren hS [0] _ _ _ (by kernel_rfl) (ih_law_L8 (x.1, x.2.1, x.2.2.1, true, x.2.2.2.2.1, x.2.2.2.2.2.1, x.2.2.2.2.2.2.1, x.2.2.2.2.2.2.2.1, x.2.2.2.2.2.2.2.2) r h W0 w0 S hS HLV)
      · rw [if_neg (ne_true hb)] at h
        refine HO.goP 3 (by kernel_rfl) ?_
        refine HO.done (by kernel_rfl) ?_
        refine Kseq_norm ?_
        exact H.ren hS [0] _ _ _ (by kernel_rfl) (ih_law_L8 (x.1, x.2.1, x.2.2.1, (!decide (y23.2.2.2.2.2.1 = 0)), x.2.2.2.2.1, x.2.2.2.2.2.1, x.2.2.2.2.2.2.1, x.2.2.2.2.2.2.2.1, x.2.2.2.2.2.2.2.2) r h W0 w0 S hS HLV)
    · rw [if_neg (ne_true hb)] at h
      refine H.exitI 0 (by kernel_rfl) ?_
      refine Kseq_exit ?_
      refine Kloop_exit ?_
      refine Kblock_hit ?_
      refine Kseq_norm ?_
      refine H.seqP (by kernel_rfl) ?_
      refine H.regP (by kernel_rfl) ?_
      refine HO.goP 1 (by kernel_rfl) ?_
      obtain ⟨y24, hy, h⟩ := bindS h
      refine HO.callW hS [.list 1 false] (isCanonical_ok x.2.1 y24 hy W0) (by kernel_rfl) (by kernel_rfl) ?_
      refine HO.goP 2 (by kernel_rfl) ?_
      refine HO.boolP (decide (x.1 = 0)) (by kernel_rfl) (by kernel_rfl) (fun hb => ?_) (fun hb => ?_)
      · rw [if_pos (of_decide_eq_true hb)] at h
        refine HO.goP 6 (by kernel_rfl) ?_
        refine HO.boolP (y24 == true) (by kernel_rfl) (by kernel_rfl) (fun hb => ?_) (fun hb => ?_)
        · rw [if_pos hb] at h
          refine HO.callW hS [] HLV (by kernel_rfl) (by kernel_rfl) ?_
          refine HO.goP 2 (by kernel_rfl) ?_
          refine HO.done (by kernel_rfl) ?_
          refine Kseq_norm ?_
          exact H.ren hS [] _ _ _ (by kernel_rfl) (law_L9_ok true r h W0 w0 S hS HLV)
        · rw [if_neg (ne_true hb)] at h
          refine HO.goP 3 (by kernel_rfl) ?_
          refine HO.done (by kernel_rfl) ?_
          refine Kseq_norm ?_
          exact H.ren hS [] _ _ _ (by kernel_rfl) (law_L9_ok false r h W0 w0 S hS HLV)
      · rw [if_neg (of_decide_eq_false hb)] at h
        refine HO.goP 2 (by kernel_rfl) ?_
        obtain ⟨y25, hy, h⟩ := bindS h
        refine HO.callW hS [.agg [.keep, .keep, .keep, .list 1 false, .list 5 false]] (canonical_ok (x.2.2.2.2.1, x.2.2.2.2.2.1, x.2.2.2.2.2.2.1, x.2.2.2.2.2.2.2.1, x.2.2.2.2.2.2.2.2) y25 hy W0) (by kernel_rfl) (by kernel_rfl) ?_
        obtain ⟨y26, hy, h⟩ := bindS h
        refine HO.callW hS [.list 1 false, .list 1 false] (sameS_ok (x.2.1, y25) y26 hy W0) (by kernel_rfl) (by kernel_rfl) ?_
        refine HO.goP 2 (by kernel_rfl) ?_
        refine HO.boolP (y24 == y26) (by kernel_rfl) (by kernel_rfl) (fun hb => ?_) (fun hb => ?_)
        · rw [if_pos hb] at h
          refine HO.callW hS [] HLV (by kernel_rfl) (by kernel_rfl) ?_
          refine HO.goP 2 (by kernel_rfl) ?_
          refine HO.done (by kernel_rfl) ?_
          refine Kseq_norm ?_
          exact H.ren hS [] _ _ _ (by kernel_rfl) (law_L9_ok true r h W0 w0 S hS HLV)
        · rw [if_neg (ne_true hb)] at h
          refine HO.goP 3 (by kernel_rfl) ?_
          refine HO.done (by kernel_rfl) ?_
          refine Kseq_norm ?_
          exact H.ren hS [] _ _ _ (by kernel_rfl) (law_L9_ok false r h W0 w0 S hS HLV)
theorem law_L8_ok : ∀ (x : Int × (List Int) × Int × Bool × Int × Int × Bool × (List Int) × (List S36)) (r : Bool), law_L8 x = some r → ∀ (W0 w0 : World) (S : Own), Std W0 w0 S 0 → PTo Tryd.prog W0 10 #[] (.returned (.bool true)) → H Tryd.prog w0 S 151 (cR (cR (cL (cL (cR (cL (cL (cR (cL (cR (cR (cR (cR (cR (cR (cR (cR (cR (cR (cB Tryd.f5)))))))))))))))))))) (mkS [(7, .pointer (some ⟨0, 0, none⟩)), (8, .int .u8 x.1), (9, ls 1 true (encI .u8) x.2.1), (18, .int .i64 x.2.2.1), (136, .bool x.2.2.2.1)] [(0, .cells [.int .u8 x.2.2.2.2.1, .int .u32 x.2.2.2.2.2.1, .bool x.2.2.2.2.2.2.1, ls 1 false (encI .u8) x.2.2.2.2.2.2.2.1, ls 5 false enc36 x.2.2.2.2.2.2.2.2] 36 5)] 1 []) (Kblock 1 (Kseq Tryd.prog w0 S 151 (cR (cR (cL (cL (cR (cL (cR (cR (cR (cR (cR (cR (cR (cR (cR (cR (cB Tryd.f5))))))))))))))))) (Kloop Tryd.prog w0 S 151 (cL (cL (cR (cL (cR (cR (cR (cR (cR (cR (cR (cR (cR (cR (cB Tryd.f5))))))))))))))) (Kblock 0 (Kseq Tryd.prog w0 S 151 (cR (cR (cR (cR (cR (cR (cR (cR (cR (cR (cR (cB Tryd.f5)))))))))))) (KEnd Tryd.prog Tryd.f5 (PEnd w0 S (.returned (.bool r))))))))) := law_L8_grp.1
theorem law_L6_ok : ∀ (x : Int × (List Int) × Int × Int × Int × Bool × (List Int) × (List S36)) (r : Bool), law_L6 x = some r → ∀ (W0 w0 : World) (S : Own), Std W0 w0 S 0 → PTo Tryd.prog W0 10 #[] (.returned (.bool true)) → HL Tryd.prog w0 S 151 (cL (cL (cR (cL (cR (cR (cR (cR (cR (cR (cR (cR (cR (cR (cB Tryd.f5))))))))))))))) (mkS [(7, .pointer (some ⟨0, 0, none⟩)), (8, .int .u8 x.1), (9, ls 1 true (encI .u8) x.2.1), (18, .int .i64 x.2.2.1)] [(0, .cells [.int .u8 x.2.2.2.1, .int .u32 x.2.2.2.2.1, .bool x.2.2.2.2.2.1, ls 1 false (encI .u8) x.2.2.2.2.2.2.1, ls 5 false enc36 x.2.2.2.2.2.2.2] 36 5)] 1 []) (Kblock 0 (Kseq Tryd.prog w0 S 151 (cR (cR (cR (cR (cR (cR (cR (cR (cR (cR (cR (cB Tryd.f5)))))))))))) (KEnd Tryd.prog Tryd.f5 (PEnd w0 S (.returned (.bool r)))))) := law_L8_grp.2.1
theorem law_L7_ok : ∀ (x : Int × (List Int) × Int × Bool × Int × Int × Bool × (List Int) × (List S36)) (r : Bool), law_L7 x = some r → ∀ (W0 w0 : World) (S : Own), Std W0 w0 S 0 → PTo Tryd.prog W0 10 #[] (.returned (.bool true)) → H Tryd.prog w0 S 151 (cR (cL (cL (cL (cR (cL (cR (cR (cR (cR (cR (cR (cR (cR (cR (cR (cB Tryd.f5))))))))))))))))) (mkS [(7, .pointer (some ⟨0, 0, none⟩)), (8, .int .u8 x.1), (9, ls 1 true (encI .u8) x.2.1), (18, .int .i64 x.2.2.1), (116, .bool x.2.2.2.1)] [(0, .cells [.int .u8 x.2.2.2.2.1, .int .u32 x.2.2.2.2.2.1, .bool x.2.2.2.2.2.2.1, ls 1 false (encI .u8) x.2.2.2.2.2.2.2.1, ls 5 false enc36 x.2.2.2.2.2.2.2.2] 36 5)] 1 []) (Kseq Tryd.prog w0 S 151 (cR (cL (cL (cR (cL (cR (cR (cR (cR (cR (cR (cR (cR (cR (cR (cB Tryd.f5)))))))))))))))) (Kloop Tryd.prog w0 S 151 (cL (cL (cR (cL (cR (cR (cR (cR (cR (cR (cR (cR (cR (cR (cB Tryd.f5))))))))))))))) (Kblock 0 (Kseq Tryd.prog w0 S 151 (cR (cR (cR (cR (cR (cR (cR (cR (cR (cR (cR (cB Tryd.f5)))))))))))) (KEnd Tryd.prog Tryd.f5 (PEnd w0 S (.returned (.bool r)))))))) := law_L8_grp.2.2
def law_L5 (x : Int × (List Int) × Bool × Int × Int × Bool × (List Int) × (List S36)) : Option (Bool) :=
  if x.2.2.1 = true then
    some false
  else
    law_L6 (x.1, x.2.1, 0, x.2.2.2.1, x.2.2.2.2.1, x.2.2.2.2.2.1, x.2.2.2.2.2.2.1, x.2.2.2.2.2.2.2)
theorem law_L5_ok : ∀ (x : Int × (List Int) × Bool × Int × Int × Bool × (List Int) × (List S36)) (r : Bool), law_L5 x = some r → ∀ (W0 w0 : World) (S : Own), Std W0 w0 S 0 → PTo Tryd.prog W0 10 #[] (.returned (.bool true)) → H Tryd.prog w0 S 151 (cR (cL (cR (cR (cR (cR (cR (cR (cR (cR (cR (cB Tryd.f5)))))))))))) (mkS [(7, .pointer (some ⟨0, 0, none⟩)), (8, .int .u8 x.1), (9, ls 1 true (encI .u8) x.2.1), (108, .bool x.2.2.1)] [(0, .cells [.int .u8 x.2.2.2.1, .int .u32 x.2.2.2.2.1, .bool x.2.2.2.2.2.1, ls 1 false (encI .u8) x.2.2.2.2.2.2.1, ls 5 false enc36 x.2.2.2.2.2.2.2] 36 5)] 1 []) (Kseq Tryd.prog w0 S 151 (cR (cR (cR (cR (cR (cR (cR (cR (cR (cR (cB Tryd.f5))))))))))) (KEnd Tryd.prog Tryd.f5 (PEnd w0 S (.returned (.bool r))))) := by
  intro x r h
  unfold law_L5 at h
  intro W0 w0 S hS
  intro HLV
  haveI := hS.noEx Tryd.prog
  refine H.condS (b := x.2.2.1) (by kernel_rfl) (by kernel_rfl) (fun hb => ?_) (fun hb => ?_)
  · rw [if_pos hb] at h
    refine H.seqP (by kernel_rfl) ?_
    refine H.regP (by kernel_rfl) ?_
    refine HO.goP 1 (by kernel_rfl) ?_
    refine HO.done (by kernel_rfl) ?_
    refine Kseq_norm ?_
    refine H.retP (by kernel_rfl) ?_
    refine Kseq_ret ?_
    obtain rfl := Option.some.inj h
    exact KEnd.ret (by kernel_rfl) (by kernel_rfl) (by kernel_rfl)
  · rw [if_neg (ne_true hb)] at h
    refine H.skipP (by kernel_rfl) ?_
    refine Kseq_norm ?_
    refine H.seqP (by kernel_rfl) ?_
    refine H.seqP (by kernel_rfl) ?_
    refine H.regP (by kernel_rfl) ?_
    refine HO.goP 1 (by kernel_rfl) ?_
    refine HO.done (by kernel_rfl) ?_
    refine Kseq_norm ?_
    refine H.blockI 0 (by kernel_rfl) ?_
    refine H.loopP (by kernel_rfl) ?_
    exact HL.ren hS [0] _ _ _ (by kernel_rfl) (law_L6_ok (x.1, x.2.1, 0, x.2.2.2.1, x.2.2.2.2.1, x.2.2.2.2.2.1, x.2.2.2.2.2.2.1, x.2.2.2.2.2.2.2) r h W0 w0 S hS HLV)
def law_L4 (x : Int × (List Int) × Int × Int × Int × Int × Int × Int × Bool × (List Int) × (List S36) × Int × Int × Bool × (List Int) × (List S36) × Int × Int × Bool × (List Int) × (List S36)) : Option (Bool) :=
  if (!decide (x.2.2.2.1 = 0)) = true then
    law_L5 (x.1, x.2.1, true, x.2.2.2.2.2.2.1, x.2.2.2.2.2.2.2.1, x.2.2.2.2.2.2.2.2.1, x.2.2.2.2.2.2.2.2.2.1, x.2.2.2.2.2.2.2.2.2.2.1)
  else
    if (!decide (x.2.2.1 = (x.2.1.length : Int))) = true then
      law_L5 (x.1, x.2.1, true, x.2.2.2.2.2.2.1, x.2.2.2.2.2.2.2.1, x.2.2.2.2.2.2.2.2.1, x.2.2.2.2.2.2.2.2.2.1, x.2.2.2.2.2.2.2.2.2.2.1)
    else
      (sameT (x.2.2.2.2.2.2.2.2.2.2.2.1, x.2.2.2.2.2.2.2.2.2.2.2.2.1, x.2.2.2.2.2.2.2.2.2.2.2.2.2.1, x.2.2.2.2.2.2.2.2.2.2.2.2.2.2.1, x.2.2.2.2.2.2.2.2.2.2.2.2.2.2.2.1, x.2.2.2.2.2.2.1, x.2.2.2.2.2.2.2.1, x.2.2.2.2.2.2.2.2.1, x.2.2.2.2.2.2.2.2.2.1, x.2.2.2.2.2.2.2.2.2.2.1)) >>= fun y17 =>
      if (!y17) = true then
        law_L5 (x.1, x.2.1, true, x.2.2.2.2.2.2.1, x.2.2.2.2.2.2.2.1, x.2.2.2.2.2.2.2.2.1, x.2.2.2.2.2.2.2.2.2.1, x.2.2.2.2.2.2.2.2.2.2.1)
      else
        (flat (x.2.2.2.2.2.2.2.2.2.2.2.1, x.2.2.2.2.2.2.2.2.2.2.2.2.1, x.2.2.2.2.2.2.2.2.2.2.2.2.2.1, x.2.2.2.2.2.2.2.2.2.2.2.2.2.2.1, x.2.2.2.2.2.2.2.2.2.2.2.2.2.2.2.1)) >>= fun y18 =>
        (flat (x.2.2.2.2.2.2.1, x.2.2.2.2.2.2.2.1, x.2.2.2.2.2.2.2.2.1, x.2.2.2.2.2.2.2.2.2.1, x.2.2.2.2.2.2.2.2.2.2.1)) >>= fun y19 =>
        (alike (y18, y19)) >>= fun y20 =>
        if (!y20) = true then
          law_L5 (x.1, x.2.1, true, x.2.2.2.2.2.2.1, x.2.2.2.2.2.2.2.1, x.2.2.2.2.2.2.2.2.1, x.2.2.2.2.2.2.2.2.2.1, x.2.2.2.2.2.2.2.2.2.2.1)
        else
          if (!decide (x.2.2.2.2.1 = 0)) = true then
            law_L5 (x.1, x.2.1, true, x.2.2.2.2.2.2.1, x.2.2.2.2.2.2.2.1, x.2.2.2.2.2.2.2.2.1, x.2.2.2.2.2.2.2.2.2.1, x.2.2.2.2.2.2.2.2.2.2.1)
          else
            (sameT (x.2.2.2.2.2.2.2.2.2.2.2.2.2.2.2.2.1, x.2.2.2.2.2.2.2.2.2.2.2.2.2.2.2.2.2.1, x.2.2.2.2.2.2.2.2.2.2.2.2.2.2.2.2.2.2.1, x.2.2.2.2.2.2.2.2.2.2.2.2.2.2.2.2.2.2.2.1, x.2.2.2.2.2.2.2.2.2.2.2.2.2.2.2.2.2.2.2.2, x.2.2.2.2.2.2.1, x.2.2.2.2.2.2.2.1, x.2.2.2.2.2.2.2.2.1, x.2.2.2.2.2.2.2.2.2.1, x.2.2.2.2.2.2.2.2.2.2.1)) >>= fun y21 =>
            if (!y21) = true then
              law_L5 (x.1, x.2.1, true, x.2.2.2.2.2.2.1, x.2.2.2.2.2.2.2.1, x.2.2.2.2.2.2.2.2.1, x.2.2.2.2.2.2.2.2.2.1, x.2.2.2.2.2.2.2.2.2.2.1)
            else
              law_L5 (x.1, x.2.1, (!decide (x.2.2.2.2.2.1 = 4)), x.2.2.2.2.2.2.1, x.2.2.2.2.2.2.2.1, x.2.2.2.2.2.2.2.2.1, x.2.2.2.2.2.2.2.2.2.1, x.2.2.2.2.2.2.2.2.2.2.1)
theorem law_L4_ok : ∀ (x : Int × (List Int) × Int × Int × Int × Int × Int × Int × Bool × (List Int) × (List S36) × Int × Int × Bool × (List Int) × (List S36) × Int × Int × Bool × (List Int) × (List S36)) (r : Bool), law_L4 x = some r → ∀ (W0 w0 : World) (S : Own), Std W0 w0 S 0 → PTo Tryd.prog W0 10 #[] (.returned (.bool true)) → H Tryd.prog w0 S 151 (cR (cR (cR (cR (cR (cR (cR (cR (cR (cB Tryd.f5)))))))))) (mkS [(7, .pointer (some ⟨0, 0, none⟩)), (8, .int .u8 x.1), (9, ls 1 true (encI .u8) x.2.1), (11, .pointer (some ⟨1, 0, none⟩)), (12, .int .i64 x.2.2.1), (13, .int .i64 x.2.2.2.1), (14, .pointer (some ⟨2, 0, none⟩)), (15, .int .i64 x.2.2.2.2.1), (17, .int .i64 x.2.2.2.2.2.1)] [(0, .cells [.int .u8 x.2.2.2.2.2.2.1, .int .u32 x.2.2.2.2.2.2.2.1, .bool x.2.2.2.2.2.2.2.2.1, ls 1 false (encI .u8) x.2.2.2.2.2.2.2.2.2.1, ls 5 false enc36 x.2.2.2.2.2.2.2.2.2.2.1] 36 5), (1, .cells [.int .u8 x.2.2.2.2.2.2.2.2.2.2.2.1, .int .u32 x.2.2.2.2.2.2.2.2.2.2.2.2.1, .bool x.2.2.2.2.2.2.2.2.2.2.2.2.2.1, ls 1 false (encI .u8) x.2.2.2.2.2.2.2.2.2.2.2.2.2.2.1, ls 5 false enc36 x.2.2.2.2.2.2.2.2.2.2.2.2.2.2.2.1] 36 5), (2, .cells [.int .u8 x.2.2.2.2.2.2.2.2.2.2.2.2.2.2.2.2.1, .int .u32 x.2.2.2.2.2.2.2.2.2.2.2.2.2.2.2.2.2.1, .bool x.2.2.2.2.2.2.2.2.2.2.2.2.2.2.2.2.2.2.1, ls 1 false (encI .u8) x.2.2.2.2.2.2.2.2.2.2.2.2.2.2.2.2.2.2.2.1, ls 5 false enc36 x.2.2.2.2.2.2.2.2.2.2.2.2.2.2.2.2.2.2.2.2] 36 5)] 3 []) (KEnd Tryd.prog Tryd.f5 (PEnd w0 S (.returned (.bool r)))) := by
  intro x r h
  unfold law_L4 at h
  intro W0 w0 S hS
  intro HLV
  haveI := hS.noEx Tryd.prog
  refine H.seqP (by kernel_rfl) ?_
  refine H.seqP (by kernel_rfl) ?_
  refine H.drawQ ?_
  refine HQ.goP 2 (by kernel_rfl) ?_
  refine HQ.boolP (!decide (x.2.2.2.1 = 0)) (by kernel_rfl) (by kernel_rfl) (fun hb => ?_) (fun hb => ?_)
  · rw [if_pos hb] at h
    refine HQ.goP 33 (by kernel_rfl) ?_
    refine HQ.calm (by kernel_rfl) (by kernel_rfl) (by kernel_rfl) (by kernel_rfl) ?_
    refine Kseq_norm ?_
    exact H.ren hS [0] _ _ _ (by kernel_rfl) (law_L5_ok (x.1, x.2.1, true, x.2.2.2.2.2.2.1, x.2.2.2.2.2.2.2.1, x.2.2.2.2.2.2.2.2.1, x.2.2.2.2.2.2.2.2.2.1, x.2.2.2.2.2.2.2.2.2.2.1) r h W0 w0 S hS HLV)
  · rw [if_neg (ne_true hb)] at h
    refine HQ.goP 2 (by kernel_rfl) ?_
    refine HQ.len (by kernel_rfl) (ls_size (encI .u8) x.2.1) ?_
    refine HQ.goP 2 (by kernel_rfl) ?_
    refine HQ.boolP (!decide (x.2.2.1 = (x.2.1.length : Int))) (by kernel_rfl) (by kernel_rfl) (fun hb => ?_) (fun hb => ?_)
    · rw [if_pos hb] at h
      refine HQ.goP 27 (by kernel_rfl) ?_
      refine HQ.calm (by kernel_rfl) (by kernel_rfl) (by kernel_rfl) (by kernel_rfl) ?_
      refine Kseq_norm ?_
      exact H.ren hS [0] _ _ _ (by kernel_rfl) (law_L5_ok (x.1, x.2.1, true, x.2.2.2.2.2.2.1, x.2.2.2.2.2.2.2.1, x.2.2.2.2.2.2.2.2.1, x.2.2.2.2.2.2.2.2.2.1, x.2.2.2.2.2.2.2.2.2.2.1) r h W0 w0 S hS HLV)
    · rw [if_neg (ne_true hb)] at h
      refine HQ.goP 2 (by kernel_rfl) ?_
      obtain ⟨y17, hy, h⟩ := bindS h
      refine HQ.callW hS [.agg [.keep, .keep, .keep, .list 1 false, .list 5 false], .agg [.keep, .keep, .keep, .list 1 false, .list 5 false]] (sameT_ok (x.2.2.2.2.2.2.2.2.2.2.2.1, x.2.2.2.2.2.2.2.2.2.2.2.2.1, x.2.2.2.2.2.2.2.2.2.2.2.2.2.1, x.2.2.2.2.2.2.2.2.2.2.2.2.2.2.1, x.2.2.2.2.2.2.2.2.2.2.2.2.2.2.2.1, x.2.2.2.2.2.2.1, x.2.2.2.2.2.2.2.1, x.2.2.2.2.2.2.2.2.1, x.2.2.2.2.2.2.2.2.2.1, x.2.2.2.2.2.2.2.2.2.2.1) y17 hy W0) (by kernel_rfl) (by kernel_rfl) ?_
      refine HQ.goP 2 (by kernel_rfl) ?_
      refine HQ.boolP (!y17) (by kernel_rfl) (by kernel_rfl) (fun hb => ?_) (fun hb => ?_)
      · rw [if_pos hb] at h
        refine HQ.goP 21 (by kernel_rfl) ?_
        refine HQ.calm (by kernel_rfl) (by kernel_rfl) (by kernel_rfl) (by kernel_rfl) ?_
        refine Kseq_norm ?_
        exact H.ren hS [0] _ _ _ (by kernel_rfl) (law_L5_ok (x.1, x.2.1, true, x.2.2.2.2.2.2.1, x.2.2.2.2.2.2.2.1, x.2.2.2.2.2.2.2.2.1, x.2.2.2.2.2.2.2.2.2.1, x.2.2.2.2.2.2.2.2.2.2.1) r h W0 w0 S hS HLV)
      · rw [if_neg (ne_true hb)] at h
        refine HQ.goP 1 (by kernel_rfl) ?_
        obtain ⟨y18, hy, h⟩ := bindS h
        refine HQ.callW hS [.agg [.keep, .keep, .keep, .list 1 false, .list 5 false]] (flat_ok (x.2.2.2.2.2.2.2.2.2.2.2.1, x.2.2.2.2.2.2.2.2.2.2.2.2.1, x.2.2.2.2.2.2.2.2.2.2.2.2.2.1, x.2.2.2.2.2.2.2.2.2.2.2.2.2.2.1, x.2.2.2.2.2.2.2.2.2.2.2.2.2.2.2.1) y18 hy W0) (by kernel_rfl) (by kernel_rfl) ?_
        refine HQ.goP 1 (by kernel_rfl) ?_
        obtain ⟨y19, hy, h⟩ := bindS h
        refine HQ.callW hS [.agg [.keep, .keep, .keep, .list 1 false, .list 5 false]] (flat_ok (x.2.2.2.2.2.2.1, x.2.2.2.2.2.2.2.1, x.2.2.2.2.2.2.2.2.1, x.2.2.2.2.2.2.2.2.2.1, x.2.2.2.2.2.2.2.2.2.2.1) y19 hy W0) (by kernel_rfl) (by kernel_rfl) ?_
        obtain ⟨y20, hy, h⟩ := bindS h
        refine HQ.callW hS [.list 5 false, .list 5 false] (alike_ok (y18, y19) y20 hy W0) (by kernel_rfl) (by kernel_rfl) ?_
        refine HQ.goP 2 (by kernel_rfl) ?_
        refine HQ.boolP (!y20) (by kernel_rfl) (by kernel_rfl) (fun hb => ?_) (fun hb => ?_)
        · rw [if_pos hb] at h
          refine HQ.goP 13 (by kernel_rfl) ?_
          refine HQ.calm (by kernel_rfl) (by kernel_rfl) (by kernel_rfl) (by kernel_rfl) ?_
          refine Kseq_norm ?_
          exact H.ren hS [0] _ _ _ (by kernel_rfl) (law_L5_ok (x.1, x.2.1, true, x.2.2.2.2.2.2.1, x.2.2.2.2.2.2.2.1, x.2.2.2.2.2.2.2.2.1, x.2.2.2.2.2.2.2.2.2.1, x.2.2.2.2.2.2.2.2.2.2.1) r h W0 w0 S hS HLV)
        · rw [if_neg (ne_true hb)] at h
          refine HQ.goP 3 (by kernel_rfl) ?_
          refine HQ.boolP (!decide (x.2.2.2.2.1 = 0)) (by kernel_rfl) (by kernel_rfl) (fun hb => ?_) (fun hb => ?_)
          · rw [if_pos hb] at h
            refine HQ.goP 9 (by kernel_rfl) ?_
            refine HQ.calm (by kernel_rfl) (by kernel_rfl) (by kernel_rfl) (by kernel_rfl) ?_
            refine Kseq_norm ?_
            exact H.ren hS [0] _ _ _ (by kernel_rfl) (law_L5_ok (x.1, x.2.1, true, x.2.2.2.2.2.2.1, x.2.2.2.2.2.2.2.1, x.2.2.2.2.2.2.2.2.1, x.2.2.2.2.2.2.2.2.2.1, x.2.2.2.2.2.2.2.2.2.2.1) r h W0 w0 S hS HLV)
          · rw [if_neg (ne_true hb)] at h
            refine HQ.goP 2 (by kernel_rfl) ?_
            obtain ⟨y21, hy, h⟩ := bindS h
            refine HQ.callW hS [.agg [.keep, .keep, .keep, .list 1 false, .list 5 false], .agg [.keep, .keep, .keep, .list 1 false, .list 5 false]] (sameT_ok (x.2.2.2.2.2.2.2.2.2.2.2.2.2.2.2.2.1, x.2.2.2.2.2.2.2.2.2.2.2.2.2.2.2.2.2.1, x.2.2.2.2.2.2.2.2.2.2.2.2.2.2.2.2.2.2.1, x.2.2.2.2.2.2.2.2.2.2.2.2.2.2.2.2.2.2.2.1, x.2.2.2.2.2.2.2.2.2.2.2.2.2.2.2.2.2.2.2.2, x.2.2.2.2.2.2.1, x.2.2.2.2.2.2.2.1, x.2.2.2.2.2.2.2.2.1, x.2.2.2.2.2.2.2.2.2.1, x.2.2.2.2.2.2.2.2.2.2.1) y21 hy W0) (by kernel_rfl) (by kernel_rfl) ?_
            refine HQ.goP 2 (by kernel_rfl) ?_
            refine HQ.boolP (!y21) (by kernel_rfl) (by kernel_rfl) (fun hb => ?_) (fun hb => ?_)
            · rw [if_pos hb] at h
              refine HQ.goP 3 (by kernel_rfl) ?_
              refine HQ.calm (by kernel_rfl) (by kernel_rfl) (by kernel_rfl) (by kernel_rfl) ?_
              refine Kseq_norm ?_
              exact H.ren hS [0] _ _ _ (by kernel_rfl) (law_L5_ok (x.1, x.2.1, true, x.2.2.2.2.2.2.1, x.2.2.2.2.2.2.2.1, x.2.2.2.2.2.2.2.2.1, x.2.2.2.2.2.2.2.2.2.1, x.2.2.2.2.2.2.2.2.2.2.1) r h W0 w0 S hS HLV)
            · rw [if_neg (ne_true hb)] at h
              refine HQ.goP 3 (by kernel_rfl) ?_
              refine HQ.calm (by kernel_rfl) (by kernel_rfl) (by kernel_rfl) (by kernel_rfl) ?_
              refine Kseq_norm ?_
              exact H.ren hS [0] _ _ _ (by kernel_rfl) (law_L5_ok (x.1, x.2.1, (!decide (x.2.2.2.2.2.1 = 4)), x.2.2.2.2.2.2.1, x.2.2.2.2.2.2.2.1, x.2.2.2.2.2.2.2.2.1, x.2.2.2.2.2.2.2.2.2.1, x.2.2.2.2.2.2.2.2.2.2.1) r h W0 w0 S hS HLV)
def law_L3 (x : Int × (List Int) × Int × Int × Int × Int × Bool × (List Int) × (List S36) × Int × Int × Bool × (List Int) × (List S36)) : Option (Bool) :=
  (decode x.2.1) >>= fun y11 =>
  (app' 1 [] x.2.1) >>= fun y12 =>
  if x.2.1.length = 0 then
    (app' 1 [] [7]) >>= fun y13 =>
    (decode y13) >>= fun y14 =>
    law_L4 (x.1, x.2.1, x.2.2.1, x.2.2.2.1, y11.2.2.2.2.2, y14.2.2.2.2.2, x.2.2.2.2.1, x.2.2.2.2.2.1, x.2.2.2.2.2.2.1, x.2.2.2.2.2.2.2.1, x.2.2.2.2.2.2.2.2.1, x.2.2.2.2.2.2.2.2.2.1, x.2.2.2.2.2.2.2.2.2.2.1, x.2.2.2.2.2.2.2.2.2.2.2.1, x.2.2.2.2.2.2.2.2.2.2.2.2.1, x.2.2.2.2.2.2.2.2.2.2.2.2.2, y11.1, y11.2.1, y11.2.2.1, y11.2.2.2.1, y11.2.2.2.2.1)
  else
    (app' 1 y12 [7]) >>= fun y15 =>
    (decode y15) >>= fun y16 =>
    law_L4 (x.1, x.2.1, x.2.2.1, x.2.2.2.1, y11.2.2.2.2.2, y16.2.2.2.2.2, x.2.2.2.2.1, x.2.2.2.2.2.1, x.2.2.2.2.2.2.1, x.2.2.2.2.2.2.2.1, x.2.2.2.2.2.2.2.2.1, x.2.2.2.2.2.2.2.2.2.1, x.2.2.2.2.2.2.2.2.2.2.1, x.2.2.2.2.2.2.2.2.2.2.2.1, x.2.2.2.2.2.2.2.2.2.2.2.2.1, x.2.2.2.2.2.2.2.2.2.2.2.2.2, y11.1, y11.2.1, y11.2.2.1, y11.2.2.2.1, y11.2.2.2.2.1)
theorem law_L3_ok : ∀ (x : Int × (List Int) × Int × Int × Int × Int × Bool × (List Int) × (List S36) × Int × Int × Bool × (List Int) × (List S36)) (r : Bool), law_L3 x = some r → ∀ (W0 w0 : World) (S : Own), Std W0 w0 S 0 → PTo Tryd.prog W0 10 #[] (.returned (.bool true)) → H Tryd.prog w0 S 151 (cR (cR (cR (cR (cR (cR (cR (cB Tryd.f5)))))))) (mkS [(7, .pointer (some ⟨0, 0, none⟩)), (8, .int .u8 x.1), (9, ls 1 true (encI .u8) x.2.1), (11, .pointer (some ⟨1, 0, none⟩)), (12, .int .i64 x.2.2.1), (13, .int .i64 x.2.2.2.1)] [(0, .cells [.int .u8 x.2.2.2.2.1, .int .u32 x.2.2.2.2.2.1, .bool x.2.2.2.2.2.2.1, ls 1 false (encI .u8) x.2.2.2.2.2.2.2.1, ls 5 false enc36 x.2.2.2.2.2.2.2.2.1] 36 5), (1, .cells [.int .u8 x.2.2.2.2.2.2.2.2.2.1, .int .u32 x.2.2.2.2.2.2.2.2.2.2.1, .bool x.2.2.2.2.2.2.2.2.2.2.2.1, ls 1 false (encI .u8) x.2.2.2.2.2.2.2.2.2.2.2.2.1, ls 5 false enc36 x.2.2.2.2.2.2.2.2.2.2.2.2.2] 36 5)] 2 []) (KEnd Tryd.prog Tryd.f5 (PEnd w0 S (.returned (.bool r)))) := by
  intro x r h
  unfold law_L3 at h
  intro W0 w0 S hS
  intro HLV
  haveI := hS.noEx Tryd.prog
  refine H.seqP (by kernel_rfl) ?_
  refine H.regP (by kernel_rfl) ?_
  refine HO.goP 1 (by kernel_rfl) ?_
  obtain ⟨y11, hy, h⟩ := bindS h
  refine HO.callW hS [.list 1 false] (decode_ok x.2.1 y11 hy W0) (by kernel_rfl) (by kernel_rfl) ?_
  refine HO.goP 6 (by kernel_rfl) ?_
  refine HO.done (by kernel_rfl) ?_
  refine Kseq_norm ?_
  refine H.seqP (by kernel_rfl) ?_
  refine H.regP (by kernel_rfl) ?_
  refine HO.goP 2 (by kernel_rfl) ?_
  refine HO.tkz [65] 3 0 0 1 5 ([].map (encI .u8)).toArray [] (by kernel_rfl) ?_
  obtain ⟨y12, hy, h⟩ := bindS h
  by_cases hb : x.2.1.length = 0
  · rw [if_pos hb] at h
    refine HO.valA (appN_aop (ag := false) [] (encI_ok .u8) hy hb (by kernel_rfl)) ?_
    refine HO.goP 1 (by kernel_rfl) ?_
    obtain ⟨y13, hy, h⟩ := bindS h
    refine HO.effA (app1_aop (enc := (encI .u8)) (k := 1) false 1 [.int .u8 7] [] hy (by kernel_rfl) (by kernel_rfl) (by kernel_rfl)) ?_
    obtain ⟨y14, hy, h⟩ := bindS h
    refine HO.callW hS [.list 1 false] (decode_ok y13 y14 hy W0) (by kernel_rfl) (by kernel_rfl) ?_
    refine HO.goP 6 (by kernel_rfl) ?_
    refine HO.done (by kernel_rfl) ?_
    refine Kseq_norm ?_
    exact H.ren hS [0, 1, 2] _ _ _ (by kernel_rfl) (law_L4_ok (x.1, x.2.1, x.2.2.1, x.2.2.2.1, y11.2.2.2.2.2, y14.2.2.2.2.2, x.2.2.2.2.1, x.2.2.2.2.2.1, x.2.2.2.2.2.2.1, x.2.2.2.2.2.2.2.1, x.2.2.2.2.2.2.2.2.1, x.2.2.2.2.2.2.2.2.2.1, x.2.2.2.2.2.2.2.2.2.2.1, x.2.2.2.2.2.2.2.2.2.2.2.1, x.2.2.2.2.2.2.2.2.2.2.2.2.1, x.2.2.2.2.2.2.2.2.2.2.2.2.2, y11.1, y11.2.1, y11.2.2.1, y11.2.2.2.1, y11.2.2.2.2.1) r h W0 w0 S hS HLV)
  · rw [if_neg hb] at h
    refine HO.effA (appL_aop (ag := false) [] (encI_ok .u8) hy hb (by kernel_rfl)) ?_
    refine HO.goP 1 (by kernel_rfl) ?_
    obtain ⟨y15, hy, h⟩ := bindS h
    refine HO.effA (app1_aop (enc := (encI .u8)) (k := 1) false 1 [.int .u8 7] [] hy (by kernel_rfl) (by kernel_rfl) (by kernel_rfl)) ?_
    obtain ⟨y16, hy, h⟩ := bindS h
    refine HO.callW hS [.list 1 false] (decode_ok y15 y16 hy W0) (by kernel_rfl) (by kernel_rfl) ?_
    refine HO.goP 6 (by kernel_rfl) ?_
    refine HO.done (by kernel_rfl) ?_
    refine Kseq_norm ?_
    exact H.ren hS [0, 1, 2] _ _ _ (by kernel_rfl) (law_L4_ok (x.1, x.2.1, x.2.2.1, x.2.2.2.1, y11.2.2.2.2.2, y16.2.2.2.2.2, x.2.2.2.2.1, x.2.2.2.2.2.1, x.2.2.2.2.2.2.1, x.2.2.2.2.2.2.2.1, x.2.2.2.2.2.2.2.2.1, x.2.2.2.2.2.2.2.2.2.1, x.2.2.2.2.2.2.2.2.2.2.1, x.2.2.2.2.2.2.2.2.2.2.2.1, x.2.2.2.2.2.2.2.2.2.2.2.2.1, x.2.2.2.2.2.2.2.2.2.2.2.2.2, y11.1, y11.2.1, y11.2.2.1, y11.2.2.2.1, y11.2.2.2.2.1) r h W0 w0 S hS HLV)
def law_L2 (x : (List Int) × Int × (List Int) × Bool × Int × Int × Bool × (List Int) × (List S36)) : Option (Bool) :=
  if x.2.2.2.1 = true then
    some false
  else
    (app' 1 [] x.2.2.1) >>= fun y4 =>
    if x.2.2.1.length = 0 then
      (app' 1 [] x.1) >>= fun y5 =>
      if x.1.length = 0 then
        (first []) >>= fun y6 =>
        law_L3 (x.2.1, x.2.2.1, y6.2.2.2.2.2.1, y6.2.2.2.2.2.2, x.2.2.2.2.1, x.2.2.2.2.2.1, x.2.2.2.2.2.2.1, x.2.2.2.2.2.2.2.1, x.2.2.2.2.2.2.2.2, y6.1, y6.2.1, y6.2.2.1, y6.2.2.2.1, y6.2.2.2.2.1)
      else
        (first y5) >>= fun y7 =>
        law_L3 (x.2.1, x.2.2.1, y7.2.2.2.2.2.1, y7.2.2.2.2.2.2, x.2.2.2.2.1, x.2.2.2.2.2.1, x.2.2.2.2.2.2.1, x.2.2.2.2.2.2.2.1, x.2.2.2.2.2.2.2.2, y7.1, y7.2.1, y7.2.2.1, y7.2.2.2.1, y7.2.2.2.2.1)
    else
      (app' 1 y4 x.1) >>= fun y8 =>
      if x.1.length = 0 then
        (first y4) >>= fun y9 =>
        law_L3 (x.2.1, x.2.2.1, y9.2.2.2.2.2.1, y9.2.2.2.2.2.2, x.2.2.2.2.1, x.2.2.2.2.2.1, x.2.2.2.2.2.2.1, x.2.2.2.2.2.2.2.1, x.2.2.2.2.2.2.2.2, y9.1, y9.2.1, y9.2.2.1, y9.2.2.2.1, y9.2.2.2.2.1)
      else
        (first y8) >>= fun y10 =>
        law_L3 (x.2.1, x.2.2.1, y10.2.2.2.2.2.1, y10.2.2.2.2.2.2, x.2.2.2.2.1, x.2.2.2.2.2.1, x.2.2.2.2.2.2.1, x.2.2.2.2.2.2.2.1, x.2.2.2.2.2.2.2.2, y10.1, y10.2.1, y10.2.2.1, y10.2.2.2.1, y10.2.2.2.2.1)
theorem law_L2_ok : ∀ (x : (List Int) × Int × (List Int) × Bool × Int × Int × Bool × (List Int) × (List S36)) (r : Bool), law_L2 x = some r → ∀ (W0 w0 : World) (S : Own), Std W0 w0 S 0 → PTo Tryd.prog W0 10 #[] (.returned (.bool true)) → H Tryd.prog w0 S 151 (cR (cL (cR (cR (cR (cR (cR (cB Tryd.f5)))))))) (mkS [(2, ls 1 false (encI .u8) x.1), (7, .pointer (some ⟨0, 0, none⟩)), (8, .int .u8 x.2.1), (9, ls 1 true (encI .u8) x.2.2.1), (48, .bool x.2.2.2.1)] [(0, .cells [.int .u8 x.2.2.2.2.1, .int .u32 x.2.2.2.2.2.1, .bool x.2.2.2.2.2.2.1, ls 1 false (encI .u8) x.2.2.2.2.2.2.2.1, ls 5 false enc36 x.2.2.2.2.2.2.2.2] 36 5)] 1 []) (Kseq Tryd.prog w0 S 151 (cR (cR (cR (cR (cR (cR (cB Tryd.f5))))))) (KEnd Tryd.prog Tryd.f5 (PEnd w0 S (.returned (.bool r))))) := by
  intro x r h
  unfold law_L2 at h
  intro W0 w0 S hS
  intro HLV
  haveI := hS.noEx Tryd.prog
  refine H.condS (b := x.2.2.2.1) (by kernel_rfl) (by kernel_rfl) (fun hb => ?_) (fun hb => ?_)
  · rw [if_pos hb] at h
    refine H.seqP (by kernel_rfl) ?_
    refine H.regP (by kernel_rfl) ?_
    refine HO.goP 1 (by kernel_rfl) ?_
    refine HO.done (by kernel_rfl) ?_
    refine Kseq_norm ?_
    refine H.retP (by kernel_rfl) ?_
    refine Kseq_ret ?_
    obtain rfl := Option.some.inj h
    exact KEnd.ret (by kernel_rfl) (by kernel_rfl) (by kernel_rfl)
  · rw [if_neg (ne_true hb)] at h
    refine H.skipP (by kernel_rfl) ?_
    refine Kseq_norm ?_
    refine H.seqP (by kernel_rfl) ?_
    refine H.regP (by kernel_rfl) ?_
    refine HO.goP 2 (by kernel_rfl) ?_
    refine HO.tkz [50] 1 0 0 1 5 ([].map (encI .u8)).toArray [] (by kernel_rfl) ?_
    obtain ⟨y4, hy, h⟩ := bindS h
    by_cases hb : x.2.2.1.length = 0
    · rw [if_pos hb] at h
      refine HO.valA (appN_aop (ag := false) [] (encI_ok .u8) hy hb (by kernel_rfl)) ?_
      refine HO.goP 1 (by kernel_rfl) ?_
      obtain ⟨y5, hy, h⟩ := bindS h
      by_cases hb : x.1.length = 0
      · rw [if_pos hb] at h
        refine HO.valA (appN_aop (ag := false) [] (encI_ok .u8) hy hb (by kernel_rfl)) ?_
        obtain ⟨y6, hy, h⟩ := bindS h
        refine HO.callW hS [.list 1 false] (first_ok [] y6 hy W0) (by kernel_rfl) (by kernel_rfl) ?_
        refine HO.goP 8 (by kernel_rfl) ?_
        refine HO.done (by kernel_rfl) ?_
        refine Kseq_norm ?_
        exact H.ren hS [0, 3] _ _ _ (by kernel_rfl) (law_L3_ok (x.2.1, x.2.2.1, y6.2.2.2.2.2.1, y6.2.2.2.2.2.2, x.2.2.2.2.1, x.2.2.2.2.2.1, x.2.2.2.2.2.2.1, x.2.2.2.2.2.2.2.1, x.2.2.2.2.2.2.2.2, y6.1, y6.2.1, y6.2.2.1, y6.2.2.2.1, y6.2.2.2.2.1) r h W0 w0 S hS HLV)
      · rw [if_neg hb] at h
        refine HO.effA (appL_aop (ag := false) [] (encI_ok .u8) hy hb (by kernel_rfl)) ?_
        obtain ⟨y7, hy, h⟩ := bindS h
        refine HO.callW hS [.list 1 false] (first_ok y5 y7 hy W0) (by kernel_rfl) (by kernel_rfl) ?_
        refine HO.goP 8 (by kernel_rfl) ?_
        refine HO.done (by kernel_rfl) ?_
        refine Kseq_norm ?_
        exact H.ren hS [0, 4] _ _ _ (by kernel_rfl) (law_L3_ok (x.2.1, x.2.2.1, y7.2.2.2.2.2.1, y7.2.2.2.2.2.2, x.2.2.2.2.1, x.2.2.2.2.2.1, x.2.2.2.2.2.2.1, x.2.2.2.2.2.2.2.1, x.2.2.2.2.2.2.2.2, y7.1, y7.2.1, y7.2.2.1, y7.2.2.2.1, y7.2.2.2.2.1) r h W0 w0 S hS HLV)
    · rw [if_neg hb] at h
      refine HO.effA (appL_aop (ag := false) [] (encI_ok .u8) hy hb (by kernel_rfl)) ?_
      refine HO.goP 1 (by kernel_rfl) ?_
      obtain ⟨y8, hy, h⟩ := bindS h
      by_cases hb : x.1.length = 0
      · rw [if_pos hb] at h
        refine HO.valA (appN_aop (ag := false) [] (encI_ok .u8) hy hb (by kernel_rfl)) ?_
        obtain ⟨y9, hy, h⟩ := bindS h
        refine HO.callW hS [.list 1 false] (first_ok y4 y9 hy W0) (by kernel_rfl) (by kernel_rfl) ?_
        refine HO.goP 8 (by kernel_rfl) ?_
        refine HO.done (by kernel_rfl) ?_
        refine Kseq_norm ?_
        exact H.ren hS [0, 4] _ _ _ (by kernel_rfl) (law_L3_ok (x.2.1, x.2.2.1, y9.2.2.2.2.2.1, y9.2.2.2.2.2.2, x.2.2.2.2.1, x.2.2.2.2.2.1, x.2.2.2.2.2.2.1, x.2.2.2.2.2.2.2.1, x.2.2.2.2.2.2.2.2, y9.1, y9.2.1, y9.2.2.1, y9.2.2.2.1, y9.2.2.2.2.1) r h W0 w0 S hS HLV)
      · rw [if_neg hb] at h
        refine HO.effA (appL_aop (ag := false) [] (encI_ok .u8) hy hb (by kernel_rfl)) ?_
        obtain ⟨y10, hy, h⟩ := bindS h
        refine HO.callW hS [.list 1 false] (first_ok y8 y10 hy W0) (by kernel_rfl) (by kernel_rfl) ?_
        refine HO.goP 8 (by kernel_rfl) ?_
        refine HO.done (by kernel_rfl) ?_
        refine Kseq_norm ?_
        exact H.ren hS [0, 5] _ _ _ (by kernel_rfl) (law_L3_ok (x.2.1, x.2.2.1, y10.2.2.2.2.2.1, y10.2.2.2.2.2.2, x.2.2.2.2.1, x.2.2.2.2.2.1, x.2.2.2.2.2.2.1, x.2.2.2.2.2.2.2.1, x.2.2.2.2.2.2.2.2, y10.1, y10.2.1, y10.2.2.1, y10.2.2.2.1, y10.2.2.2.2.1) r h W0 w0 S hS HLV)
def law_L1 (x : (List S65) × Int × (List Int) × Bool) : Option (Bool) :=
  if x.2.2.2 = true then
    some true
  else
    (tOf x.1) >>= fun y2 =>
    (encodeAs (y2.1, y2.2.1, y2.2.2.1, y2.2.2.2.1, y2.2.2.2.2, (remI .u8 x.2.1 3))) >>= fun y3 =>
    if (!decide (y3.2 = 0)) = true then
      law_L2 (x.2.2.1, (remI .u8 x.2.1 3), y3.1, true, y2.1, y2.2.1, y2.2.2.1, y2.2.2.2.1, y2.2.2.2.2)
    else
      law_L2 (x.2.2.1, (remI .u8 x.2.1 3), y3.1, (!decide ((y3.1.length : Int) = (y3.1.length : Int))), y2.1, y2.2.1, y2.2.2.1, y2.2.2.2.1, y2.2.2.2.2)
theorem law_L1_ok : ∀ (x : (List S65) × Int × (List Int) × Bool) (r : Bool), law_L1 x = some r → ∀ (W0 w0 : World) (S : Own), Std W0 w0 S 0 → PTo Tryd.prog W0 10 #[] (.returned (.bool true)) → H Tryd.prog w0 S 151 (cR (cL (cR (cB Tryd.f5)))) (mkS [(0, ls 5 false enc65 x.1), (1, .int .u8 x.2.1), (2, ls 1 false (encI .u8) x.2.2.1), (28, .bool x.2.2.2)] [] 0 []) (Kseq Tryd.prog w0 S 151 (cR (cR (cB Tryd.f5))) (KEnd Tryd.prog Tryd.f5 (PEnd w0 S (.returned (.bool r))))) := by
  intro x r h
  unfold law_L1 at h
  intro W0 w0 S hS
  intro HLV
  haveI := hS.noEx Tryd.prog
  refine H.condS (b := x.2.2.2) (by kernel_rfl) (by kernel_rfl) (fun hb => ?_) (fun hb => ?_)
  · rw [if_pos hb] at h
    refine H.seqP (by kernel_rfl) ?_
    refine H.regP (by kernel_rfl) ?_
    refine HO.callW hS [] HLV (by kernel_rfl) (by kernel_rfl) ?_
    refine HO.goP 1 (by kernel_rfl) ?_
    refine HO.done (by kernel_rfl) ?_
    refine Kseq_norm ?_
    refine H.retP (by kernel_rfl) ?_
    refine Kseq_ret ?_
    obtain rfl := Option.some.inj h
    exact KEnd.ret (by kernel_rfl) (by kernel_rfl) (by kernel_rfl)
  · rw [if_neg (ne_true hb)] at h
    refine H.skipP (by kernel_rfl) ?_
    refine Kseq_norm ?_
    refine H.seqP (by kernel_rfl) ?_
    refine H.regP (by kernel_rfl) ?_
    refine HO.goP 1 (by kernel_rfl) ?_
    obtain ⟨y2, hy, h⟩ := bindS h
    refine HO.callW hS [.list 5 false] (tOf_ok x.1 y2 hy W0) (by kernel_rfl) (by kernel_rfl) ?_
    refine HO.goP 2 (by kernel_rfl) ?_
    refine HO.done (by kernel_rfl) ?_
    refine Kseq_norm ?_
    refine H.seqP (by kernel_rfl) ?_
    refine H.regP (by kernel_rfl) ?_
    refine HO.goP 3 (by kernel_rfl) ?_
    refine HO.done (by kernel_rfl) ?_
    refine Kseq_norm ?_
    refine H.seqP (by kernel_rfl) ?_
    refine H.regP (by kernel_rfl) ?_
    refine HO.goP 2 (by kernel_rfl) ?_
    obtain ⟨y3, hy, h⟩ := bindS h
    refine HO.callW hS [.agg [.keep, .keep, .keep, .list 1 false, .list 5 false], .keep] (encodeAs_ok (y2.1, y2.2.1, y2.2.2.1, y2.2.2.2.1, y2.2.2.2.2, (remI .u8 x.2.1 3)) y3 hy W0) (by kernel_rfl) (by kernel_rfl) ?_
    refine HO.goP 5 (by kernel_rfl) ?_
    refine HO.done (by kernel_rfl) ?_
    refine Kseq_norm ?_
    refine H.seqP (by kernel_rfl) ?_
    refine H.seqP (by kernel_rfl) ?_
    refine H.regP (by kernel_rfl) ?_
    refine HO.goP 2 (by kernel_rfl) ?_
    refine HO.boolP (!decide (y3.2 = 0)) (by kernel_rfl) (by kernel_rfl) (fun hb => ?_) (fun hb => ?_)
    · rw [if_pos hb] at h
      refine HO.goP 6 (by kernel_rfl) ?_
      refine HO.done (by kernel_rfl) ?_
      refine Kseq_norm ?_
      exact H.ren hS [0] _ _ _ (by kernel_rfl) (law_L2_ok (x.2.2.1, (remI .u8 x.2.1 3), y3.1, true, y2.1, y2.2.1, y2.2.2.1, y2.2.2.2.1, y2.2.2.2.2) r h W0 w0 S hS HLV)
    · rw [if_neg (ne_true hb)] at h
      refine HO.goP 1 (by kernel_rfl) ?_
      refine HO.valA (cap_aop (by kernel_rfl) (ls_size (encI .u8) y3.1)) ?_
      refine HO.goP 1 (by kernel_rfl) ?_
      refine HO.len (by kernel_rfl) (by kernel_rfl) (ls_size (encI .u8) y3.1) ?_
      refine HO.goP 2 (by kernel_rfl) ?_
      refine HO.done (by kernel_rfl) ?_
      refine Kseq_norm ?_
      exact H.ren hS [0] _ _ _ (by kernel_rfl) (law_L2_ok (x.2.2.1, (remI .u8 x.2.1 3), y3.1, (!decide ((y3.1.length : Int) = (y3.1.length : Int))), y2.1, y2.2.1, y2.2.2.1, y2.2.2.2.1, y2.2.2.2.2) r h W0 w0 S hS HLV)
def law (x : (List S65) × Int × (List Int)) : Option (Bool) :=
  (big x.1) >>= fun y1 =>
  if y1 = true then
    law_L1 (x.1, x.2.1, x.2.2, true)
  else
    law_L1 (x.1, x.2.1, x.2.2, (decide (40 < (x.2.2.length : Int))))
theorem law_ok : ∀ (x : (List S65) × Int × (List Int)) (r : Bool), law x = some r → ∀ W0 : World, PTo Tryd.prog W0 10 #[] (.returned (.bool true)) → PTo Tryd.prog W0 5 #[ls 5 false enc65 x.1, .int .u8 x.2.1, ls 1 false (encI .u8) x.2.2] (.returned (.bool r)) := by
  intro x r h
  unfold law at h
  intro W0
  intro HLV
  refine PTo.of_body (fn := Tryd.f5) (code := cB Tryd.f5) Tryd.func5 rfl rfl ?_
  intro w0 S hS
  haveI := hS.noEx Tryd.prog
  refine H.seqP (by kernel_rfl) ?_
  refine H.regP (by kernel_rfl) ?_
  refine HO.goP 1 (by kernel_rfl) ?_
  refine HO.done (by kernel_rfl) ?_
  refine Kseq_norm ?_
  refine H.seqP (by kernel_rfl) ?_
  refine H.seqP (by kernel_rfl) ?_
  refine H.regP (by kernel_rfl) ?_
  refine HO.goP 1 (by kernel_rfl) ?_
  obtain ⟨y1, hy, h⟩ := bindS h
  refine HO.callW hS [.list 5 false] (big_ok x.1 y1 hy W0) (by kernel_rfl) (by kernel_rfl) ?_
  refine HO.boolP y1 (by kernel_rfl) (by kernel_rfl) (fun hb => ?_) (fun hb => ?_)
  · rw [if_pos hb] at h
    refine HO.goP 4 (by kernel_rfl) ?_
    refine HO.done (by kernel_rfl) ?_
    refine Kseq_norm ?_
    exact H.ren hS [] _ _ _ (by kernel_rfl) (law_L1_ok (x.1, x.2.1, x.2.2, true) r h W0 w0 S hS HLV)
  · rw [if_neg (ne_true hb)] at h
    refine HO.goP 1 (by kernel_rfl) ?_
    refine HO.len (by kernel_rfl) (by kernel_rfl) (ls_size (encI .u8) x.2.2) ?_
    refine HO.goP 2 (by kernel_rfl) ?_
    refine HO.done (by kernel_rfl) ?_
    refine Kseq_norm ?_
    exact H.ren hS [] _ _ _ (by kernel_rfl) (law_L1_ok (x.1, x.2.1, x.2.2, (decide (40 < (x.2.2.length : Int)))) r h W0 w0 S hS HLV)
end Vf
