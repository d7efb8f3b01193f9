import Derived.Test.YtcokmnpgeokfpaaDoorVfW
set_option linter.unusedVariables false
set_option linter.unusedSimpArgs false
set_option maxHeartbeats 4000000
namespace Vf
open Go Go.Vx Go.Proofs
def takeF (x : Int × Int × Int × Int × (List S36)) : Option (Int × Bool × (List S36)) :=
  if (x.2.2.2.2.length : Int) = 0 then
    some (0, false, x.2.2.2.2)
  else
    (at' x.2.2.2.2 0) >>= fun y1 =>
    (valueC (y1.c0, y1.c1, y1.c2, y1.c3, y1.c4, x.1, x.2.1, x.2.2.1, x.2.2.2.1)) >>= fun y2 =>
    if y2.2 = true then
      (sub' x.2.2.2.2 1 (x.2.2.2.2.length : Int)) >>= fun y3 =>
      takeF_L1 (y2.1, y2.2, y3)
    else
      takeF_L1 (y2.1, y2.2, x.2.2.2.2)
theorem takeF_ok : ∀ (x : Int × Int × Int × Int × (List S36)) (r : Int × Bool × (List S36)), takeF x = some r → ∀ W0 : World, FTo Tryd.prog W0 88 #[.int .u8 x.1, .int .u32 x.2.1, .int .i64 x.2.2.1, .int .i64 x.2.2.2.1, .pointer (some ⟨0, 0, none⟩)] (mkW 1 [] [(0, .cells [ls 5 false enc36 x.2.2.2.2] 34 1)]) (.returned (.tuple #[.int .i64 r.1, .bool r.2.1])) (mkW 1 [] [(0, .cells [ls 5 false enc36 r.2.2] 34 1)]) := by
  intro x r h
  unfold takeF at h
  intro W0
  refine FTo.of_body (fn := Tryd.f88) (code := cB Tryd.f88) Tryd.func88 rfl rfl ?_
  intro w0 S hS
  haveI := hS.noEx Tryd.prog
  refine H.sr' 2 ?_
  refine H.seq' ?_
  refine H.sg' ?_
  refine HO.go' 1 ?_
  refine HO.len (by kernel_rfl) (by kernel_rfl) (ls_size enc36 x.2.2.2.2) ?_
  refine HO.fin' 1 ?_
  refine H.cS' (decide ((x.2.2.2.2.length : Int) = 0)) (fun hb => ?_) (fun hb => ?_)
  · rw [if_pos (of_decide_eq_true hb)] at h
    refine H.sr' 2 ?_
    refine H.ret' ?_
    refine Kseq_ret ?_
    obtain rfl := Option.some.inj h
    exact KEnd.of (v := .tuple #[.int .i64 0, .bool false]) (by kernel_rfl) (by kernel_rfl) (FEnd.ren hS [0] _ _ (by kernel_rfl))
  rw [if_neg (of_decide_eq_false hb)] at h
  refine H.skp' ?_
  refine Kseq_norm ?_
  refine H.sg' ?_
  refine HO.go' 1 ?_
  obtain ⟨y1, hy, h⟩ := bindS h
  refine HO.idx (.agg #[.int .u8 y1.c0, .int .u32 y1.c1, .bool y1.c2, ls 1 false (encI .u8) y1.c3, ls 5 false enc36 y1.c4]) hy (enc36_eq y1) (by kernel_rfl) ?_
  refine HO.go' 5 ?_
  obtain ⟨y2, hy, h⟩ := bindS h
  refine HO.callW hS [.agg [.keep, .keep, .keep, .list 1 false, .list 5 false], .keep, .keep, .keep, .keep] (valueC_ok (y1.c0, y1.c1, y1.c2, y1.c3, y1.c4, x.1, x.2.1, x.2.2.1, x.2.2.2.1) y2 hy W0) (by kernel_rfl) (by kernel_rfl) ?_
  refine HO.fin' 5 ?_
  refine H.seq' ?_
  refine H.sr' 1 ?_
  refine H.cS' (y2.2) (fun hb => ?_) (fun hb => ?_)
  rotate_left
  · rw [if_neg (ne_true hb)] at h
    refine H.skp' ?_
    refine Kseq_norm ?_
    exact H.ren' hS [0] (takeF_L1_ok (y2.1, y2.2, x.2.2.2.2) r h W0 w0 S hS)
  rw [if_pos hb] at h
  refine H.reg' ?_
  refine HO.go' 1 ?_
  obtain ⟨y3, hy, h⟩ := bindS h
  refine HO.valA (sl1_aop (enc := enc36) (k := 5) (j := .i64) false hy (by kernel_rfl)) ?_
  refine HO.fin' 1 ?_
  exact H.ren' hS [0] (takeF_L1_ok (y2.1, y2.2, y3) r h W0 w0 S hS)
def bytesEqual (x : (List Int) × (List Int)) : Option (Bool) :=
  some (strEq (bytesU x.1) (bytesU x.2))
theorem bytesEqual_ok : ∀ (x : (List Int) × (List Int)) (r : Bool), bytesEqual x = some r → ∀ W0 : World, PTo Tryd.prog W0 60 #[ls 1 false (encI .u8) x.1, ls 1 false (encI .u8) x.2] (.returned (.bool r)) := by
  intro x r h
  unfold bytesEqual at h
  intro W0
  refine PTo.of_body (fn := Tryd.f60) (code := cB Tryd.f60) Tryd.func60 rfl rfl ?_
  intro w0 S hS
  haveI := hS.noEx Tryd.prog
  refine H.sr' 1 ?_
  refine H.sg' ?_
  refine HO.go' 1 ?_
  refine HO.valA (str_aop x.1 (by kernel_rfl)) ?_
  refine HO.go' 1 ?_
  refine HO.valA (str_aop x.2 (by kernel_rfl)) ?_
  refine HO.fin' 2 ?_
  refine H.ret' ?_
  obtain rfl := Option.some.inj h
  exact KEnd.r'
def sameI_L1 (x : Bool) : Option (Bool) :=
  some x
theorem sameI_L1_ok : ∀ (x : Bool) (r : Bool), sameI_L1 x = some r → ∀ (W0 w0 : World) (S : Own), Std W0 w0 S 0 → H Tryd.prog w0 S 38 (cR (cR (cB Tryd.f52))) (mkS [(4, .bool x)] [] 0 []) (KEnd Tryd.prog Tryd.f52 (PEnd w0 S (.returned (.bool r)))) := by
  intro x r h
  unfold sameI_L1 at h
  intro W0 w0 S hS
  haveI := hS.noEx Tryd.prog
  refine H.ret' ?_
  obtain rfl := Option.some.inj h
  exact KEnd.r'
mutual
def sameI (x : Int × Int × Bool × (List Int) × (List S36) × Int × Int × Bool × (List Int) × (List S36)) : Option (Bool) :=
  if x.1 = x.2.2.2.2.2.1 then
    if x.2.1 = x.2.2.2.2.2.2.1 then
      if (x.2.2.1 == x.2.2.2.2.2.2.2.1) = true then
        (bytesEqual (x.2.2.2.1, x.2.2.2.2.2.2.2.2.1)) >>= fun y1 =>
        if y1 = true then
          (equalFunc (x.2.2.2.2.1, x.2.2.2.2.2.2.2.2.2)) >>= fun y2 =>
          sameI_L1 y2
        else
          sameI_L1 false
      else
        sameI_L1 false
    else
      sameI_L1 false
  else
    sameI_L1 false
partial_fixpoint
def equalFunc (x : (List S36) × (List S36)) : Option (Bool) :=
  if (!decide ((x.1.length : Int) = (x.2.length : Int))) = true then
    some false
  else
    equalFunc_L1 (x.2, x.1, (x.1.length : Int), 0)
partial_fixpoint
def equalFunc_L1 (x : (List S36) × (List S36) × Int × Int) : Option (Bool) :=
  if x.2.2.2 < x.2.2.1 then
    (at' x.2.1 x.2.2.2) >>= fun y1 =>
    (at' x.1 x.2.2.2) >>= fun y2 =>
    (sameI (y1.c0, y1.c1, y1.c2, y1.c3, y1.c4, y2.c0, y2.c1, y2.c2, y2.c3, y2.c4)) >>= fun y3 =>
    if (!y3) = true then
      some false
    else
      equalFunc_L1 (x.1, x.2.1, x.2.2.1, (IntKind.i64.wrap (x.2.2.2 + 1)))
  else
    some true
partial_fixpoint
end
theorem sameI_grp : (∀ (x : Int × Int × Bool × (List Int) × (List S36) × Int × Int × Bool × (List Int) × (List S36)) (r : Bool), sameI x = some r → ∀ W0 : World, PTo Tryd.prog W0 52 #[.agg #[.int .u8 x.1, .int .u32 x.2.1, .bool x.2.2.1, ls 1 false (encI .u8) x.2.2.2.1, ls 5 false enc36 x.2.2.2.2.1], .agg #[.int .u8 x.2.2.2.2.2.1, .int .u32 x.2.2.2.2.2.2.1, .bool x.2.2.2.2.2.2.2.1, ls 1 false (encI .u8) x.2.2.2.2.2.2.2.2.1, ls 5 false enc36 x.2.2.2.2.2.2.2.2.2]] (.returned (.bool r))) ∧
  (∀ (x : (List S36) × (List S36)) (r : Bool), equalFunc x = some r → ∀ W0 : World, PTo Tryd.prog W0 76 #[ls 5 false enc36 x.1, ls 5 false enc36 x.2, .func (.func 52) #[] #[]] (.returned (.bool r))) ∧
  (∀ (x : (List S36) × (List S36) × Int × Int) (r : Bool), equalFunc_L1 x = some r → ∀ (W0 w0 : World) (S : Own), Std W0 w0 S 0 → HL Tryd.prog w0 S 32 (cL (cL (cR (cL (cR (cR (cB Tryd.f76))))))) (mkS [(1, ls 5 false enc36 x.1), (2, .func (.func 52) #[] #[]), (15, ls 5 false enc36 x.2.1), (16, .int .i64 x.2.2.1), (17, .int .i64 x.2.2.2)] [] 0 []) (Kblock 0 (Kseq Tryd.prog w0 S 32 (cR (cR (cR (cB Tryd.f76)))) (KEnd Tryd.prog Tryd.f76 (PEnd w0 S (.returned (.bool r))))))) := by
  refine sameI.mutual_partial_correctness (fun (x : Int × Int × Bool × (List Int) × (List S36) × Int × Int × Bool × (List Int) × (List S36)) (r : Bool) => ∀ W0 : World, PTo Tryd.prog W0 52 #[.agg #[.int .u8 x.1, .int .u32 x.2.1, .bool x.2.2.1, ls 1 false (encI .u8) x.2.2.2.1, ls 5 false enc36 x.2.2.2.2.1], .agg #[.int .u8 x.2.2.2.2.2.1, .int .u32 x.2.2.2.2.2.2.1, .bool x.2.2.2.2.2.2.2.1, ls 1 false (encI .u8) x.2.2.2.2.2.2.2.2.1, ls 5 false enc36 x.2.2.2.2.2.2.2.2.2]] (.returned (.bool r))) (fun (x : (List S36) × (List S36)) (r : Bool) => ∀ W0 : World, PTo Tryd.prog W0 76 #[ls 5 false enc36 x.1, ls 5 false enc36 x.2, .func (.func 52) #[] #[]] (.returned (.bool r))) (fun (x : (List S36) × (List S36) × Int × Int) (r : Bool) => ∀ (W0 w0 : World) (S : Own), Std W0 w0 S 0 → HL Tryd.prog w0 S 32 (cL (cL (cR (cL (cR (cR (cB Tryd.f76))))))) (mkS [(1, ls 5 false enc36 x.1), (2, .func (.func 52) #[] #[]), (15, ls 5 false enc36 x.2.1), (16, .int .i64 x.2.2.1), (17, .int .i64 x.2.2.2)] [] 0 []) (Kblock 0 (Kseq Tryd.prog w0 S 32 (cR (cR (cR (cB Tryd.f76)))) (KEnd Tryd.prog Tryd.f76 (PEnd w0 S (.returned (.bool r))))))) ?_ ?_ ?_
  · intro g_equalFunc ih_equalFunc x r h
    intro W0
    refine PTo.of_body (fn := Tryd.f52) (code := cB Tryd.f52) Tryd.func52 rfl rfl ?_
    intro w0 S hS
    haveI := hS.noEx Tryd.prog
    refine H.sr' 3 ?_
    refine H.sg' ?_
    refine HO.go' 5 ?_
    refine HO.bo' (decide (x.1 = x.2.2.2.2.2.1)) (fun hb => ?_) (fun hb => ?_)
    rotate_left
    · rw [if_neg (of_decide_eq_false hb)] at h
      refine HO.fin' 28 ?_
      exact H.ren' hS [] (sameI_L1_ok false r h W0 w0 S hS)
    rw [if_pos (of_decide_eq_true hb)] at h
    refine HO.go' 6 ?_
    refine HO.bo' (decide (x.2.1 = x.2.2.2.2.2.2.1)) (fun hb => ?_) (fun hb => ?_)
    rotate_left
    · rw [if_neg (of_decide_eq_false hb)] at h
      refine HO.fin' 21 ?_
      exact H.ren' hS [] (sameI_L1_ok false r h W0 w0 S hS)
    rw [if_pos (of_decide_eq_true hb)] at h
    refine HO.go' 6 ?_
    refine HO.bo' (x.2.2.1 == x.2.2.2.2.2.2.2.1) (fun hb => ?_) (fun hb => ?_)
    rotate_left
    · rw [if_neg (ne_true hb)] at h
      refine HO.fin' 14 ?_
      exact H.ren' hS [] (sameI_L1_ok false r h W0 w0 S hS)
    rw [if_pos hb] at h
    refine HO.go' 4 ?_
    obtain ⟨y1, hy, h⟩ := bindS h
    refine HO.callW hS [.list 1 false, .list 1 false] (bytesEqual_ok (x.2.2.2.1, x.2.2.2.2.2.2.2.2.1) y1 hy W0) (by kernel_rfl) (by kernel_rfl) ?_
    refine HO.go' 1 ?_
    refine HO.bo' y1 (fun hb => ?_) (fun hb => ?_)
    rotate_left
    · rw [if_neg (ne_true hb)] at h
      refine HO.fin' 7 ?_
      exact H.ren' hS [] (sameI_L1_ok false r h W0 w0 S hS)
    rw [if_pos hb] at h
    refine HO.go' 4 ?_
    obtain ⟨y2, hy, h⟩ := bindS h
    refine HO.callW hS [.list 5 false, .list 5 false, .keep] (ih_equalFunc (x.2.2.2.2.1, x.2.2.2.2.2.2.2.2.2) y2 hy W0) (by kernel_rfl) (by kernel_rfl) ?_
    refine HO.fin' 2 ?_
    exact H.ren' hS [] (sameI_L1_ok y2 r h W0 w0 S hS)
  · intro g_equalFunc_L1 ih_equalFunc_L1 x r h
    intro W0
    refine PTo.of_body (fn := Tryd.f76) (code := cB Tryd.f76) Tryd.func76 rfl rfl ?_
    intro w0 S hS
    haveI := hS.noEx Tryd.prog
    refine H.sr' 1 ?_
    refine H.seq' ?_
    refine H.sg' ?_
    refine HO.go' 1 ?_
    refine HO.len (by kernel_rfl) (by kernel_rfl) (ls_size enc36 x.1) ?_
    refine HO.go' 1 ?_
    refine HO.len (by kernel_rfl) (by kernel_rfl) (ls_size enc36 x.2) ?_
    refine HO.fin' 1 ?_
    refine H.cS' (!decide ((x.1.length : Int) = (x.2.length : Int))) (fun hb => ?_) (fun hb => ?_)
    · rw [if_pos hb] at h
      refine H.sr' 1 ?_
      refine H.ret' ?_
      refine Kseq_ret ?_
      obtain rfl := Option.some.inj h
      exact KEnd.r'
    rw [if_neg (ne_true hb)] at h
    refine H.skp' ?_
    refine Kseq_norm ?_
    refine H.seq' ?_
    refine H.sg' ?_
    refine HO.go' 1 ?_
    refine HO.len (by kernel_rfl) (by kernel_rfl) (ls_size enc36 x.1) ?_
    refine HO.fin' 1 ?_
    refine H.blk' 0 ?_
    refine H.lop' ?_
    exact HL.ren' hS [] (ih_equalFunc_L1 (x.2, x.1, (x.1.length : Int), 0) r h W0 w0 S hS)
  · intro g_sameI g_equalFunc_L1 ih_sameI ih_equalFunc_L1 x r h
    intro W0 w0 S hS
    haveI := hS.noEx Tryd.prog
    refine HL.round ?_
    refine H.sr' 1 ?_
    refine H.seq' ?_
    refine H.cS' (decide (x.2.2.2 < x.2.2.1)) (fun hb => ?_) (fun hb => ?_)
    rotate_left
    · rw [if_neg (of_decide_eq_false hb)] at h
      refine H.ext' 0 ?_
      refine Kseq_exit ?_
      refine Kloop_exit ?_
      refine Kblock_hit ?_
      refine Kseq_norm ?_
      refine H.sr' 1 ?_
      refine H.ret' ?_
      obtain rfl := Option.some.inj h
      exact KEnd.r'
    rw [if_pos (of_decide_eq_true hb)] at h
    refine H.skp' ?_
    refine Kseq_norm ?_
    refine H.seq' ?_
    refine H.blk' 1 ?_
    refine H.sg' ?_
    refine HO.go' 1 ?_
    obtain ⟨y1, hy, h⟩ := bindS h
    refine HO.idx (.agg #[.int .u8 y1.c0, .int .u32 y1.c1, .bool y1.c2, ls 1 false (encI .u8) y1.c3, ls 5 false enc36 y1.c4]) hy (enc36_eq y1) (by kernel_rfl) ?_
    refine HO.fin' 4 ?_
    refine H.sg' ?_
    refine HO.go' 2 ?_
    obtain ⟨y2, hy, h⟩ := bindS h
    refine HO.idx (.agg #[.int .u8 y2.c0, .int .u32 y2.c1, .bool y2.c2, ls 1 false (encI .u8) y2.c3, ls 5 false enc36 y2.c4]) hy (enc36_eq y2) (by kernel_rfl) ?_
    refine HO.fin' 3 ?_
    refine H.sg' ?_
    refine HO.go' 3 ?_
    obtain ⟨y3, hy, h⟩ := bindS h
    refine HO.callW hS [.agg [.keep, .keep, .keep, .list 1 false, .list 5 false], .agg [.keep, .keep, .keep, .list 1 false, .list 5 false]] (ih_sameI (y1.c0, y1.c1, y1.c2, y1.c3, y1.c4, y2.c0, y2.c1, y2.c2, y2.c3, y2.c4) y3 hy W0) (by kernel_rfl) (by kernel_rfl) ?_
    refine HO.fin' 1 ?_
    refine H.cS' (!y3) (fun hb => ?_) (fun hb => ?_)
    rotate_left
    · rw [if_neg (ne_true hb)] at h
      refine H.skp' ?_
      refine Kblock_norm ?_
      refine Kseq_norm ?_
      refine H.reg' ?_
      refine HO.go' 2 ?_
      refine HO.end' ?_
      refine Kloop_norm ?_
      exact HL.ren' hS [] (ih_equalFunc_L1 (x.1, x.2.1, x.2.2.1, (IntKind.i64.wrap (x.2.2.2 + 1))) r h W0 w0 S hS)
    rw [if_pos hb] at h
    refine H.sr' 1 ?_
    refine H.ret' ?_
    refine Kblock_ret ?_
    refine Kseq_ret ?_
    refine Kloop_ret ?_
    refine Kblock_ret ?_
    refine Kseq_ret ?_
    obtain rfl := Option.some.inj h
    exact KEnd.r'
theorem sameI_ok : ∀ (x : Int × Int × Bool × (List Int) × (List S36) × Int × Int × Bool × (List Int) × (List S36)) (r : Bool), sameI x = some r → ∀ W0 : World, PTo Tryd.prog W0 52 #[.agg #[.int .u8 x.1, .int .u32 x.2.1, .bool x.2.2.1, ls 1 false (encI .u8) x.2.2.2.1, ls 5 false enc36 x.2.2.2.2.1], .agg #[.int .u8 x.2.2.2.2.2.1, .int .u32 x.2.2.2.2.2.2.1, .bool x.2.2.2.2.2.2.2.1, ls 1 false (encI .u8) x.2.2.2.2.2.2.2.2.1, ls 5 false enc36 x.2.2.2.2.2.2.2.2.2]] (.returned (.bool r)) := sameI_grp.1
theorem equalFunc_ok : ∀ (x : (List S36) × (List S36)) (r : Bool), equalFunc x = some r → ∀ W0 : World, PTo Tryd.prog W0 76 #[ls 5 false enc36 x.1, ls 5 false enc36 x.2, .func (.func 52) #[] #[]] (.returned (.bool r)) := sameI_grp.2.1
theorem equalFunc_L1_ok : ∀ (x : (List S36) × (List S36) × Int × Int) (r : Bool), equalFunc_L1 x = some r → ∀ (W0 w0 : World) (S : Own), Std W0 w0 S 0 → HL Tryd.prog w0 S 32 (cL (cL (cR (cL (cR (cR (cB Tryd.f76))))))) (mkS [(1, ls 5 false enc36 x.1), (2, .func (.func 52) #[] #[]), (15, ls 5 false enc36 x.2.1), (16, .int .i64 x.2.2.1), (17, .int .i64 x.2.2.2)] [] 0 []) (Kblock 0 (Kseq Tryd.prog w0 S 32 (cR (cR (cR (cB Tryd.f76)))) (KEnd Tryd.prog Tryd.f76 (PEnd w0 S (.returned (.bool r)))))) := sameI_grp.2.2
def sameT_L1 (x : Bool) : Option (Bool) :=
  some x
theorem sameT_L1_ok : ∀ (x : Bool) (r : Bool), sameT_L1 x = some r → ∀ (W0 w0 : World) (S : Own), Std W0 w0 S 0 → H Tryd.prog w0 S 18 (cR (cR (cB Tryd.f20))) (mkS [(4, .bool x)] [] 0 []) (KEnd Tryd.prog Tryd.f20 (PEnd w0 S (.returned (.bool r)))) := by
  intro x r h
  unfold sameT_L1 at h
  intro W0 w0 S hS
  haveI := hS.noEx Tryd.prog
  refine H.ret' ?_
  obtain rfl := Option.some.inj h
  exact KEnd.r'
def sameT (x : Int × Int × Bool × (List Int) × (List S36) × Int × Int × Bool × (List Int) × (List S36)) : Option (Bool) :=
  (check (x.1, x.2.1, x.2.2.1, x.2.2.2.1, x.2.2.2.2.1)) >>= fun y1 =>
  if y1 = 0 then
    (check (x.2.2.2.2.2.1, x.2.2.2.2.2.2.1, x.2.2.2.2.2.2.2.1, x.2.2.2.2.2.2.2.2.1, x.2.2.2.2.2.2.2.2.2)) >>= fun y2 =>
    if y2 = 0 then
      (sameI (x.1, x.2.1, x.2.2.1, x.2.2.2.1, x.2.2.2.2.1, x.2.2.2.2.2.1, x.2.2.2.2.2.2.1, x.2.2.2.2.2.2.2.1, x.2.2.2.2.2.2.2.2.1, x.2.2.2.2.2.2.2.2.2)) >>= fun y3 =>
      sameT_L1 y3
    else
      sameT_L1 false
  else
    sameT_L1 false
theorem sameT_ok : ∀ (x : Int × Int × Bool × (List Int) × (List S36) × Int × Int × Bool × (List Int) × (List S36)) (r : Bool), sameT x = some r → ∀ W0 : World, PTo Tryd.prog W0 20 #[.agg #[.int .u8 x.1, .int .u32 x.2.1, .bool x.2.2.1, ls 1 false (encI .u8) x.2.2.2.1, ls 5 false enc36 x.2.2.2.2.1], .agg #[.int .u8 x.2.2.2.2.2.1, .int .u32 x.2.2.2.2.2.2.1, .bool x.2.2.2.2.2.2.2.1, ls 1 false (encI .u8) x.2.2.2.2.2.2.2.2.1, ls 5 false enc36 x.2.2.2.2.2.2.2.2.2]] (.returned (.bool r)) := by
  intro x r h
  unfold sameT at h
  intro W0
  refine PTo.of_body (fn := Tryd.f20) (code := cB Tryd.f20) Tryd.func20 rfl rfl ?_
  intro w0 S hS
  haveI := hS.noEx Tryd.prog
  refine H.sr' 3 ?_
  refine H.sg' ?_
  refine HO.go' 1 ?_
  obtain ⟨y1, hy, h⟩ := bindS h
  refine HO.callW hS [.agg [.keep, .keep, .keep, .list 1 false, .list 5 false]] (check_ok (x.1, x.2.1, x.2.2.1, x.2.2.2.1, x.2.2.2.2.1) y1 hy W0) (by kernel_rfl) (by kernel_rfl) ?_
  refine HO.go' 1 ?_
  refine HO.bo' (decide (y1 = 0)) (fun hb => ?_) (fun hb => ?_)
  rotate_left
  · rw [if_neg (of_decide_eq_false hb)] at h
    refine HO.fin' 10 ?_
    exact H.ren' hS [] (sameT_L1_ok false r h W0 w0 S hS)
  rw [if_pos (of_decide_eq_true hb)] at h
  refine HO.go' 1 ?_
  obtain ⟨y2, hy, h⟩ := bindS h
  refine HO.callW hS [.agg [.keep, .keep, .keep, .list 1 false, .list 5 false]] (check_ok (x.2.2.2.2.2.1, x.2.2.2.2.2.2.1, x.2.2.2.2.2.2.2.1, x.2.2.2.2.2.2.2.2.1, x.2.2.2.2.2.2.2.2.2) y2 hy W0) (by kernel_rfl) (by kernel_rfl) ?_
  refine HO.go' 2 ?_
  refine HO.bo' (decide (y2 = 0)) (fun hb => ?_) (fun hb => ?_)
  rotate_left
  · rw [if_neg (of_decide_eq_false hb)] at h
    refine HO.fin' 5 ?_
    exact H.ren' hS [] (sameT_L1_ok false r h W0 w0 S hS)
  rw [if_pos (of_decide_eq_true hb)] at h
  refine HO.go' 2 ?_
  obtain ⟨y3, hy, h⟩ := bindS h
  refine HO.callW hS [.agg [.keep, .keep, .keep, .list 1 false, .list 5 false], .agg [.keep, .keep, .keep, .list 1 false, .list 5 false]] (sameI_ok (x.1, x.2.1, x.2.2.1, x.2.2.2.1, x.2.2.2.2.1, x.2.2.2.2.2.1, x.2.2.2.2.2.2.1, x.2.2.2.2.2.2.2.1, x.2.2.2.2.2.2.2.2.1, x.2.2.2.2.2.2.2.2.2) y3 hy W0) (by kernel_rfl) (by kernel_rfl) ?_
  refine HO.fin' 2 ?_
  exact H.ren' hS [] (sameT_L1_ok y3 r h W0 w0 S hS)
def fieldsC_L3 (x : Bool × Int × Int × Int) : Option (Int × Int × Int × Int × Int × (List Int) × Bool) :=
  some (x.2.1, x.2.2.1, 0, 0, x.2.2.2, [], x.1)
theorem fieldsC_L3_ok : ∀ (x : Bool × Int × Int × Int) (r : Int × Int × Int × Int × Int × (List Int) × Bool), fieldsC_L3 x = some r → ∀ (W0 w0 : World) (S : Own), Std W0 w0 S 0 → H Tryd.prog w0 S 111 (cR (cR (cR (cL (cR (cL (cR (cR (cR (cR (cR (cB Tryd.f64)))))))))))) (mkS [(2, .pointer (some ⟨0, 0, none⟩)), (3, .bool x.1)] [(0, .cells [.int .u8 x.2.1, .int .i64 x.2.2.1, .int .i64 0, .int .i64 0, .int .u8 x.2.2.2, .slice none 0 0] 70 6)] 1 []) (Kseq Tryd.prog w0 S 111 (cR (cR (cR (cR (cR (cR (cB Tryd.f64))))))) (KEnd Tryd.prog Tryd.f64 (PEnd w0 S (.returned (.tuple #[.agg #[.int .u8 r.1, .int .i64 r.2.1, .int .i64 r.2.2.1, .int .i64 r.2.2.2.1, .int .u8 r.2.2.2.2.1, ls 1 false (encI .u8) r.2.2.2.2.2.1], .bool r.2.2.2.2.2.2]))))) := by
  intro x r h
  unfold fieldsC_L3 at h
  intro W0 w0 S hS
  haveI := hS.noEx Tryd.prog
  refine H.ret' ?_
  refine Kseq_ret ?_
  obtain rfl := Option.some.inj h
  exact KEnd.retW (v := .tuple #[.agg #[.int .u8 x.2.1, .int .i64 x.2.2.1, .int .i64 0, .int .i64 0, .int .u8 x.2.2.2, .slice none 0 0], .bool x.1]) (.tuple [.agg [.keep, .keep, .keep, .keep, .keep, .list 1 false], .keep]) (by kernel_rfl) (by kernel_rfl) (by kernel_rfl) (by kernel_rfl)
def fieldsC_L6 (x : Bool × Int × Int × Int × Int × (List Int)) : Option (Int × Int × Int × Int × Int × (List Int) × Bool) :=
  some (x.2.1, x.2.2.1, x.2.2.2.1, x.2.2.2.2.1, 0, x.2.2.2.2.2, x.1)
theorem fieldsC_L6_ok : ∀ (x : Bool × Int × Int × Int × Int × (List Int)) (r : Int × Int × Int × Int × Int × (List Int) × Bool), fieldsC_L6 x = some r → ∀ (W0 w0 : World) (S : Own), Std W0 w0 S 0 → H Tryd.prog w0 S 111 (cR (cR (cR (cR (cR (cR (cR (cR (cR (cR (cR (cR (cR (cB Tryd.f64)))))))))))))) (mkS [(2, .pointer (some ⟨0, 0, none⟩)), (3, .bool x.1)] [(0, .cells [.int .u8 x.2.1, .int .i64 x.2.2.1, .int .i64 x.2.2.2.1, .int .i64 x.2.2.2.2.1, .int .u8 0, ls 1 true (encI .u8) x.2.2.2.2.2] 70 6)] 1 []) (KEnd Tryd.prog Tryd.f64 (PEnd w0 S (.returned (.tuple #[.agg #[.int .u8 r.1, .int .i64 r.2.1, .int .i64 r.2.2.1, .int .i64 r.2.2.2.1, .int .u8 r.2.2.2.2.1, ls 1 false (encI .u8) r.2.2.2.2.2.1], .bool r.2.2.2.2.2.2])))) := by
  intro x r h
  unfold fieldsC_L6 at h
  intro W0 w0 S hS
  haveI := hS.noEx Tryd.prog
  refine H.ret' ?_
  obtain rfl := Option.some.inj h
  exact KEnd.retW (v := .tuple #[.agg #[.int .u8 x.2.1, .int .i64 x.2.2.1, .int .i64 x.2.2.2.1, .int .i64 x.2.2.2.2.1, .int .u8 0, ls 1 true (encI .u8) x.2.2.2.2.2], .bool x.1]) (.tuple [.agg [.keep, .keep, .keep, .keep, .keep, .list 1 false], .keep]) (by kernel_rfl) (by kernel_rfl) (by kernel_rfl) (by kernel_rfl)
def fieldsC_L5 (x : Int × Bool × Int × Int × Int × (List S36)) : Option (Int × Int × Int × Int × Int × (List Int) × Bool) :=
  if x.2.1 = true then
    some (x.2.2.1, x.2.2.2.1, x.2.2.2.2.1, 0, 0, [], false)
  else
    (at' x.2.2.2.2.2 0) >>= fun y8 =>
    (cloneS y8.c3) >>= fun y9 =>
    (clip y9) >>= fun y10 =>
    if y8.c0 = 0 then
      if y8.c1 = 4 then
        fieldsC_L6 ((!y8.c2), x.2.2.1, x.2.2.2.1, x.2.2.2.2.1, x.1, y10)
      else
        fieldsC_L6 (false, x.2.2.1, x.2.2.2.1, x.2.2.2.2.1, x.1, y10)
    else
      fieldsC_L6 (false, x.2.2.1, x.2.2.2.1, x.2.2.2.2.1, x.1, y10)
theorem fieldsC_L5_ok : ∀ (x : Int × Bool × Int × Int × Int × (List S36)) (r : Int × Int × Int × Int × Int × (List Int) × Bool), fieldsC_L5 x = some r → ∀ (W0 w0 : World) (S : Own), Std W0 w0 S 0 → H Tryd.prog w0 S 111 (cR (cL (cR (cR (cR (cR (cR (cR (cR (cR (cB Tryd.f64))))))))))) (mkS [(2, .pointer (some ⟨0, 0, none⟩)), (4, .pointer (some ⟨1, 0, none⟩)), (5, .pointer (some ⟨2, 0, none⟩)), (13, .int .i64 x.1), (85, .bool x.2.1)] [(0, .cells [.int .u8 0, .int .i64 0, .int .i64 0, .int .i64 0, .int .u8 0, .slice none 0 0] 70 6), (1, .cells [.int .u8 x.2.2.1, .int .i64 x.2.2.2.1, .int .i64 x.2.2.2.2.1, .int .i64 0, .int .u8 0, .slice none 0 0] 70 6), (2, .cells [ls 5 false enc36 x.2.2.2.2.2] 34 1)] 3 []) (Kseq Tryd.prog w0 S 111 (cR (cR (cR (cR (cR (cR (cR (cR (cR (cB Tryd.f64)))))))))) (KEnd Tryd.prog Tryd.f64 (PEnd w0 S (.returned (.tuple #[.agg #[.int .u8 r.1, .int .i64 r.2.1, .int .i64 r.2.2.1, .int .i64 r.2.2.2.1, .int .u8 r.2.2.2.2.1, ls 1 false (encI .u8) r.2.2.2.2.2.1], .bool r.2.2.2.2.2.2]))))) := by
  intro x r h
  unfold fieldsC_L5 at h
  intro W0 w0 S hS
  haveI := hS.noEx Tryd.prog
  refine H.cS' (x.2.1) (fun hb => ?_) (fun hb => ?_)
  · rw [if_pos hb] at h
    refine H.sr' 3 ?_
    refine H.ret' ?_
    refine Kseq_ret ?_
    obtain rfl := Option.some.inj h
    exact KEnd.retW (v := .tuple #[.agg #[.int .u8 x.2.2.1, .int .i64 x.2.2.2.1, .int .i64 x.2.2.2.2.1, .int .i64 0, .int .u8 0, .slice none 0 0], .bool false]) (.tuple [.agg [.keep, .keep, .keep, .keep, .keep, .list 1 false], .keep]) (by kernel_rfl) (by kernel_rfl) (by kernel_rfl) (by kernel_rfl)
  rw [if_neg (ne_true hb)] at h
  refine H.skp' ?_
  refine Kseq_norm ?_
  refine H.sr' 3 ?_
  refine H.sg' ?_
  refine HO.go' 1 ?_
  obtain ⟨y8, hy, h⟩ := bindS h
  refine HO.idx (.agg #[.int .u8 y8.c0, .int .u32 y8.c1, .bool y8.c2, ls 1 false (encI .u8) y8.c3, ls 5 false enc36 y8.c4]) hy (enc36_eq y8) (by kernel_rfl) ?_
  refine HO.fin' 3 ?_
  refine H.sg' ?_
  refine HO.go' 2 ?_
  obtain ⟨y9, hy, h⟩ := bindS h
  refine HO.callW hS [.list 1 false] (cloneS_ok y8.c3 y9 hy W0) (by kernel_rfl) (by kernel_rfl) ?_
  obtain ⟨y10, hy, h⟩ := bindS h
  refine HO.callW hS [.list 1 false] (clip_ok y9 y10 hy W0) (by kernel_rfl) (by kernel_rfl) ?_
  refine HO.fin' 2 ?_
  refine H.seq' ?_
  refine H.drawQ ?_
  refine HQ.go' 4 ?_
  refine HQ.boolP (decide (y8.c0 = 0)) (by kernel_rfl) (by kernel_rfl) (fun hb => ?_) (fun hb => ?_)
  rotate_left
  · rw [if_neg (of_decide_eq_false hb)] at h
    refine HQ.go' 11 ?_
    refine HQ.done (by kernel_rfl) (by kernel_rfl) (by kernel_rfl) ?_
    refine Kseq_norm ?_
    exact H.ren' hS [0] (fieldsC_L6_ok (false, x.2.2.1, x.2.2.2.1, x.2.2.2.2.1, x.1, y10) r h W0 w0 S hS)
  rw [if_pos (of_decide_eq_true hb)] at h
  refine HQ.go' 4 ?_
  refine HQ.boolP (decide (y8.c1 = 4)) (by kernel_rfl) (by kernel_rfl) (fun hb => ?_) (fun hb => ?_)
  · rw [if_pos (of_decide_eq_true hb)] at h
    refine HQ.go' 6 ?_
    refine HQ.done (by kernel_rfl) (by kernel_rfl) (by kernel_rfl) ?_
    refine Kseq_norm ?_
    exact H.ren' hS [0] (fieldsC_L6_ok ((!y8.c2), x.2.2.1, x.2.2.2.1, x.2.2.2.2.1, x.1, y10) r h W0 w0 S hS)
  rw [if_neg (of_decide_eq_false hb)] at h
  refine HQ.go' 6 ?_
  refine HQ.done (by kernel_rfl) (by kernel_rfl) (by kernel_rfl) ?_
  refine Kseq_norm ?_
  exact H.ren' hS [0] (fieldsC_L6_ok (false, x.2.2.1, x.2.2.2.1, x.2.2.2.2.1, x.1, y10) r h W0 w0 S hS)
def fieldsC_L4 (x : Int × Int × Int × (List S36)) : Option (Int × Int × Int × Int × Int × (List Int) × Bool) :=
  (takeF (0, 10, 0, 255, x.2.2.2)) >>= fun y7 =>
  if (!y7.2.1) = true then
    fieldsC_L5 (y7.1, true, x.1, x.2.1, x.2.2.1, y7.2.2)
  else
    fieldsC_L5 (y7.1, (!decide ((y7.2.2.length : Int) = 1)), x.1, x.2.1, x.2.2.1, y7.2.2)
theorem fieldsC_L4_ok : ∀ (x : Int × Int × Int × (List S36)) (r : Int × Int × Int × Int × Int × (List Int) × Bool), fieldsC_L4 x = some r → ∀ (W0 w0 : World) (S : Own), Std W0 w0 S 0 → H Tryd.prog w0 S 111 (cR (cR (cR (cR (cR (cR (cR (cB Tryd.f64)))))))) (mkS [(2, .pointer (some ⟨0, 0, none⟩)), (4, .pointer (some ⟨1, 0, none⟩)), (5, .pointer (some ⟨2, 0, none⟩)), (6, .func (.func 88) #[] #[.pointer (some ⟨2, 0, none⟩)])] [(0, .cells [.int .u8 0, .int .i64 0, .int .i64 0, .int .i64 0, .int .u8 0, .slice none 0 0] 70 6), (1, .cells [.int .u8 x.1, .int .i64 x.2.1, .int .i64 x.2.2.1, .int .i64 0, .int .u8 0, .slice none 0 0] 70 6), (2, .cells [ls 5 false enc36 x.2.2.2] 34 1)] 3 []) (KEnd Tryd.prog Tryd.f64 (PEnd w0 S (.returned (.tuple #[.agg #[.int .u8 r.1, .int .i64 r.2.1, .int .i64 r.2.2.1, .int .i64 r.2.2.2.1, .int .u8 r.2.2.2.2.1, ls 1 false (encI .u8) r.2.2.2.2.2.1], .bool r.2.2.2.2.2.2])))) := by
  intro x r h
  unfold fieldsC_L4 at h
  intro W0 w0 S hS
  haveI := hS.noEx Tryd.prog
  refine H.sg' ?_
  refine HO.go' 1 ?_
  obtain ⟨y7, hy, h⟩ := bindS h
  refine HO.callFW hS (.tuple #[.int .i64 y7.1, .bool y7.2.1]) 3 [] [(0, .cells [.int .u8 0, .int .i64 0, .int .i64 0, .int .i64 0, .int .u8 0, .slice none 0 0] 70 6), (1, .cells [.int .u8 x.1, .int .i64 x.2.1, .int .i64 x.2.2.1, .int .i64 0, .int .u8 0, .slice none 0 0] 70 6), (2, .cells [ls 5 false enc36 y7.2.2] 34 1)] [2] [.keep, .keep, .keep, .keep, .keep] (takeF_ok (0, 10, 0, 255, x.2.2.2) y7 hy W0) (by kernel_rfl) (by kernel_rfl) ?_
  refine HO.fin' 5 ?_
  refine H.seq' ?_
  refine H.sg' ?_
  refine HO.go' 2 ?_
  refine HO.bo' (!y7.2.1) (fun hb => ?_) (fun hb => ?_)
  · rw [if_pos hb] at h
    refine HO.fin' 4 ?_
    exact H.ren' hS [0, 1, 2] (fieldsC_L5_ok (y7.1, true, x.1, x.2.1, x.2.2.1, y7.2.2) r h W0 w0 S hS)
  rw [if_neg (ne_true hb)] at h
  refine HO.go' 1 ?_
  refine HO.len (by kernel_rfl) (by kernel_rfl) (ls_size enc36 y7.2.2) ?_
  refine HO.fin' 2 ?_
  exact H.ren' hS [0, 1, 2] (fieldsC_L5_ok (y7.1, (!decide ((y7.2.2.length : Int) = 1)), x.1, x.2.1, x.2.2.1, y7.2.2) r h W0 w0 S hS)
def fieldsC_L2 (x : Int × Int × (List S36)) : Option (Int × Int × Int × Int × Int × (List Int) × Bool) :=
  if x.1 = 5 then
    (takeF (2, 1, 1, 7, x.2.2)) >>= fun y5 =>
    if y5.2.1 = true then
      fieldsC_L3 ((decide ((y5.2.2.length : Int) = 0)), x.1, x.2.1, (IntKind.u8.wrap y5.1))
    else
      fieldsC_L3 (false, x.1, x.2.1, (IntKind.u8.wrap y5.1))
  else
    if x.1 = 1 then
      (takeF (2, 0, 0, 127, x.2.2)) >>= fun y6 =>
      if y6.2.1 = true then
        fieldsC_L4 (x.1, x.2.1, y6.1, y6.2.2)
      else
        fieldsC_L4 (x.1, x.2.1, (-1), y6.2.2)
    else
      fieldsC_L4 (x.1, x.2.1, 0, x.2.2)
theorem fieldsC_L2_ok : ∀ (x : Int × Int × (List S36)) (r : Int × Int × Int × Int × Int × (List Int) × Bool), fieldsC_L2 x = some r → ∀ (W0 w0 : World) (S : Own), Std W0 w0 S 0 → H Tryd.prog w0 S 111 (cR (cR (cR (cR (cR (cB Tryd.f64)))))) (mkS [(2, .pointer (some ⟨0, 0, none⟩)), (4, .pointer (some ⟨1, 0, none⟩)), (5, .pointer (some ⟨2, 0, none⟩)), (6, .func (.func 88) #[] #[.pointer (some ⟨2, 0, none⟩)])] [(0, .cells [.int .u8 0, .int .i64 0, .int .i64 0, .int .i64 0, .int .u8 0, .slice none 0 0] 70 6), (1, .cells [.int .u8 x.1, .int .i64 x.2.1, .int .i64 0, .int .i64 0, .int .u8 0, .slice none 0 0] 70 6), (2, .cells [ls 5 false enc36 x.2.2] 34 1)] 3 []) (KEnd Tryd.prog Tryd.f64 (PEnd w0 S (.returned (.tuple #[.agg #[.int .u8 r.1, .int .i64 r.2.1, .int .i64 r.2.2.1, .int .i64 r.2.2.2.1, .int .u8 r.2.2.2.2.1, ls 1 false (encI .u8) r.2.2.2.2.2.1], .bool r.2.2.2.2.2.2])))) := by
  intro x r h
  unfold fieldsC_L2 at h
  intro W0 w0 S hS
  haveI := hS.noEx Tryd.prog
  refine H.seq' ?_
  refine H.sr' 3 ?_
  refine H.cS' (decide (x.1 = 5)) (fun hb => ?_) (fun hb => ?_)
  · rw [if_pos (of_decide_eq_true hb)] at h
    refine H.sg' ?_
    refine HO.go' 1 ?_
    obtain ⟨y5, hy, h⟩ := bindS h
    refine HO.callFW hS (.tuple #[.int .i64 y5.1, .bool y5.2.1]) 3 [] [(0, .cells [.int .u8 0, .int .i64 0, .int .i64 0, .int .i64 0, .int .u8 0, .slice none 0 0] 70 6), (1, .cells [.int .u8 x.1, .int .i64 x.2.1, .int .i64 0, .int .i64 0, .int .u8 0, .slice none 0 0] 70 6), (2, .cells [ls 5 false enc36 y5.2.2] 34 1)] [2] [.keep, .keep, .keep, .keep, .keep] (takeF_ok (2, 1, 1, 7, x.2.2) y5 hy W0) (by kernel_rfl) (by kernel_rfl) ?_
    refine HO.fin' 5 ?_
    refine H.sr' 4 ?_
    refine H.seq' ?_
    refine H.drawQ ?_
    refine HQ.go' 2 ?_
    refine HQ.boolP y5.2.1 (by kernel_rfl) (by kernel_rfl) (fun hb => ?_) (fun hb => ?_)
    rotate_left
    · rw [if_neg (ne_true hb)] at h
      refine HQ.go' 6 ?_
      refine HQ.done (by kernel_rfl) (by kernel_rfl) (by kernel_rfl) ?_
      refine Kseq_norm ?_
      exact H.ren' hS [0] (fieldsC_L3_ok (false, x.1, x.2.1, (IntKind.u8.wrap y5.1)) r h W0 w0 S hS)
    rw [if_pos hb] at h
    refine HQ.go' 1 ?_
    refine HQ.len (by kernel_rfl) (ls_size enc36 y5.2.2) ?_
    refine HQ.go' 4 ?_
    refine HQ.done (by kernel_rfl) (by kernel_rfl) (by kernel_rfl) ?_
    refine Kseq_norm ?_
    exact H.ren' hS [0] (fieldsC_L3_ok ((decide ((y5.2.2.length : Int) = 0)), x.1, x.2.1, (IntKind.u8.wrap y5.1)) r h W0 w0 S hS)
  rw [if_neg (of_decide_eq_false hb)] at h
  refine H.skp' ?_
  refine Kseq_norm ?_
  refine H.seq' ?_
  refine H.sr' 3 ?_
  refine H.cS' (decide (x.1 = 1)) (fun hb => ?_) (fun hb => ?_)
  rotate_left
  · rw [if_neg (of_decide_eq_false hb)] at h
    refine H.skp' ?_
    refine Kseq_norm ?_
    exact H.ren' hS [0, 1, 2] (fieldsC_L4_ok (x.1, x.2.1, 0, x.2.2) r h W0 w0 S hS)
  rw [if_pos (of_decide_eq_true hb)] at h
  refine H.sr' 2 ?_
  refine H.sg' ?_
  refine HO.go' 1 ?_
  obtain ⟨y6, hy, h⟩ := bindS h
  refine HO.callFW hS (.tuple #[.int .i64 y6.1, .bool y6.2.1]) 3 [] [(0, .cells [.int .u8 0, .int .i64 0, .int .i64 0, .int .i64 0, .int .u8 0, .slice none 0 0] 70 6), (1, .cells [.int .u8 x.1, .int .i64 x.2.1, .int .i64 (-1), .int .i64 0, .int .u8 0, .slice none 0 0] 70 6), (2, .cells [ls 5 false enc36 y6.2.2] 34 1)] [2] [.keep, .keep, .keep, .keep, .keep] (takeF_ok (2, 0, 0, 127, x.2.2) y6 hy W0) (by kernel_rfl) (by kernel_rfl) ?_
  refine HO.fin' 5 ?_
  refine H.sr' 1 ?_
  refine H.cS' (y6.2.1) (fun hb => ?_) (fun hb => ?_)
  rotate_left
  · rw [if_neg (ne_true hb)] at h
    refine H.skp' ?_
    refine Kseq_norm ?_
    exact H.ren' hS [0, 1, 2] (fieldsC_L4_ok (x.1, x.2.1, (-1), y6.2.2) r h W0 w0 S hS)
  rw [if_pos hb] at h
  refine H.reg' ?_
  refine HO.fin' 3 ?_
  exact H.ren' hS [0, 1, 2] (fieldsC_L4_ok (x.1, x.2.1, y6.1, y6.2.2) r h W0 w0 S hS)
def fieldsC_L1 (x : Bool × Int × (List S36)) : Option (Int × Int × Int × Int × Int × (List Int) × Bool) :=
  if x.1 = true then
    (sub' x.2.2 1 (x.2.2.length : Int)) >>= fun y4 =>
    fieldsC_L2 (x.2.1, (-1), y4)
  else
    some (x.2.1, (-1), 0, 0, 0, [], false)
theorem fieldsC_L1_ok : ∀ (x : Bool × Int × (List S36)) (r : Int × Int × Int × Int × Int × (List Int) × Bool), fieldsC_L1 x = some r → ∀ (W0 w0 : World) (S : Own), Std W0 w0 S 0 → H Tryd.prog w0 S 111 (cR (cR (cR (cR (cL (cR (cR (cR (cR (cB Tryd.f64)))))))))) (mkS [(2, .pointer (some ⟨0, 0, none⟩)), (4, .pointer (some ⟨1, 0, none⟩)), (5, .pointer (some ⟨2, 0, none⟩)), (6, .func (.func 88) #[] #[.pointer (some ⟨2, 0, none⟩)]), (40, .bool x.1)] [(0, .cells [.int .u8 0, .int .i64 0, .int .i64 0, .int .i64 0, .int .u8 0, .slice none 0 0] 70 6), (1, .cells [.int .u8 x.2.1, .int .i64 (-1), .int .i64 0, .int .i64 0, .int .u8 0, .slice none 0 0] 70 6), (2, .cells [ls 5 false enc36 x.2.2] 34 1)] 3 []) (Kseq Tryd.prog w0 S 111 (cR (cR (cR (cR (cR (cB Tryd.f64)))))) (KEnd Tryd.prog Tryd.f64 (PEnd w0 S (.returned (.tuple #[.agg #[.int .u8 r.1, .int .i64 r.2.1, .int .i64 r.2.2.1, .int .i64 r.2.2.2.1, .int .u8 r.2.2.2.2.1, ls 1 false (encI .u8) r.2.2.2.2.2.1], .bool r.2.2.2.2.2.2]))))) := by
  intro x r h
  unfold fieldsC_L1 at h
  intro W0 w0 S hS
  haveI := hS.noEx Tryd.prog
  refine H.cS' (x.1) (fun hb => ?_) (fun hb => ?_)
  · rw [if_pos hb] at h
    refine H.reg' ?_
    refine HO.go' 1 ?_
    obtain ⟨y4, hy, h⟩ := bindS h
    refine HO.valA (sl1_aop (enc := enc36) (k := 5) (j := .i64) false hy (by kernel_rfl)) ?_
    refine HO.fin' 1 ?_
    exact H.ren' hS [0, 1, 2] (fieldsC_L2_ok (x.2.1, (-1), y4) r h W0 w0 S hS)
  rw [if_neg (ne_true hb)] at h
  refine H.sr' 3 ?_
  refine H.ret' ?_
  refine Kseq_ret ?_
  obtain rfl := Option.some.inj h
  exact KEnd.retW (v := .tuple #[.agg #[.int .u8 x.2.1, .int .i64 (-1), .int .i64 0, .int .i64 0, .int .u8 0, .slice none 0 0], .bool false]) (.tuple [.agg [.keep, .keep, .keep, .keep, .keep, .list 1 false], .keep]) (by kernel_rfl) (by kernel_rfl) (by kernel_rfl) (by kernel_rfl)
def fieldsC (x : Int × Int × Bool × (List Int) × (List S36)) : Option (Int × Int × Int × Int × Int × (List Int) × Bool) :=
  (takeF (0, 2, 0, 127, x.2.2.2.2)) >>= fun y1 =>
  if y1.2.1 = true then
    fieldsC_L2 ((IntKind.u8.wrap x.2.1), y1.1, y1.2.2)
  else
    if 0 < (y1.2.2.length : Int) then
      (at' y1.2.2 0) >>= fun y2 =>
      (sameT (y2.c0, y2.c1, y2.c2, y2.c3, y2.c4, 0, 5, false, [], [])) >>= fun y3 =>
      fieldsC_L1 (y3, (IntKind.u8.wrap x.2.1), y1.2.2)
    else
      fieldsC_L1 (false, (IntKind.u8.wrap x.2.1), y1.2.2)
theorem fieldsC_ok : ∀ (x : Int × Int × Bool × (List Int) × (List S36)) (r : Int × Int × Int × Int × Int × (List Int) × Bool), fieldsC x = some r → ∀ W0 : World, PTo Tryd.prog W0 64 #[.agg #[.int .u8 x.1, .int .u32 x.2.1, .bool x.2.2.1, ls 1 false (encI .u8) x.2.2.2.1, ls 5 false enc36 x.2.2.2.2]] (.returned (.tuple #[.agg #[.int .u8 r.1, .int .i64 r.2.1, .int .i64 r.2.2.1, .int .i64 r.2.2.2.1, .int .u8 r.2.2.2.2.1, ls 1 false (encI .u8) r.2.2.2.2.2.1], .bool r.2.2.2.2.2.2])) := by
  intro x r h
  unfold fieldsC at h
  intro W0
  refine PTo.of_body (fn := Tryd.f64) (code := cB Tryd.f64) Tryd.func64 rfl rfl ?_
  intro w0 S hS
  haveI := hS.noEx Tryd.prog
  refine H.sr' 3 ?_
  refine H.sr' 6 ?_
  refine H.sr' 4 ?_
  refine H.sr' 2 ?_
  refine H.seq' ?_
  refine H.sg' ?_
  refine HO.go' 1 ?_
  obtain ⟨y1, hy, h⟩ := bindS h
  refine HO.callFW hS (.tuple #[.int .i64 y1.1, .bool y1.2.1]) 4 [] [(0, .cells [.int .u8 x.1, .int .u32 x.2.1, .bool x.2.2.1, ls 1 false (encI .u8) x.2.2.2.1, ls 5 false enc36 x.2.2.2.2] 36 5), (1, .cells [.int .u8 0, .int .i64 0, .int .i64 0, .int .i64 0, .int .u8 0, .slice none 0 0] 70 6), (2, .cells [.int .u8 (IntKind.u8.wrap x.2.1), .int .i64 (-1), .int .i64 0, .int .i64 0, .int .u8 0, .slice none 0 0] 70 6), (3, .cells [ls 5 false enc36 y1.2.2] 34 1)] [3] [.keep, .keep, .keep, .keep, .keep] (takeF_ok (0, 2, 0, 127, x.2.2.2.2) y1 hy W0) (by kernel_rfl) (by kernel_rfl) ?_
  refine HO.fin' 5 ?_
  refine H.sr' 1 ?_
  refine H.cS' (y1.2.1) (fun hb => ?_) (fun hb => ?_)
  · rw [if_pos hb] at h
    refine H.reg' ?_
    refine HO.fin' 3 ?_
    exact H.ren' hS [1, 2, 3] (fieldsC_L2_ok ((IntKind.u8.wrap x.2.1), y1.1, y1.2.2) r h W0 w0 S hS)
  rw [if_neg (ne_true hb)] at h
  refine H.sg' ?_
  refine HO.go' 1 ?_
  refine HO.len (by kernel_rfl) (by kernel_rfl) (ls_size enc36 y1.2.2) ?_
  refine HO.go' 1 ?_
  refine HO.bo' (decide (0 < (y1.2.2.length : Int))) (fun hb => ?_) (fun hb => ?_)
  rotate_left
  · rw [if_neg (of_decide_eq_false hb)] at h
    refine HO.fin' 6 ?_
    exact H.ren' hS [1, 2, 3] (fieldsC_L1_ok (false, (IntKind.u8.wrap x.2.1), y1.2.2) r h W0 w0 S hS)
  rw [if_pos (of_decide_eq_true hb)] at h
  refine HO.go' 1 ?_
  obtain ⟨y2, hy, h⟩ := bindS h
  refine HO.idx (.agg #[.int .u8 y2.c0, .int .u32 y2.c1, .bool y2.c2, ls 1 false (encI .u8) y2.c3, ls 5 false enc36 y2.c4]) hy (enc36_eq y2) (by kernel_rfl) ?_
  refine HO.go' 2 ?_
  obtain ⟨y3, hy, h⟩ := bindS h
  refine HO.callW hS [.agg [.keep, .keep, .keep, .list 1 false, .list 5 false], .agg [.keep, .keep, .keep, .list 1 false, .list 5 false]] (sameT_ok (y2.c0, y2.c1, y2.c2, y2.c3, y2.c4, 0, 5, false, [], []) y3 hy W0) (by kernel_rfl) (by kernel_rfl) ?_
  refine HO.fin' 1 ?_
  exact H.ren' hS [1, 2, 3] (fieldsC_L1_ok (y3, (IntKind.u8.wrap x.2.1), y1.2.2) r h W0 w0 S hS)
def cpOf_L7 (x : Int × Int) : Option (Int × Int × Int × Int × Int × (List Int) × Int × Int × Int × Int × Int × (List Int) × Int) :=
  some (0, 0, 0, 0, 0, [], 5, x.1, 0, 0, x.2, [], 4)
theorem cpOf_L7_ok : ∀ (x : Int × Int) (r : Int × Int × Int × Int × Int × (List Int) × Int × Int × Int × Int × Int × (List Int) × Int), cpOf_L7 x = some r → ∀ (W0 w0 : World) (S : Own), Std W0 w0 S 0 → H Tryd.prog w0 S 75 (cR (cR (cR (cR (cR (cR (cR (cB Tryd.f32)))))))) (mkS [(2, .pointer (some ⟨0, 0, none⟩)), (3, .pointer (some ⟨1, 0, none⟩))] [(0, .cells [.int .u8 0, .int .i64 0, .int .i64 0, .int .i64 0, .int .u8 0, .slice none 0 0] 70 6), (1, .cells [.int .u8 5, .int .i64 x.1, .int .i64 0, .int .i64 0, .int .u8 x.2, .slice none 0 0] 70 6)] 2 []) (KEnd Tryd.prog Tryd.f32 (PEnd w0 S (.returned (.tuple #[.agg #[.int .u8 r.1, .int .i64 r.2.1, .int .i64 r.2.2.1, .int .i64 r.2.2.2.1, .int .u8 r.2.2.2.2.1, ls 1 false (encI .u8) r.2.2.2.2.2.1], .agg #[.int .u8 r.2.2.2.2.2.2.1, .int .i64 r.2.2.2.2.2.2.2.1, .int .i64 r.2.2.2.2.2.2.2.2.1, .int .i64 r.2.2.2.2.2.2.2.2.2.1, .int .u8 r.2.2.2.2.2.2.2.2.2.2.1, ls 1 false (encI .u8) r.2.2.2.2.2.2.2.2.2.2.2.1], .int .i64 r.2.2.2.2.2.2.2.2.2.2.2.2])))) := by
  intro x r h
  unfold cpOf_L7 at h
  intro W0 w0 S hS
  haveI := hS.noEx Tryd.prog
  refine H.seq' ?_
  refine H.drawQ ?_
  refine HQ.go' 5 ?_
  refine HQ.done (by kernel_rfl) (by kernel_rfl) (by kernel_rfl) ?_
  refine Kseq_norm ?_
  refine H.ret' ?_
  obtain rfl := Option.some.inj h
  exact KEnd.retW (v := .tuple #[.agg #[.int .u8 0, .int .i64 0, .int .i64 0, .int .i64 0, .int .u8 0, .slice none 0 0], .agg #[.int .u8 5, .int .i64 x.1, .int .i64 0, .int .i64 0, .int .u8 x.2, .slice none 0 0], .int .i64 4]) (.tuple [.agg [.keep, .keep, .keep, .keep, .keep, .list 1 false], .agg [.keep, .keep, .keep, .keep, .keep, .list 1 false], .keep]) (by kernel_rfl) (by kernel_rfl) (by kernel_rfl) (by kernel_rfl)
def cpOf_L6 (x : Int × Int × Bool × (List Int) × (List S36) × Int) : Option (Int × Int × Int × Int × Int × (List Int) × Int × Int × Int × Int × Int × (List Int) × Int) :=
  if 0 < (x.2.2.2.2.1.length : Int) then
    (at' x.2.2.2.2.1 0) >>= fun y4 =>
    (valueC (y4.c0, y4.c1, y4.c2, y4.c3, y4.c4, 0, 2, 0, 127)) >>= fun y5 =>
    if y5.2 = true then
      cpOf_L7 (y5.1, x.2.2.2.2.2)
    else
      cpOf_L7 ((-1), x.2.2.2.2.2)
  else
    cpOf_L7 ((-1), x.2.2.2.2.2)
theorem cpOf_L6_ok : ∀ (x : Int × Int × Bool × (List Int) × (List S36) × Int) (r : Int × Int × Int × Int × Int × (List Int) × Int × Int × Int × Int × Int × (List Int) × Int), cpOf_L6 x = some r → ∀ (W0 w0 : World) (S : Own), Std W0 w0 S 0 → H Tryd.prog w0 S 75 (cR (cR (cR (cR (cR (cR (cB Tryd.f32))))))) (mkS [(1, .pointer (some ⟨0, 0, none⟩)), (2, .pointer (some ⟨1, 0, none⟩)), (3, .pointer (some ⟨2, 0, none⟩))] [(0, .cells [.int .u8 x.1, .int .u32 x.2.1, .bool x.2.2.1, ls 1 false (encI .u8) x.2.2.2.1, ls 5 false enc36 x.2.2.2.2.1] 36 5), (1, .cells [.int .u8 0, .int .i64 0, .int .i64 0, .int .i64 0, .int .u8 0, .slice none 0 0] 70 6), (2, .cells [.int .u8 5, .int .i64 (-1), .int .i64 0, .int .i64 0, .int .u8 x.2.2.2.2.2, .slice none 0 0] 70 6)] 3 []) (KEnd Tryd.prog Tryd.f32 (PEnd w0 S (.returned (.tuple #[.agg #[.int .u8 r.1, .int .i64 r.2.1, .int .i64 r.2.2.1, .int .i64 r.2.2.2.1, .int .u8 r.2.2.2.2.1, ls 1 false (encI .u8) r.2.2.2.2.2.1], .agg #[.int .u8 r.2.2.2.2.2.2.1, .int .i64 r.2.2.2.2.2.2.2.1, .int .i64 r.2.2.2.2.2.2.2.2.1, .int .i64 r.2.2.2.2.2.2.2.2.2.1, .int .u8 r.2.2.2.2.2.2.2.2.2.2.1, ls 1 false (encI .u8) r.2.2.2.2.2.2.2.2.2.2.2.1], .int .i64 r.2.2.2.2.2.2.2.2.2.2.2.2])))) := by
  intro x r h
  unfold cpOf_L6 at h
  intro W0 w0 S hS
  haveI := hS.noEx Tryd.prog
  refine H.seq' ?_
  refine H.sg' ?_
  refine HO.go' 2 ?_
  refine HO.len (by kernel_rfl) (by kernel_rfl) (ls_size enc36 x.2.2.2.2.1) ?_
  refine HO.fin' 1 ?_
  refine H.cS' (decide (0 < (x.2.2.2.2.1.length : Int))) (fun hb => ?_) (fun hb => ?_)
  rotate_left
  · rw [if_neg (of_decide_eq_false hb)] at h
    refine H.skp' ?_
    refine Kseq_norm ?_
    exact H.ren' hS [1, 2] (cpOf_L7_ok ((-1), x.2.2.2.2.2) r h W0 w0 S hS)
  rw [if_pos (of_decide_eq_true hb)] at h
  refine H.sg' ?_
  refine HO.go' 2 ?_
  obtain ⟨y4, hy, h⟩ := bindS h
  refine HO.idx (.agg #[.int .u8 y4.c0, .int .u32 y4.c1, .bool y4.c2, ls 1 false (encI .u8) y4.c3, ls 5 false enc36 y4.c4]) hy (enc36_eq y4) (by kernel_rfl) ?_
  refine HO.go' 1 ?_
  obtain ⟨y5, hy, h⟩ := bindS h
  refine HO.callW hS [.agg [.keep, .keep, .keep, .list 1 false, .list 5 false], .keep, .keep, .keep, .keep] (valueC_ok (y4.c0, y4.c1, y4.c2, y4.c3, y4.c4, 0, 2, 0, 127) y5 hy W0) (by kernel_rfl) (by kernel_rfl) ?_
  refine HO.fin' 5 ?_
  refine H.sr' 1 ?_
  refine H.cS' (y5.2) (fun hb => ?_) (fun hb => ?_)
  rotate_left
  · rw [if_neg (ne_true hb)] at h
    refine H.skp' ?_
    refine Kseq_norm ?_
    exact H.ren' hS [1, 2] (cpOf_L7_ok ((-1), x.2.2.2.2.2) r h W0 w0 S hS)
  rw [if_pos hb] at h
  refine H.reg' ?_
  refine HO.fin' 3 ?_
  exact H.ren' hS [1, 2] (cpOf_L7_ok (y5.1, x.2.2.2.2.2) r h W0 w0 S hS)
def cpOf_L5 (x : Bool × Bool × Int × Int × Bool × (List Int) × (List S36)) : Option (Int × Int × Int × Int × Int × (List Int) × Int × Int × Int × Int × Int × (List Int) × Int) :=
  if x.2.1 = true then
    some (0, 0, 0, 0, 0, [], 0, 0, 0, 0, 0, [], 4)
  else
    if (!x.1) = true then
      cpOf_L6 (x.2.2.1, x.2.2.2.1, x.2.2.2.2.1, x.2.2.2.2.2.1, x.2.2.2.2.2.2, 1)
    else
      cpOf_L6 (x.2.2.1, x.2.2.2.1, x.2.2.2.2.1, x.2.2.2.2.2.1, x.2.2.2.2.2.2, 2)
theorem cpOf_L5_ok : ∀ (x : Bool × Bool × Int × Int × Bool × (List Int) × (List S36)) (r : Int × Int × Int × Int × Int × (List Int) × Int × Int × Int × Int × Int × (List Int) × Int), cpOf_L5 x = some r → ∀ (W0 w0 : World) (S : Own), Std W0 w0 S 0 → H Tryd.prog w0 S 75 (cR (cL (cR (cR (cR (cB Tryd.f32)))))) (mkS [(1, .pointer (some ⟨0, 0, none⟩)), (2, .pointer (some ⟨1, 0, none⟩)), (3, .pointer (some ⟨2, 0, none⟩)), (5, .bool x.1), (51, .bool x.2.1)] [(0, .cells [.int .u8 x.2.2.1, .int .u32 x.2.2.2.1, .bool x.2.2.2.2.1, ls 1 false (encI .u8) x.2.2.2.2.2.1, ls 5 false enc36 x.2.2.2.2.2.2] 36 5), (1, .cells [.int .u8 0, .int .i64 0, .int .i64 0, .int .i64 0, .int .u8 0, .slice none 0 0] 70 6), (2, .cells [.int .u8 0, .int .i64 0, .int .i64 0, .int .i64 0, .int .u8 0, .slice none 0 0] 70 6)] 3 []) (Kseq Tryd.prog w0 S 75 (cR (cR (cR (cR (cB Tryd.f32))))) (KEnd Tryd.prog Tryd.f32 (PEnd w0 S (.returned (.tuple #[.agg #[.int .u8 r.1, .int .i64 r.2.1, .int .i64 r.2.2.1, .int .i64 r.2.2.2.1, .int .u8 r.2.2.2.2.1, ls 1 false (encI .u8) r.2.2.2.2.2.1], .agg #[.int .u8 r.2.2.2.2.2.2.1, .int .i64 r.2.2.2.2.2.2.2.1, .int .i64 r.2.2.2.2.2.2.2.2.1, .int .i64 r.2.2.2.2.2.2.2.2.2.1, .int .u8 r.2.2.2.2.2.2.2.2.2.2.1, ls 1 false (encI .u8) r.2.2.2.2.2.2.2.2.2.2.2.1], .int .i64 r.2.2.2.2.2.2.2.2.2.2.2.2]))))) := by
  intro x r h
  unfold cpOf_L5 at h
  intro W0 w0 S hS
  haveI := hS.noEx Tryd.prog
  refine H.cS' (x.2.1) (fun hb => ?_) (fun hb => ?_)
  · rw [if_pos hb] at h
    refine H.sr' 5 ?_
    refine H.ret' ?_
    refine Kseq_ret ?_
    obtain rfl := Option.some.inj h
    exact KEnd.retW (v := .tuple #[.agg #[.int .u8 0, .int .i64 0, .int .i64 0, .int .i64 0, .int .u8 0, .slice none 0 0], .agg #[.int .u8 0, .int .i64 0, .int .i64 0, .int .i64 0, .int .u8 0, .slice none 0 0], .int .i64 4]) (.tuple [.agg [.keep, .keep, .keep, .keep, .keep, .list 1 false], .agg [.keep, .keep, .keep, .keep, .keep, .list 1 false], .keep]) (by kernel_rfl) (by kernel_rfl) (by kernel_rfl) (by kernel_rfl)
  rw [if_neg (ne_true hb)] at h
  refine H.skp' ?_
  refine Kseq_norm ?_
  refine H.sr' 2 ?_
  refine H.seq' ?_
  refine H.sr' 2 ?_
  refine H.cS' (!x.1) (fun hb => ?_) (fun hb => ?_)
  rotate_left
  · rw [if_neg (ne_true hb)] at h
    refine H.skp' ?_
    refine Kseq_norm ?_
    exact H.ren' hS [0, 1, 2] (cpOf_L6_ok (x.2.2.1, x.2.2.2.1, x.2.2.2.2.1, x.2.2.2.2.2.1, x.2.2.2.2.2.2, 2) r h W0 w0 S hS)
  rw [if_pos hb] at h
  refine H.reg' ?_
  refine HO.fin' 2 ?_
  exact H.ren' hS [0, 1, 2] (cpOf_L6_ok (x.2.2.1, x.2.2.2.1, x.2.2.2.2.1, x.2.2.2.2.2.1, x.2.2.2.2.2.2, 1) r h W0 w0 S hS)
def cpOf_L4 (x : Bool × Int × Int × Bool × (List Int) × (List S36)) : Option (Int × Int × Int × Int × Int × (List Int) × Int × Int × Int × Int × Int × (List Int) × Int) :=
  if x.1 = true then
    cpOf_L5 (x.1, (decide (x.2.2.1 = 5)), x.2.1, x.2.2.1, x.2.2.2.1, x.2.2.2.2.1, x.2.2.2.2.2)
  else
    cpOf_L5 (x.1, false, x.2.1, x.2.2.1, x.2.2.2.1, x.2.2.2.2.1, x.2.2.2.2.2)
theorem cpOf_L4_ok : ∀ (x : Bool × Int × Int × Bool × (List Int) × (List S36)) (r : Int × Int × Int × Int × Int × (List Int) × Int × Int × Int × Int × Int × (List Int) × Int), cpOf_L4 x = some r → ∀ (W0 w0 : World) (S : Own), Std W0 w0 S 0 → H Tryd.prog w0 S 75 (cR (cR (cR (cB Tryd.f32)))) (mkS [(1, .pointer (some ⟨0, 0, none⟩)), (2, .pointer (some ⟨1, 0, none⟩)), (3, .pointer (some ⟨2, 0, none⟩)), (5, .bool x.1)] [(0, .cells [.int .u8 x.2.1, .int .u32 x.2.2.1, .bool x.2.2.2.1, ls 1 false (encI .u8) x.2.2.2.2.1, ls 5 false enc36 x.2.2.2.2.2] 36 5), (1, .cells [.int .u8 0, .int .i64 0, .int .i64 0, .int .i64 0, .int .u8 0, .slice none 0 0] 70 6), (2, .cells [.int .u8 0, .int .i64 0, .int .i64 0, .int .i64 0, .int .u8 0, .slice none 0 0] 70 6)] 3 []) (KEnd Tryd.prog Tryd.f32 (PEnd w0 S (.returned (.tuple #[.agg #[.int .u8 r.1, .int .i64 r.2.1, .int .i64 r.2.2.1, .int .i64 r.2.2.2.1, .int .u8 r.2.2.2.2.1, ls 1 false (encI .u8) r.2.2.2.2.2.1], .agg #[.int .u8 r.2.2.2.2.2.2.1, .int .i64 r.2.2.2.2.2.2.2.1, .int .i64 r.2.2.2.2.2.2.2.2.1, .int .i64 r.2.2.2.2.2.2.2.2.2.1, .int .u8 r.2.2.2.2.2.2.2.2.2.2.1, ls 1 false (encI .u8) r.2.2.2.2.2.2.2.2.2.2.2.1], .int .i64 r.2.2.2.2.2.2.2.2.2.2.2.2])))) := by
  intro x r h
  unfold cpOf_L4 at h
  intro W0 w0 S hS
  haveI := hS.noEx Tryd.prog
  refine H.seq' ?_
  refine H.sg' ?_
  refine HO.go' 1 ?_
  refine HO.bo' x.1 (fun hb => ?_) (fun hb => ?_)
  · rw [if_pos hb] at h
    refine HO.fin' 4 ?_
    exact H.ren' hS [0, 1, 2] (cpOf_L5_ok (x.1, (decide (x.2.2.1 = 5)), x.2.1, x.2.2.1, x.2.2.2.1, x.2.2.2.2.1, x.2.2.2.2.2) r h W0 w0 S hS)
  rw [if_neg (ne_true hb)] at h
  refine HO.fin' 4 ?_
  exact H.ren' hS [0, 1, 2] (cpOf_L5_ok (x.1, false, x.2.1, x.2.2.1, x.2.2.2.1, x.2.2.2.2.1, x.2.2.2.2.2) r h W0 w0 S hS)
def cpOf_L3 (x : Bool × Bool × Int × Int × Bool × (List Int) × (List S36) × Int × Int × Int × Int × Int × (List Int)) : Option (Int × Int × Int × Int × Int × (List Int) × Int × Int × Int × Int × Int × (List Int) × Int) :=
  if x.2.1 = true then
    some (x.2.2.2.2.2.2.2.1, x.2.2.2.2.2.2.2.2.1, x.2.2.2.2.2.2.2.2.2.1, x.2.2.2.2.2.2.2.2.2.2.1, x.2.2.2.2.2.2.2.2.2.2.2.1, x.2.2.2.2.2.2.2.2.2.2.2.2, 0, 0, 0, 0, 0, [], 0)
  else
    cpOf_L4 (x.1, x.2.2.1, x.2.2.2.1, x.2.2.2.2.1, x.2.2.2.2.2.1, x.2.2.2.2.2.2.1)
theorem cpOf_L3_ok : ∀ (x : Bool × Bool × Int × Int × Bool × (List Int) × (List S36) × Int × Int × Int × Int × Int × (List Int)) (r : Int × Int × Int × Int × Int × (List Int) × Int × Int × Int × Int × Int × (List Int) × Int), cpOf_L3 x = some r → ∀ (W0 w0 : World) (S : Own), Std W0 w0 S 0 → H Tryd.prog w0 S 75 (cR (cR (cL (cR (cL (cR (cR (cB Tryd.f32)))))))) (mkS [(1, .pointer (some ⟨0, 0, none⟩)), (2, .pointer (some ⟨1, 0, none⟩)), (3, .pointer (some ⟨2, 0, none⟩)), (5, .bool x.1), (6, .pointer (some ⟨3, 0, none⟩)), (43, .bool x.2.1)] [(0, .cells [.int .u8 x.2.2.1, .int .u32 x.2.2.2.1, .bool x.2.2.2.2.1, ls 1 false (encI .u8) x.2.2.2.2.2.1, ls 5 false enc36 x.2.2.2.2.2.2.1] 36 5), (1, .cells [.int .u8 0, .int .i64 0, .int .i64 0, .int .i64 0, .int .u8 0, .slice none 0 0] 70 6), (2, .cells [.int .u8 0, .int .i64 0, .int .i64 0, .int .i64 0, .int .u8 0, .slice none 0 0] 70 6), (3, .cells [.int .u8 x.2.2.2.2.2.2.2.1, .int .i64 x.2.2.2.2.2.2.2.2.1, .int .i64 x.2.2.2.2.2.2.2.2.2.1, .int .i64 x.2.2.2.2.2.2.2.2.2.2.1, .int .u8 x.2.2.2.2.2.2.2.2.2.2.2.1, ls 1 false (encI .u8) x.2.2.2.2.2.2.2.2.2.2.2.2] 70 6)] 4 []) (Kseq Tryd.prog w0 S 75 (cR (cR (cR (cB Tryd.f32)))) (KEnd Tryd.prog Tryd.f32 (PEnd w0 S (.returned (.tuple #[.agg #[.int .u8 r.1, .int .i64 r.2.1, .int .i64 r.2.2.1, .int .i64 r.2.2.2.1, .int .u8 r.2.2.2.2.1, ls 1 false (encI .u8) r.2.2.2.2.2.1], .agg #[.int .u8 r.2.2.2.2.2.2.1, .int .i64 r.2.2.2.2.2.2.2.1, .int .i64 r.2.2.2.2.2.2.2.2.1, .int .i64 r.2.2.2.2.2.2.2.2.2.1, .int .u8 r.2.2.2.2.2.2.2.2.2.2.1, ls 1 false (encI .u8) r.2.2.2.2.2.2.2.2.2.2.2.1], .int .i64 r.2.2.2.2.2.2.2.2.2.2.2.2]))))) := by
  intro x r h
  unfold cpOf_L3 at h
  intro W0 w0 S hS
  haveI := hS.noEx Tryd.prog
  refine H.cS' (x.2.1) (fun hb => ?_) (fun hb => ?_)
  rotate_left
  · rw [if_neg (ne_true hb)] at h
    refine H.skp' ?_
    refine Kseq_norm ?_
    exact H.ren' hS [0, 1, 2] (cpOf_L4_ok (x.1, x.2.2.1, x.2.2.2.1, x.2.2.2.2.1, x.2.2.2.2.2.1, x.2.2.2.2.2.2.1) r h W0 w0 S hS)
  rw [if_pos hb] at h
  refine H.sr' 5 ?_
  refine H.ret' ?_
  refine Kseq_ret ?_
  obtain rfl := Option.some.inj h
  exact KEnd.retW (v := .tuple #[.agg #[.int .u8 x.2.2.2.2.2.2.2.1, .int .i64 x.2.2.2.2.2.2.2.2.1, .int .i64 x.2.2.2.2.2.2.2.2.2.1, .int .i64 x.2.2.2.2.2.2.2.2.2.2.1, .int .u8 x.2.2.2.2.2.2.2.2.2.2.2.1, ls 1 false (encI .u8) x.2.2.2.2.2.2.2.2.2.2.2.2], .agg #[.int .u8 0, .int .i64 0, .int .i64 0, .int .i64 0, .int .u8 0, .slice none 0 0], .int .i64 0]) (.tuple [.agg [.keep, .keep, .keep, .keep, .keep, .list 1 false], .agg [.keep, .keep, .keep, .keep, .keep, .list 1 false], .keep]) (by kernel_rfl) (by kernel_rfl) (by kernel_rfl) (by kernel_rfl)
def cpOf_L2 (x : Bool × Bool × Int × Int × Bool × (List Int) × (List S36)) : Option (Int × Int × Int × Int × Int × (List Int) × Int × Int × Int × Int × Int × (List Int) × Int) :=
  if x.2.1 = true then
    (fieldsC (x.2.2.1, x.2.2.2.1, x.2.2.2.2.1, x.2.2.2.2.2.1, x.2.2.2.2.2.2)) >>= fun y2 =>
    if y2.2.2.2.2.2.2 = true then
      (cpCheck (y2.1, y2.2.1, y2.2.2.1, y2.2.2.2.1, y2.2.2.2.2.1, y2.2.2.2.2.2.1)) >>= fun y3 =>
      cpOf_L3 (x.1, (decide (y3 = 0)), x.2.2.1, x.2.2.2.1, x.2.2.2.2.1, x.2.2.2.2.2.1, x.2.2.2.2.2.2, y2.1, y2.2.1, y2.2.2.1, y2.2.2.2.1, y2.2.2.2.2.1, y2.2.2.2.2.2.1)
    else
      cpOf_L3 (x.1, false, x.2.2.1, x.2.2.2.1, x.2.2.2.2.1, x.2.2.2.2.2.1, x.2.2.2.2.2.2, y2.1, y2.2.1, y2.2.2.1, y2.2.2.2.1, y2.2.2.2.2.1, y2.2.2.2.2.2.1)
  else
    cpOf_L4 (x.1, x.2.2.1, x.2.2.2.1, x.2.2.2.2.1, x.2.2.2.2.2.1, x.2.2.2.2.2.2)
theorem cpOf_L2_ok : ∀ (x : Bool × Bool × Int × Int × Bool × (List Int) × (List S36)) (r : Int × Int × Int × Int × Int × (List Int) × Int × Int × Int × Int × Int × (List Int) × Int), cpOf_L2 x = some r → ∀ (W0 w0 : World) (S : Own), Std W0 w0 S 0 → H Tryd.prog w0 S 75 (cR (cL (cR (cR (cB Tryd.f32))))) (mkS [(1, .pointer (some ⟨0, 0, none⟩)), (2, .pointer (some ⟨1, 0, none⟩)), (3, .pointer (some ⟨2, 0, none⟩)), (5, .bool x.1), (32, .bool x.2.1)] [(0, .cells [.int .u8 x.2.2.1, .int .u32 x.2.2.2.1, .bool x.2.2.2.2.1, ls 1 false (encI .u8) x.2.2.2.2.2.1, ls 5 false enc36 x.2.2.2.2.2.2] 36 5), (1, .cells [.int .u8 0, .int .i64 0, .int .i64 0, .int .i64 0, .int .u8 0, .slice none 0 0] 70 6), (2, .cells [.int .u8 0, .int .i64 0, .int .i64 0, .int .i64 0, .int .u8 0, .slice none 0 0] 70 6)] 3 []) (Kseq Tryd.prog w0 S 75 (cR (cR (cR (cB Tryd.f32)))) (KEnd Tryd.prog Tryd.f32 (PEnd w0 S (.returned (.tuple #[.agg #[.int .u8 r.1, .int .i64 r.2.1, .int .i64 r.2.2.1, .int .i64 r.2.2.2.1, .int .u8 r.2.2.2.2.1, ls 1 false (encI .u8) r.2.2.2.2.2.1], .agg #[.int .u8 r.2.2.2.2.2.2.1, .int .i64 r.2.2.2.2.2.2.2.1, .int .i64 r.2.2.2.2.2.2.2.2.1, .int .i64 r.2.2.2.2.2.2.2.2.2.1, .int .u8 r.2.2.2.2.2.2.2.2.2.2.1, ls 1 false (encI .u8) r.2.2.2.2.2.2.2.2.2.2.2.1], .int .i64 r.2.2.2.2.2.2.2.2.2.2.2.2]))))) := by
  intro x r h
  unfold cpOf_L2 at h
  intro W0 w0 S hS
  haveI := hS.noEx Tryd.prog
  refine H.cS' (x.2.1) (fun hb => ?_) (fun hb => ?_)
  rotate_left
  · rw [if_neg (ne_true hb)] at h
    refine H.skp' ?_
    refine Kseq_norm ?_
    exact H.ren' hS [0, 1, 2] (cpOf_L4_ok (x.1, x.2.2.1, x.2.2.2.1, x.2.2.2.2.1, x.2.2.2.2.2.1, x.2.2.2.2.2.2) r h W0 w0 S hS)
  rw [if_pos hb] at h
  refine H.sg' ?_
  refine HO.go' 1 ?_
  obtain ⟨y2, hy, h⟩ := bindS h
  refine HO.callW hS [.agg [.keep, .keep, .keep, .list 1 false, .list 5 false]] (fieldsC_ok (x.2.2.1, x.2.2.2.1, x.2.2.2.2.1, x.2.2.2.2.2.1, x.2.2.2.2.2.2) y2 hy W0) (by kernel_rfl) (by kernel_rfl) ?_
  refine HO.fin' 6 ?_
  refine H.sg' ?_
  refine HO.go' 1 ?_
  refine HO.bo' y2.2.2.2.2.2.2 (fun hb => ?_) (fun hb => ?_)
  rotate_left
  · rw [if_neg (ne_true hb)] at h
    refine HO.fin' 4 ?_
    exact H.ren' hS [0, 1, 2, 3] (cpOf_L3_ok (x.1, false, x.2.2.1, x.2.2.2.1, x.2.2.2.2.1, x.2.2.2.2.2.1, x.2.2.2.2.2.2, y2.1, y2.2.1, y2.2.2.1, y2.2.2.2.1, y2.2.2.2.2.1, y2.2.2.2.2.2.1) r h W0 w0 S hS)
  rw [if_pos hb] at h
  refine HO.go' 1 ?_
  obtain ⟨y3, hy, h⟩ := bindS h
  refine HO.callW hS [.agg [.keep, .keep, .keep, .keep, .keep, .list 1 false]] (cpCheck_ok (y2.1, y2.2.1, y2.2.2.1, y2.2.2.2.1, y2.2.2.2.2.1, y2.2.2.2.2.2.1) y3 hy W0) (by kernel_rfl) (by kernel_rfl) ?_
  refine HO.fin' 2 ?_
  exact H.ren' hS [0, 1, 2, 3] (cpOf_L3_ok (x.1, (decide (y3 = 0)), x.2.2.1, x.2.2.2.1, x.2.2.2.2.1, x.2.2.2.2.2.1, x.2.2.2.2.2.2, y2.1, y2.2.1, y2.2.2.1, y2.2.2.2.1, y2.2.2.2.2.1, y2.2.2.2.2.2.1) r h W0 w0 S hS)
def cpOf_L1 (x : Bool × Int × Int × Bool × (List Int) × (List S36)) : Option (Int × Int × Int × Int × Int × (List Int) × Int × Int × Int × Int × Int × (List Int) × Int) :=
  if x.1 = true then
    (check (x.2.1, x.2.2.1, x.2.2.2.1, x.2.2.2.2.1, x.2.2.2.2.2)) >>= fun y1 =>
    cpOf_L2 (x.1, (decide (y1 = 0)), x.2.1, x.2.2.1, x.2.2.2.1, x.2.2.2.2.1, x.2.2.2.2.2)
  else
    cpOf_L2 (x.1, false, x.2.1, x.2.2.1, x.2.2.2.1, x.2.2.2.2.1, x.2.2.2.2.2)
theorem cpOf_L1_ok : ∀ (x : Bool × Int × Int × Bool × (List Int) × (List S36)) (r : Int × Int × Int × Int × Int × (List Int) × Int × Int × Int × Int × Int × (List Int) × Int), cpOf_L1 x = some r → ∀ (W0 w0 : World) (S : Own), Std W0 w0 S 0 → H Tryd.prog w0 S 75 (cR (cR (cB Tryd.f32))) (mkS [(1, .pointer (some ⟨0, 0, none⟩)), (2, .pointer (some ⟨1, 0, none⟩)), (3, .pointer (some ⟨2, 0, none⟩)), (5, .bool x.1)] [(0, .cells [.int .u8 x.2.1, .int .u32 x.2.2.1, .bool x.2.2.2.1, ls 1 false (encI .u8) x.2.2.2.2.1, ls 5 false enc36 x.2.2.2.2.2] 36 5), (1, .cells [.int .u8 0, .int .i64 0, .int .i64 0, .int .i64 0, .int .u8 0, .slice none 0 0] 70 6), (2, .cells [.int .u8 0, .int .i64 0, .int .i64 0, .int .i64 0, .int .u8 0, .slice none 0 0] 70 6)] 3 []) (KEnd Tryd.prog Tryd.f32 (PEnd w0 S (.returned (.tuple #[.agg #[.int .u8 r.1, .int .i64 r.2.1, .int .i64 r.2.2.1, .int .i64 r.2.2.2.1, .int .u8 r.2.2.2.2.1, ls 1 false (encI .u8) r.2.2.2.2.2.1], .agg #[.int .u8 r.2.2.2.2.2.2.1, .int .i64 r.2.2.2.2.2.2.2.1, .int .i64 r.2.2.2.2.2.2.2.2.1, .int .i64 r.2.2.2.2.2.2.2.2.2.1, .int .u8 r.2.2.2.2.2.2.2.2.2.2.1, ls 1 false (encI .u8) r.2.2.2.2.2.2.2.2.2.2.2.1], .int .i64 r.2.2.2.2.2.2.2.2.2.2.2.2])))) := by
  intro x r h
  unfold cpOf_L1 at h
  intro W0 w0 S hS
  haveI := hS.noEx Tryd.prog
  refine H.seq' ?_
  refine H.sg' ?_
  refine HO.go' 1 ?_
  refine HO.bo' x.1 (fun hb => ?_) (fun hb => ?_)
  rotate_left
  · rw [if_neg (ne_true hb)] at h
    refine HO.fin' 4 ?_
    exact H.ren' hS [0, 1, 2] (cpOf_L2_ok (x.1, false, x.2.1, x.2.2.1, x.2.2.2.1, x.2.2.2.2.1, x.2.2.2.2.2) r h W0 w0 S hS)
  rw [if_pos hb] at h
  refine HO.go' 1 ?_
  obtain ⟨y1, hy, h⟩ := bindS h
  refine HO.callW hS [.agg [.keep, .keep, .keep, .list 1 false, .list 5 false]] (check_ok (x.2.1, x.2.2.1, x.2.2.2.1, x.2.2.2.2.1, x.2.2.2.2.2) y1 hy W0) (by kernel_rfl) (by kernel_rfl) ?_
  refine HO.fin' 2 ?_
  exact H.ren' hS [0, 1, 2] (cpOf_L2_ok (x.1, (decide (y1 = 0)), x.2.1, x.2.2.1, x.2.2.2.1, x.2.2.2.2.1, x.2.2.2.2.2) r h W0 w0 S hS)
def cpOf (x : Int × Int × Bool × (List Int) × (List S36)) : Option (Int × Int × Int × Int × Int × (List Int) × Int × Int × Int × Int × Int × (List Int) × Int) :=
  if x.2.2.1 = true then
    if x.1 = 2 then
      if 1 ≤ x.2.1 then
        cpOf_L1 ((decide (x.2.1 ≤ 5)), x.1, x.2.1, x.2.2.1, x.2.2.2.1, x.2.2.2.2)
      else
        cpOf_L1 (false, x.1, x.2.1, x.2.2.1, x.2.2.2.1, x.2.2.2.2)
    else
      cpOf_L1 (false, x.1, x.2.1, x.2.2.1, x.2.2.2.1, x.2.2.2.2)
  else
    cpOf_L1 (false, x.1, x.2.1, x.2.2.1, x.2.2.2.1, x.2.2.2.2)
theorem cpOf_ok : ∀ (x : Int × Int × Bool × (List Int) × (List S36)) (r : Int × Int × Int × Int × Int × (List Int) × Int × Int × Int × Int × Int × (List Int) × Int), cpOf x = some r → ∀ W0 : World, PTo Tryd.prog W0 32 #[.agg #[.int .u8 x.1, .int .u32 x.2.1, .bool x.2.2.1, ls 1 false (encI .u8) x.2.2.2.1, ls 5 false enc36 x.2.2.2.2]] (.returned (.tuple #[.agg #[.int .u8 r.1, .int .i64 r.2.1, .int .i64 r.2.2.1, .int .i64 r.2.2.2.1, .int .u8 r.2.2.2.2.1, ls 1 false (encI .u8) r.2.2.2.2.2.1], .agg #[.int .u8 r.2.2.2.2.2.2.1, .int .i64 r.2.2.2.2.2.2.2.1, .int .i64 r.2.2.2.2.2.2.2.2.1, .int .i64 r.2.2.2.2.2.2.2.2.2.1, .int .u8 r.2.2.2.2.2.2.2.2.2.2.1, ls 1 false (encI .u8) r.2.2.2.2.2.2.2.2.2.2.2.1], .int .i64 r.2.2.2.2.2.2.2.2.2.2.2.2])) := by
  intro x r h
  unfold cpOf at h
  intro W0
  refine PTo.of_body (fn := Tryd.f32) (code := cB Tryd.f32) Tryd.func32 rfl rfl ?_
  intro w0 S hS
  haveI := hS.noEx Tryd.prog
  refine H.sr' 4 ?_
  refine H.sg' ?_
  refine HO.go' 2 ?_
  refine HO.bo' x.2.2.1 (fun hb => ?_) (fun hb => ?_)
  rotate_left
  · rw [if_neg (ne_true hb)] at h
    refine HO.fin' 15 ?_
    exact H.ren' hS [0, 1, 2] (cpOf_L1_ok (false, x.1, x.2.1, x.2.2.1, x.2.2.2.1, x.2.2.2.2) r h W0 w0 S hS)
  rw [if_pos hb] at h
  refine HO.go' 4 ?_
  refine HO.bo' (decide (x.1 = 2)) (fun hb => ?_) (fun hb => ?_)
  rotate_left
  · rw [if_neg (of_decide_eq_false hb)] at h
    refine HO.fin' 10 ?_
    exact H.ren' hS [0, 1, 2] (cpOf_L1_ok (false, x.1, x.2.1, x.2.2.1, x.2.2.2.1, x.2.2.2.2) r h W0 w0 S hS)
  rw [if_pos (of_decide_eq_true hb)] at h
  refine HO.go' 4 ?_
  refine HO.bo' (decide (1 ≤ x.2.1)) (fun hb => ?_) (fun hb => ?_)
  · rw [if_pos (of_decide_eq_true hb)] at h
    refine HO.fin' 5 ?_
    exact H.ren' hS [0, 1, 2] (cpOf_L1_ok ((decide (x.2.1 ≤ 5)), x.1, x.2.1, x.2.2.1, x.2.2.2.1, x.2.2.2.2) r h W0 w0 S hS)
  rw [if_neg (of_decide_eq_false hb)] at h
  refine HO.fin' 5 ?_
  exact H.ren' hS [0, 1, 2] (cpOf_L1_ok (false, x.1, x.2.1, x.2.2.1, x.2.2.2.1, x.2.2.2.2) r h W0 w0 S hS)
def lawPart (x : Int × Int × Int) : Option (Int × Int × Bool × (List Int) × (List S36)) :=
  (intC x.2.2) >>= fun y1 =>
  some (x.1, x.2.1, false, y1, [])
theorem lawPart_ok : ∀ (x : Int × Int × Int) (r : Int × Int × Bool × (List Int) × (List S36)), lawPart x = some r → ∀ W0 : World, PTo Tryd.prog W0 63 #[.int .u8 x.1, .int .u32 x.2.1, .int .i64 x.2.2] (.returned (.agg #[.int .u8 r.1, .int .u32 r.2.1, .bool r.2.2.1, ls 1 false (encI .u8) r.2.2.2.1, ls 5 false enc36 r.2.2.2.2])) := by
  intro x r h
  unfold lawPart at h
  intro W0
  refine PTo.of_body (fn := Tryd.f63) (code := cB Tryd.f63) Tryd.func63 rfl rfl ?_
  intro w0 S hS
  haveI := hS.noEx Tryd.prog
  refine H.sr' 1 ?_
  refine H.sg' ?_
  refine HO.go' 3 ?_
  obtain ⟨y1, hy, h⟩ := bindS h
  refine HO.callW hS [.keep] (intC_ok x.2.2 y1 hy W0) (by kernel_rfl) (by kernel_rfl) ?_
  refine HO.fin' 2 ?_
  refine H.ret' ?_
  obtain rfl := Option.some.inj h
  exact KEnd.retW (v := .agg #[.int .u8 x.1, .int .u32 x.2.1, .bool false, ls 1 false (encI .u8) y1, .slice none 0 0]) (.agg [.keep, .keep, .keep, .list 1 false, .list 5 false]) (by kernel_rfl) (by kernel_rfl) (by kernel_rfl) (by kernel_rfl)
def lawTree (x : Int × Int × Int × Int × Int × (List Int)) : Option (Int × Int × Bool × (List Int) × (List S36)) :=
  if x.2.1 = (-1) then
    if x.1 = 1 then
      if 0 ≤ x.2.2.1 then
        (lawPart (2, 0, x.2.2.1)) >>= fun y1 =>
        if x.1 = 5 then
          (lawPart (2, 1, (IntKind.i64.wrap x.2.2.2.2.1))) >>= fun y2 =>
          some (2, (IntKind.u32.wrap x.1), true, [], [(S36.mk 0 5 false [] []), (S36.mk y1.1 y1.2.1 y1.2.2.1 y1.2.2.2.1 y1.2.2.2.2), (S36.mk y2.1 y2.2.1 y2.2.2.1 y2.2.2.2.1 y2.2.2.2.2)])
        else
          (lawPart (0, 10, x.2.2.2.1)) >>= fun y3 =>
          some (2, (IntKind.u32.wrap x.1), true, [], [(S36.mk 0 5 false [] []), (S36.mk y1.1 y1.2.1 y1.2.2.1 y1.2.2.2.1 y1.2.2.2.2), (S36.mk y3.1 y3.2.1 y3.2.2.1 y3.2.2.2.1 y3.2.2.2.2), (S36.mk 0 4 false x.2.2.2.2.2 [])])
      else
        if x.1 = 5 then
          (lawPart (2, 1, (IntKind.i64.wrap x.2.2.2.2.1))) >>= fun y4 =>
          some (2, (IntKind.u32.wrap x.1), true, [], [(S36.mk 0 5 false [] []), (S36.mk y4.1 y4.2.1 y4.2.2.1 y4.2.2.2.1 y4.2.2.2.2)])
        else
          (lawPart (0, 10, x.2.2.2.1)) >>= fun y5 =>
          some (2, (IntKind.u32.wrap x.1), true, [], [(S36.mk 0 5 false [] []), (S36.mk y5.1 y5.2.1 y5.2.2.1 y5.2.2.2.1 y5.2.2.2.2), (S36.mk 0 4 false x.2.2.2.2.2 [])])
    else
      if x.1 = 5 then
        (lawPart (2, 1, (IntKind.i64.wrap x.2.2.2.2.1))) >>= fun y6 =>
        some (2, (IntKind.u32.wrap x.1), true, [], [(S36.mk 0 5 false [] []), (S36.mk y6.1 y6.2.1 y6.2.2.1 y6.2.2.2.1 y6.2.2.2.2)])
      else
        (lawPart (0, 10, x.2.2.2.1)) >>= fun y7 =>
        some (2, (IntKind.u32.wrap x.1), true, [], [(S36.mk 0 5 false [] []), (S36.mk y7.1 y7.2.1 y7.2.2.1 y7.2.2.2.1 y7.2.2.2.2), (S36.mk 0 4 false x.2.2.2.2.2 [])])
  else
    (lawPart (0, 2, x.2.1)) >>= fun y8 =>
    if x.1 = 1 then
      if 0 ≤ x.2.2.1 then
        (lawPart (2, 0, x.2.2.1)) >>= fun y9 =>
        if x.1 = 5 then
          (lawPart (2, 1, (IntKind.i64.wrap x.2.2.2.2.1))) >>= fun y10 =>
          some (2, (IntKind.u32.wrap x.1), true, [], [(S36.mk y8.1 y8.2.1 y8.2.2.1 y8.2.2.2.1 y8.2.2.2.2), (S36.mk y9.1 y9.2.1 y9.2.2.1 y9.2.2.2.1 y9.2.2.2.2), (S36.mk y10.1 y10.2.1 y10.2.2.1 y10.2.2.2.1 y10.2.2.2.2)])
        else
          (lawPart (0, 10, x.2.2.2.1)) >>= fun y11 =>
          some (2, (IntKind.u32.wrap x.1), true, [], [(S36.mk y8.1 y8.2.1 y8.2.2.1 y8.2.2.2.1 y8.2.2.2.2), (S36.mk y9.1 y9.2.1 y9.2.2.1 y9.2.2.2.1 y9.2.2.2.2), (S36.mk y11.1 y11.2.1 y11.2.2.1 y11.2.2.2.1 y11.2.2.2.2), (S36.mk 0 4 false x.2.2.2.2.2 [])])
      else
        if x.1 = 5 then
          (lawPart (2, 1, (IntKind.i64.wrap x.2.2.2.2.1))) >>= fun y12 =>
          some (2, (IntKind.u32.wrap x.1), true, [], [(S36.mk y8.1 y8.2.1 y8.2.2.1 y8.2.2.2.1 y8.2.2.2.2), (S36.mk y12.1 y12.2.1 y12.2.2.1 y12.2.2.2.1 y12.2.2.2.2)])
        else
          (lawPart (0, 10, x.2.2.2.1)) >>= fun y13 =>
          some (2, (IntKind.u32.wrap x.1), true, [], [(S36.mk y8.1 y8.2.1 y8.2.2.1 y8.2.2.2.1 y8.2.2.2.2), (S36.mk y13.1 y13.2.1 y13.2.2.1 y13.2.2.2.1 y13.2.2.2.2), (S36.mk 0 4 false x.2.2.2.2.2 [])])
    else
      if x.1 = 5 then
        (lawPart (2, 1, (IntKind.i64.wrap x.2.2.2.2.1))) >>= fun y14 =>
        some (2, (IntKind.u32.wrap x.1), true, [], [(S36.mk y8.1 y8.2.1 y8.2.2.1 y8.2.2.2.1 y8.2.2.2.2), (S36.mk y14.1 y14.2.1 y14.2.2.1 y14.2.2.2.1 y14.2.2.2.2)])
      else
        (lawPart (0, 10, x.2.2.2.1)) >>= fun y15 =>
        some (2, (IntKind.u32.wrap x.1), true, [], [(S36.mk y8.1 y8.2.1 y8.2.2.1 y8.2.2.2.1 y8.2.2.2.2), (S36.mk y15.1 y15.2.1 y15.2.2.1 y15.2.2.2.1 y15.2.2.2.2), (S36.mk 0 4 false x.2.2.2.2.2 [])])
theorem lawTree_ok : ∀ (x : Int × Int × Int × Int × Int × (List Int)) (r : Int × Int × Bool × (List Int) × (List S36)), lawTree x = some r → ∀ W0 : World, PTo Tryd.prog W0 30 #[.agg #[.int .u8 x.1, .int .i64 x.2.1, .int .i64 x.2.2.1, .int .i64 x.2.2.2.1, .int .u8 x.2.2.2.2.1, ls 1 false (encI .u8) x.2.2.2.2.2]] (.returned (.agg #[.int .u8 r.1, .int .u32 r.2.1, .bool r.2.2.1, ls 1 false (encI .u8) r.2.2.2.1, ls 5 false enc36 r.2.2.2.2])) := by
  intro x r h
  unfold lawTree at h
  intro W0
  refine PTo.of_body (fn := Tryd.f30) (code := cB Tryd.f30) Tryd.func30 rfl rfl ?_
  intro w0 S hS
  haveI := hS.noEx Tryd.prog
  refine H.sr' 2 ?_
  refine H.sr' 6 ?_
  refine H.seq' ?_
  refine H.sr' 3 ?_
  refine H.cS' (decide (x.2.1 = (-1))) (fun hb => ?_) (fun hb => ?_)
  rotate_left
  · rw [if_neg (of_decide_eq_false hb)] at h
    refine H.drawQ ?_
    refine HQ.go' 4 ?_
    obtain ⟨y8, hy, h⟩ := bindS h
    refine HQ.callW hS [.keep, .keep, .keep] (lawPart_ok (0, 2, x.2.1) y8 hy W0) (by kernel_rfl) (by kernel_rfl) ?_
    refine HQ.go' 1 ?_
    refine HQ.go' 1 ?_
    refine HQ.go' 2 ?_
    refine HQ.done (by kernel_rfl) (by kernel_rfl) (by kernel_rfl) ?_
    refine Kseq_norm ?_
    refine H.seq' ?_
    refine H.sg' ?_
    refine HO.go' 3 ?_
    refine HO.bo' (decide (x.1 = 1)) (fun hb => ?_) (fun hb => ?_)
    rotate_left
    · rw [if_neg (of_decide_eq_false hb)] at h
      refine HO.fin' 4 ?_
      refine H.cF' ?_
      refine H.skp' ?_
      refine Kseq_norm ?_
      refine H.seq' ?_
      refine H.sr' 3 ?_
      refine H.cS' (decide (x.1 = 5)) (fun hb => ?_) (fun hb => ?_)
      · rw [if_pos (of_decide_eq_true hb)] at h
        refine H.drawQ ?_
        refine HQ.go' 5 ?_
        obtain ⟨y14, hy, h⟩ := bindS h
        refine HQ.callW hS [.keep, .keep, .keep] (lawPart_ok (2, 1, (IntKind.i64.wrap x.2.2.2.2.1)) y14 hy W0) (by kernel_rfl) (by kernel_rfl) ?_
        refine HQ.go' 1 ?_
        refine HQ.go' 1 ?_
        refine HQ.go' 2 ?_
        refine HQ.done (by kernel_rfl) (by kernel_rfl) (by kernel_rfl) ?_
        refine Kseq_norm ?_
        refine H.sr' 2 ?_
        refine H.ret' ?_
        obtain rfl := Option.some.inj h
        exact KEnd.of (v := .agg #[.int .u8 2, .int .u32 (IntKind.u32.wrap x.1), .bool true, .slice none 0 0, .slice (some ⟨6, 0, none⟩) 2 1180591620717411303424]) (by kernel_rfl) (by kernel_rfl) (PEnd.frzE 6 2 1180591620717411303424 5 36 false ([(S36.mk y8.1 y8.2.1 y8.2.2.1 y8.2.2.2.1 y8.2.2.2.2), (S36.mk y14.1 y14.2.1 y14.2.2.1 y14.2.2.2.1 y14.2.2.2.2)].map enc36).toArray #[.agg #[.int .u8 y8.1, .int .u32 y8.2.1, .bool y8.2.2.1, ls 1 false (encI .u8) y8.2.2.2.1, ls 5 false enc36 y8.2.2.2.2], .agg #[.int .u8 y14.1, .int .u32 y14.2.1, .bool y14.2.2.1, ls 1 false (encI .u8) y14.2.2.2.1, ls 5 false enc36 y14.2.2.2.2]] [.int .u8 y8.1, .int .u32 y8.2.1, .bool y8.2.2.1, ls 1 false (encI .u8) y8.2.2.2.1, ls 5 false enc36 y8.2.2.2.2, .int .u8 y14.1, .int .u32 y14.2.1, .bool y14.2.2.1, ls 1 false (encI .u8) y14.2.2.2.1, ls 5 false enc36 y14.2.2.2.2] (by simp only [List.map_cons, List.map_nil, enc36_eq]) (by kernel_rfl) (PEnd.wk (v1 := .agg #[.int .u8 2, .int .u32 (IntKind.u32.wrap x.1), .bool true, ls 1 false (encI .u8) [], ls 5 false enc36 [(S36.mk y8.1 y8.2.1 y8.2.2.1 y8.2.2.2.1 y8.2.2.2.2), (S36.mk y14.1 y14.2.1 y14.2.2.1 y14.2.2.2.1 y14.2.2.2.2)]]) (.agg [.keep, .keep, .keep, .list 1 false, .list 5 false]) (by kernel_rfl) (PEnd.fin (by kernel_rfl))))
      rw [if_neg (of_decide_eq_false hb)] at h
      refine H.drawQ ?_
      refine HQ.go' 4 ?_
      obtain ⟨y15, hy, h⟩ := bindS h
      refine HQ.callW hS [.keep, .keep, .keep] (lawPart_ok (0, 10, x.2.2.2.1) y15 hy W0) (by kernel_rfl) (by kernel_rfl) ?_
      refine HQ.go' 4 ?_
      refine HQ.go' 1 ?_
      refine HQ.go' 2 ?_
      refine HQ.done (by kernel_rfl) (by kernel_rfl) (by kernel_rfl) ?_
      refine Kseq_norm ?_
      refine H.sr' 2 ?_
      refine H.wkc 6 36 5 14 [.int .u8 y8.1, .int .u32 y8.2.1, .bool y8.2.2.1, ls 1 false (encI .u8) y8.2.2.2.1, ls 5 false enc36 y8.2.2.2.2, .int .u8 y15.1, .int .u32 y15.2.1, .bool y15.2.2.1, ls 1 false (encI .u8) y15.2.2.2.1, ls 5 false enc36 y15.2.2.2.2, .int .u8 0, .int .u32 4, .bool false, ls 1 false (encI .u8) x.2.2.2.2.2, .slice none 0 0] (.slice none 0 0) (ls 5 false enc36 []) (.list 5 false) (by kernel_rfl) ?_
      refine H.ret' ?_
      obtain rfl := Option.some.inj h
      exact KEnd.of (v := .agg #[.int .u8 2, .int .u32 (IntKind.u32.wrap x.1), .bool true, .slice none 0 0, .slice (some ⟨6, 0, none⟩) 3 1180591620717411303424]) (by kernel_rfl) (by kernel_rfl) (PEnd.frzE 6 3 1180591620717411303424 5 36 false ([(S36.mk y8.1 y8.2.1 y8.2.2.1 y8.2.2.2.1 y8.2.2.2.2), (S36.mk y15.1 y15.2.1 y15.2.2.1 y15.2.2.2.1 y15.2.2.2.2), (S36.mk 0 4 false x.2.2.2.2.2 [])].map enc36).toArray #[.agg #[.int .u8 y8.1, .int .u32 y8.2.1, .bool y8.2.2.1, ls 1 false (encI .u8) y8.2.2.2.1, ls 5 false enc36 y8.2.2.2.2], .agg #[.int .u8 y15.1, .int .u32 y15.2.1, .bool y15.2.2.1, ls 1 false (encI .u8) y15.2.2.2.1, ls 5 false enc36 y15.2.2.2.2], .agg #[.int .u8 0, .int .u32 4, .bool false, ls 1 false (encI .u8) x.2.2.2.2.2, ls 5 false enc36 []]] [.int .u8 y8.1, .int .u32 y8.2.1, .bool y8.2.2.1, ls 1 false (encI .u8) y8.2.2.2.1, ls 5 false enc36 y8.2.2.2.2, .int .u8 y15.1, .int .u32 y15.2.1, .bool y15.2.2.1, ls 1 false (encI .u8) y15.2.2.2.1, ls 5 false enc36 y15.2.2.2.2, .int .u8 0, .int .u32 4, .bool false, ls 1 false (encI .u8) x.2.2.2.2.2, ls 5 false enc36 []] (by simp only [List.map_cons, List.map_nil, enc36_eq]) (by kernel_rfl) (PEnd.wk (v1 := .agg #[.int .u8 2, .int .u32 (IntKind.u32.wrap x.1), .bool true, ls 1 false (encI .u8) [], ls 5 false enc36 [(S36.mk y8.1 y8.2.1 y8.2.2.1 y8.2.2.2.1 y8.2.2.2.2), (S36.mk y15.1 y15.2.1 y15.2.2.1 y15.2.2.2.1 y15.2.2.2.2), (S36.mk 0 4 false x.2.2.2.2.2 [])]]) (.agg [.keep, .keep, .keep, .list 1 false, .list 5 false]) (by kernel_rfl) (PEnd.fin (by kernel_rfl))))
    rw [if_pos (of_decide_eq_true hb)] at h
    refine HO.fin' 4 ?_
    refine H.cS' (decide (0 ≤ x.2.2.1)) (fun hb => ?_) (fun hb => ?_)
    rotate_left
    · rw [if_neg (of_decide_eq_false hb)] at h
      refine H.skp' ?_
      refine Kseq_norm ?_
      refine H.seq' ?_
      refine H.sr' 3 ?_
      refine H.cS' (decide (x.1 = 5)) (fun hb => ?_) (fun hb => ?_)
      · rw [if_pos (of_decide_eq_true hb)] at h
        refine H.drawQ ?_
        refine HQ.go' 5 ?_
        obtain ⟨y12, hy, h⟩ := bindS h
        refine HQ.callW hS [.keep, .keep, .keep] (lawPart_ok (2, 1, (IntKind.i64.wrap x.2.2.2.2.1)) y12 hy W0) (by kernel_rfl) (by kernel_rfl) ?_
        refine HQ.go' 1 ?_
        refine HQ.go' 1 ?_
        refine HQ.go' 2 ?_
        refine HQ.done (by kernel_rfl) (by kernel_rfl) (by kernel_rfl) ?_
        refine Kseq_norm ?_
        refine H.sr' 2 ?_
        refine H.ret' ?_
        obtain rfl := Option.some.inj h
        exact KEnd.of (v := .agg #[.int .u8 2, .int .u32 (IntKind.u32.wrap x.1), .bool true, .slice none 0 0, .slice (some ⟨6, 0, none⟩) 2 1180591620717411303424]) (by kernel_rfl) (by kernel_rfl) (PEnd.frzE 6 2 1180591620717411303424 5 36 false ([(S36.mk y8.1 y8.2.1 y8.2.2.1 y8.2.2.2.1 y8.2.2.2.2), (S36.mk y12.1 y12.2.1 y12.2.2.1 y12.2.2.2.1 y12.2.2.2.2)].map enc36).toArray #[.agg #[.int .u8 y8.1, .int .u32 y8.2.1, .bool y8.2.2.1, ls 1 false (encI .u8) y8.2.2.2.1, ls 5 false enc36 y8.2.2.2.2], .agg #[.int .u8 y12.1, .int .u32 y12.2.1, .bool y12.2.2.1, ls 1 false (encI .u8) y12.2.2.2.1, ls 5 false enc36 y12.2.2.2.2]] [.int .u8 y8.1, .int .u32 y8.2.1, .bool y8.2.2.1, ls 1 false (encI .u8) y8.2.2.2.1, ls 5 false enc36 y8.2.2.2.2, .int .u8 y12.1, .int .u32 y12.2.1, .bool y12.2.2.1, ls 1 false (encI .u8) y12.2.2.2.1, ls 5 false enc36 y12.2.2.2.2] (by simp only [List.map_cons, List.map_nil, enc36_eq]) (by kernel_rfl) (PEnd.wk (v1 := .agg #[.int .u8 2, .int .u32 (IntKind.u32.wrap x.1), .bool true, ls 1 false (encI .u8) [], ls 5 false enc36 [(S36.mk y8.1 y8.2.1 y8.2.2.1 y8.2.2.2.1 y8.2.2.2.2), (S36.mk y12.1 y12.2.1 y12.2.2.1 y12.2.2.2.1 y12.2.2.2.2)]]) (.agg [.keep, .keep, .keep, .list 1 false, .list 5 false]) (by kernel_rfl) (PEnd.fin (by kernel_rfl))))
      rw [if_neg (of_decide_eq_false hb)] at h
      refine H.drawQ ?_
      refine HQ.go' 4 ?_
      obtain ⟨y13, hy, h⟩ := bindS h
      refine HQ.callW hS [.keep, .keep, .keep] (lawPart_ok (0, 10, x.2.2.2.1) y13 hy W0) (by kernel_rfl) (by kernel_rfl) ?_
      refine HQ.go' 4 ?_
      refine HQ.go' 1 ?_
      refine HQ.go' 2 ?_
      refine HQ.done (by kernel_rfl) (by kernel_rfl) (by kernel_rfl) ?_
      refine Kseq_norm ?_
      refine H.sr' 2 ?_
      refine H.wkc 6 36 5 14 [.int .u8 y8.1, .int .u32 y8.2.1, .bool y8.2.2.1, ls 1 false (encI .u8) y8.2.2.2.1, ls 5 false enc36 y8.2.2.2.2, .int .u8 y13.1, .int .u32 y13.2.1, .bool y13.2.2.1, ls 1 false (encI .u8) y13.2.2.2.1, ls 5 false enc36 y13.2.2.2.2, .int .u8 0, .int .u32 4, .bool false, ls 1 false (encI .u8) x.2.2.2.2.2, .slice none 0 0] (.slice none 0 0) (ls 5 false enc36 []) (.list 5 false) (by kernel_rfl) ?_
      refine H.ret' ?_
      obtain rfl := Option.some.inj h
      exact KEnd.of (v := .agg #[.int .u8 2, .int .u32 (IntKind.u32.wrap x.1), .bool true, .slice none 0 0, .slice (some ⟨6, 0, none⟩) 3 1180591620717411303424]) (by kernel_rfl) (by kernel_rfl) (PEnd.frzE 6 3 1180591620717411303424 5 36 false ([(S36.mk y8.1 y8.2.1 y8.2.2.1 y8.2.2.2.1 y8.2.2.2.2), (S36.mk y13.1 y13.2.1 y13.2.2.1 y13.2.2.2.1 y13.2.2.2.2), (S36.mk 0 4 false x.2.2.2.2.2 [])].map enc36).toArray #[.agg #[.int .u8 y8.1, .int .u32 y8.2.1, .bool y8.2.2.1, ls 1 false (encI .u8) y8.2.2.2.1, ls 5 false enc36 y8.2.2.2.2], .agg #[.int .u8 y13.1, .int .u32 y13.2.1, .bool y13.2.2.1, ls 1 false (encI .u8) y13.2.2.2.1, ls 5 false enc36 y13.2.2.2.2], .agg #[.int .u8 0, .int .u32 4, .bool false, ls 1 false (encI .u8) x.2.2.2.2.2, ls 5 false enc36 []]] [.int .u8 y8.1, .int .u32 y8.2.1, .bool y8.2.2.1, ls 1 false (encI .u8) y8.2.2.2.1, ls 5 false enc36 y8.2.2.2.2, .int .u8 y13.1, .int .u32 y13.2.1, .bool y13.2.2.1, ls 1 false (encI .u8) y13.2.2.2.1, ls 5 false enc36 y13.2.2.2.2, .int .u8 0, .int .u32 4, .bool false, ls 1 false (encI .u8) x.2.2.2.2.2, ls 5 false enc36 []] (by simp only [List.map_cons, List.map_nil, enc36_eq]) (by kernel_rfl) (PEnd.wk (v1 := .agg #[.int .u8 2, .int .u32 (IntKind.u32.wrap x.1), .bool true, ls 1 false (encI .u8) [], ls 5 false enc36 [(S36.mk y8.1 y8.2.1 y8.2.2.1 y8.2.2.2.1 y8.2.2.2.2), (S36.mk y13.1 y13.2.1 y13.2.2.1 y13.2.2.2.1 y13.2.2.2.2), (S36.mk 0 4 false x.2.2.2.2.2 [])]]) (.agg [.keep, .keep, .keep, .list 1 false, .list 5 false]) (by kernel_rfl) (PEnd.fin (by kernel_rfl))))
    rw [if_pos (of_decide_eq_true hb)] at h
    refine H.drawQ ?_
    refine HQ.go' 4 ?_
    obtain ⟨y9, hy, h⟩ := bindS h
    refine HQ.callW hS [.keep, .keep, .keep] (lawPart_ok (2, 0, x.2.2.1) y9 hy W0) (by kernel_rfl) (by kernel_rfl) ?_
    refine HQ.go' 1 ?_
    refine HQ.go' 1 ?_
    refine HQ.go' 2 ?_
    refine HQ.done (by kernel_rfl) (by kernel_rfl) (by kernel_rfl) ?_
    refine Kseq_norm ?_
    refine H.seq' ?_
    refine H.sr' 3 ?_
    refine H.cS' (decide (x.1 = 5)) (fun hb => ?_) (fun hb => ?_)
    · rw [if_pos (of_decide_eq_true hb)] at h
      refine H.drawQ ?_
      refine HQ.go' 5 ?_
      obtain ⟨y10, hy, h⟩ := bindS h
      refine HQ.callW hS [.keep, .keep, .keep] (lawPart_ok (2, 1, (IntKind.i64.wrap x.2.2.2.2.1)) y10 hy W0) (by kernel_rfl) (by kernel_rfl) ?_
      refine HQ.go' 1 ?_
      refine HQ.go' 1 ?_
      refine HQ.go' 2 ?_
      refine HQ.done (by kernel_rfl) (by kernel_rfl) (by kernel_rfl) ?_
      refine Kseq_norm ?_
      refine H.sr' 2 ?_
      refine H.ret' ?_
      obtain rfl := Option.some.inj h
      exact KEnd.of (v := .agg #[.int .u8 2, .int .u32 (IntKind.u32.wrap x.1), .bool true, .slice none 0 0, .slice (some ⟨8, 0, none⟩) 3 1180591620717411303424]) (by kernel_rfl) (by kernel_rfl) (PEnd.frzE 8 3 1180591620717411303424 5 36 false ([(S36.mk y8.1 y8.2.1 y8.2.2.1 y8.2.2.2.1 y8.2.2.2.2), (S36.mk y9.1 y9.2.1 y9.2.2.1 y9.2.2.2.1 y9.2.2.2.2), (S36.mk y10.1 y10.2.1 y10.2.2.1 y10.2.2.2.1 y10.2.2.2.2)].map enc36).toArray #[.agg #[.int .u8 y8.1, .int .u32 y8.2.1, .bool y8.2.2.1, ls 1 false (encI .u8) y8.2.2.2.1, ls 5 false enc36 y8.2.2.2.2], .agg #[.int .u8 y9.1, .int .u32 y9.2.1, .bool y9.2.2.1, ls 1 false (encI .u8) y9.2.2.2.1, ls 5 false enc36 y9.2.2.2.2], .agg #[.int .u8 y10.1, .int .u32 y10.2.1, .bool y10.2.2.1, ls 1 false (encI .u8) y10.2.2.2.1, ls 5 false enc36 y10.2.2.2.2]] [.int .u8 y8.1, .int .u32 y8.2.1, .bool y8.2.2.1, ls 1 false (encI .u8) y8.2.2.2.1, ls 5 false enc36 y8.2.2.2.2, .int .u8 y9.1, .int .u32 y9.2.1, .bool y9.2.2.1, ls 1 false (encI .u8) y9.2.2.2.1, ls 5 false enc36 y9.2.2.2.2, .int .u8 y10.1, .int .u32 y10.2.1, .bool y10.2.2.1, ls 1 false (encI .u8) y10.2.2.2.1, ls 5 false enc36 y10.2.2.2.2] (by simp only [List.map_cons, List.map_nil, enc36_eq]) (by kernel_rfl) (PEnd.wk (v1 := .agg #[.int .u8 2, .int .u32 (IntKind.u32.wrap x.1), .bool true, ls 1 false (encI .u8) [], ls 5 false enc36 [(S36.mk y8.1 y8.2.1 y8.2.2.1 y8.2.2.2.1 y8.2.2.2.2), (S36.mk y9.1 y9.2.1 y9.2.2.1 y9.2.2.2.1 y9.2.2.2.2), (S36.mk y10.1 y10.2.1 y10.2.2.1 y10.2.2.2.1 y10.2.2.2.2)]]) (.agg [.keep, .keep, .keep, .list 1 false, .list 5 false]) (by kernel_rfl) (PEnd.fin (by kernel_rfl))))
    rw [if_neg (of_decide_eq_false hb)] at h
    refine H.drawQ ?_
    refine HQ.go' 4 ?_
    obtain ⟨y11, hy, h⟩ := bindS h
    refine HQ.callW hS [.keep, .keep, .keep] (lawPart_ok (0, 10, x.2.2.2.1) y11 hy W0) (by kernel_rfl) (by kernel_rfl) ?_
    refine HQ.go' 4 ?_
    refine HQ.go' 1 ?_
    refine HQ.go' 2 ?_
    refine HQ.done (by kernel_rfl) (by kernel_rfl) (by kernel_rfl) ?_
    refine Kseq_norm ?_
    refine H.sr' 2 ?_
    refine H.wkc 8 36 5 19 [.int .u8 y8.1, .int .u32 y8.2.1, .bool y8.2.2.1, ls 1 false (encI .u8) y8.2.2.2.1, ls 5 false enc36 y8.2.2.2.2, .int .u8 y9.1, .int .u32 y9.2.1, .bool y9.2.2.1, ls 1 false (encI .u8) y9.2.2.2.1, ls 5 false enc36 y9.2.2.2.2, .int .u8 y11.1, .int .u32 y11.2.1, .bool y11.2.2.1, ls 1 false (encI .u8) y11.2.2.2.1, ls 5 false enc36 y11.2.2.2.2, .int .u8 0, .int .u32 4, .bool false, ls 1 false (encI .u8) x.2.2.2.2.2, .slice none 0 0] (.slice none 0 0) (ls 5 false enc36 []) (.list 5 false) (by kernel_rfl) ?_
    refine H.ret' ?_
    obtain rfl := Option.some.inj h
    exact KEnd.of (v := .agg #[.int .u8 2, .int .u32 (IntKind.u32.wrap x.1), .bool true, .slice none 0 0, .slice (some ⟨8, 0, none⟩) 4 1180591620717411303424]) (by kernel_rfl) (by kernel_rfl) (PEnd.frzE 8 4 1180591620717411303424 5 36 false ([(S36.mk y8.1 y8.2.1 y8.2.2.1 y8.2.2.2.1 y8.2.2.2.2), (S36.mk y9.1 y9.2.1 y9.2.2.1 y9.2.2.2.1 y9.2.2.2.2), (S36.mk y11.1 y11.2.1 y11.2.2.1 y11.2.2.2.1 y11.2.2.2.2), (S36.mk 0 4 false x.2.2.2.2.2 [])].map enc36).toArray #[.agg #[.int .u8 y8.1, .int .u32 y8.2.1, .bool y8.2.2.1, ls 1 false (encI .u8) y8.2.2.2.1, ls 5 false enc36 y8.2.2.2.2], .agg #[.int .u8 y9.1, .int .u32 y9.2.1, .bool y9.2.2.1, ls 1 false (encI .u8) y9.2.2.2.1, ls 5 false enc36 y9.2.2.2.2], .agg #[.int .u8 y11.1, .int .u32 y11.2.1, .bool y11.2.2.1, ls 1 false (encI .u8) y11.2.2.2.1, ls 5 false enc36 y11.2.2.2.2], .agg #[.int .u8 0, .int .u32 4, .bool false, ls 1 false (encI .u8) x.2.2.2.2.2, ls 5 false enc36 []]] [.int .u8 y8.1, .int .u32 y8.2.1, .bool y8.2.2.1, ls 1 false (encI .u8) y8.2.2.2.1, ls 5 false enc36 y8.2.2.2.2, .int .u8 y9.1, .int .u32 y9.2.1, .bool y9.2.2.1, ls 1 false (encI .u8) y9.2.2.2.1, ls 5 false enc36 y9.2.2.2.2, .int .u8 y11.1, .int .u32 y11.2.1, .bool y11.2.2.1, ls 1 false (encI .u8) y11.2.2.2.1, ls 5 false enc36 y11.2.2.2.2, .int .u8 0, .int .u32 4, .bool false, ls 1 false (encI .u8) x.2.2.2.2.2, ls 5 false enc36 []] (by simp only [List.map_cons, List.map_nil, enc36_eq]) (by kernel_rfl) (PEnd.wk (v1 := .agg #[.int .u8 2, .int .u32 (IntKind.u32.wrap x.1), .bool true, ls 1 false (encI .u8) [], ls 5 false enc36 [(S36.mk y8.1 y8.2.1 y8.2.2.1 y8.2.2.2.1 y8.2.2.2.2), (S36.mk y9.1 y9.2.1 y9.2.2.1 y9.2.2.2.1 y9.2.2.2.2), (S36.mk y11.1 y11.2.1 y11.2.2.1 y11.2.2.2.1 y11.2.2.2.2), (S36.mk 0 4 false x.2.2.2.2.2 [])]]) (.agg [.keep, .keep, .keep, .list 1 false, .list 5 false]) (by kernel_rfl) (PEnd.fin (by kernel_rfl))))
  rw [if_pos (of_decide_eq_true hb)] at h
  refine H.reg' ?_
  refine HO.go' 4 ?_
  refine HO.go' 1 ?_
  refine HO.fin' 2 ?_
  refine H.seq' ?_
  refine H.sg' ?_
  refine HO.go' 3 ?_
  refine HO.bo' (decide (x.1 = 1)) (fun hb => ?_) (fun hb => ?_)
  rotate_left
  · rw [if_neg (of_decide_eq_false hb)] at h
    refine HO.fin' 4 ?_
    refine H.cF' ?_
    refine H.skp' ?_
    refine Kseq_norm ?_
    refine H.seq' ?_
    refine H.sr' 3 ?_
    refine H.cS' (decide (x.1 = 5)) (fun hb => ?_) (fun hb => ?_)
    · rw [if_pos (of_decide_eq_true hb)] at h
      refine H.drawQ ?_
      refine HQ.go' 5 ?_
      obtain ⟨y6, hy, h⟩ := bindS h
      refine HQ.callW hS [.keep, .keep, .keep] (lawPart_ok (2, 1, (IntKind.i64.wrap x.2.2.2.2.1)) y6 hy W0) (by kernel_rfl) (by kernel_rfl) ?_
      refine HQ.go' 1 ?_
      refine HQ.go' 1 ?_
      refine HQ.go' 2 ?_
      refine HQ.done (by kernel_rfl) (by kernel_rfl) (by kernel_rfl) ?_
      refine Kseq_norm ?_
      refine H.sr' 2 ?_
      refine H.wkc 6 36 5 3 [.int .u8 0, .int .u32 5, .bool false, .slice none 0 0, .slice none 0 0, .int .u8 y6.1, .int .u32 y6.2.1, .bool y6.2.2.1, ls 1 false (encI .u8) y6.2.2.2.1, ls 5 false enc36 y6.2.2.2.2] (.slice none 0 0) (ls 1 false (encI .u8) []) (.list 1 false) (by kernel_rfl) ?_
      refine H.wkc 6 36 5 4 [.int .u8 0, .int .u32 5, .bool false, ls 1 false (encI .u8) [], .slice none 0 0, .int .u8 y6.1, .int .u32 y6.2.1, .bool y6.2.2.1, ls 1 false (encI .u8) y6.2.2.2.1, ls 5 false enc36 y6.2.2.2.2] (.slice none 0 0) (ls 5 false enc36 []) (.list 5 false) (by kernel_rfl) ?_
      refine H.ret' ?_
      obtain rfl := Option.some.inj h
      exact KEnd.of (v := .agg #[.int .u8 2, .int .u32 (IntKind.u32.wrap x.1), .bool true, .slice none 0 0, .slice (some ⟨6, 0, none⟩) 2 1180591620717411303424]) (by kernel_rfl) (by kernel_rfl) (PEnd.frzE 6 2 1180591620717411303424 5 36 false ([(S36.mk 0 5 false [] []), (S36.mk y6.1 y6.2.1 y6.2.2.1 y6.2.2.2.1 y6.2.2.2.2)].map enc36).toArray #[.agg #[.int .u8 0, .int .u32 5, .bool false, ls 1 false (encI .u8) [], ls 5 false enc36 []], .agg #[.int .u8 y6.1, .int .u32 y6.2.1, .bool y6.2.2.1, ls 1 false (encI .u8) y6.2.2.2.1, ls 5 false enc36 y6.2.2.2.2]] [.int .u8 0, .int .u32 5, .bool false, ls 1 false (encI .u8) [], ls 5 false enc36 [], .int .u8 y6.1, .int .u32 y6.2.1, .bool y6.2.2.1, ls 1 false (encI .u8) y6.2.2.2.1, ls 5 false enc36 y6.2.2.2.2] (by simp only [List.map_cons, List.map_nil, enc36_eq]) (by kernel_rfl) (PEnd.wk (v1 := .agg #[.int .u8 2, .int .u32 (IntKind.u32.wrap x.1), .bool true, ls 1 false (encI .u8) [], ls 5 false enc36 [(S36.mk 0 5 false [] []), (S36.mk y6.1 y6.2.1 y6.2.2.1 y6.2.2.2.1 y6.2.2.2.2)]]) (.agg [.keep, .keep, .keep, .list 1 false, .list 5 false]) (by kernel_rfl) (PEnd.fin (by kernel_rfl))))
    rw [if_neg (of_decide_eq_false hb)] at h
    refine H.drawQ ?_
    refine HQ.go' 4 ?_
    obtain ⟨y7, hy, h⟩ := bindS h
    refine HQ.callW hS [.keep, .keep, .keep] (lawPart_ok (0, 10, x.2.2.2.1) y7 hy W0) (by kernel_rfl) (by kernel_rfl) ?_
    refine HQ.go' 4 ?_
    refine HQ.go' 1 ?_
    refine HQ.go' 2 ?_
    refine HQ.done (by kernel_rfl) (by kernel_rfl) (by kernel_rfl) ?_
    refine Kseq_norm ?_
    refine H.sr' 2 ?_
    refine H.wkc 6 36 5 3 [.int .u8 0, .int .u32 5, .bool false, .slice none 0 0, .slice none 0 0, .int .u8 y7.1, .int .u32 y7.2.1, .bool y7.2.2.1, ls 1 false (encI .u8) y7.2.2.2.1, ls 5 false enc36 y7.2.2.2.2, .int .u8 0, .int .u32 4, .bool false, ls 1 false (encI .u8) x.2.2.2.2.2, .slice none 0 0] (.slice none 0 0) (ls 1 false (encI .u8) []) (.list 1 false) (by kernel_rfl) ?_
    refine H.wkc 6 36 5 4 [.int .u8 0, .int .u32 5, .bool false, ls 1 false (encI .u8) [], .slice none 0 0, .int .u8 y7.1, .int .u32 y7.2.1, .bool y7.2.2.1, ls 1 false (encI .u8) y7.2.2.2.1, ls 5 false enc36 y7.2.2.2.2, .int .u8 0, .int .u32 4, .bool false, ls 1 false (encI .u8) x.2.2.2.2.2, .slice none 0 0] (.slice none 0 0) (ls 5 false enc36 []) (.list 5 false) (by kernel_rfl) ?_
    refine H.wkc 6 36 5 14 [.int .u8 0, .int .u32 5, .bool false, ls 1 false (encI .u8) [], ls 5 false enc36 [], .int .u8 y7.1, .int .u32 y7.2.1, .bool y7.2.2.1, ls 1 false (encI .u8) y7.2.2.2.1, ls 5 false enc36 y7.2.2.2.2, .int .u8 0, .int .u32 4, .bool false, ls 1 false (encI .u8) x.2.2.2.2.2, .slice none 0 0] (.slice none 0 0) (ls 5 false enc36 []) (.list 5 false) (by kernel_rfl) ?_
    refine H.ret' ?_
    obtain rfl := Option.some.inj h
    exact KEnd.of (v := .agg #[.int .u8 2, .int .u32 (IntKind.u32.wrap x.1), .bool true, .slice none 0 0, .slice (some ⟨6, 0, none⟩) 3 1180591620717411303424]) (by kernel_rfl) (by kernel_rfl) (PEnd.frzE 6 3 1180591620717411303424 5 36 false ([(S36.mk 0 5 false [] []), (S36.mk y7.1 y7.2.1 y7.2.2.1 y7.2.2.2.1 y7.2.2.2.2), (S36.mk 0 4 false x.2.2.2.2.2 [])].map enc36).toArray #[.agg #[.int .u8 0, .int .u32 5, .bool false, ls 1 false (encI .u8) [], ls 5 false enc36 []], .agg #[.int .u8 y7.1, .int .u32 y7.2.1, .bool y7.2.2.1, ls 1 false (encI .u8) y7.2.2.2.1, ls 5 false enc36 y7.2.2.2.2], .agg #[.int .u8 0, .int .u32 4, .bool false, ls 1 false (encI .u8) x.2.2.2.2.2, ls 5 false enc36 []]] [.int .u8 0, .int .u32 5, .bool false, ls 1 false (encI .u8) [], ls 5 false enc36 [], .int .u8 y7.1, .int .u32 y7.2.1, .bool y7.2.2.1, ls 1 false (encI .u8) y7.2.2.2.1, ls 5 false enc36 y7.2.2.2.2, .int .u8 0, .int .u32 4, .bool false, ls 1 false (encI .u8) x.2.2.2.2.2, ls 5 false enc36 []] (by simp only [List.map_cons, List.map_nil, enc36_eq]) (by kernel_rfl) (PEnd.wk (v1 := .agg #[.int .u8 2, .int .u32 (IntKind.u32.wrap x.1), .bool true, ls 1 false (encI .u8) [], ls 5 false enc36 [(S36.mk 0 5 false [] []), (S36.mk y7.1 y7.2.1 y7.2.2.1 y7.2.2.2.1 y7.2.2.2.2), (S36.mk 0 4 false x.2.2.2.2.2 [])]]) (.agg [.keep, .keep, .keep, .list 1 false, .list 5 false]) (by kernel_rfl) (PEnd.fin (by kernel_rfl))))
  rw [if_pos (of_decide_eq_true hb)] at h
  refine HO.fin' 4 ?_
  refine H.cS' (decide (0 ≤ x.2.2.1)) (fun hb => ?_) (fun hb => ?_)
  rotate_left
  · rw [if_neg (of_decide_eq_false hb)] at h
    refine H.skp' ?_
    refine Kseq_norm ?_
    refine H.seq' ?_
    refine H.sr' 3 ?_
    refine H.cS' (decide (x.1 = 5)) (fun hb => ?_) (fun hb => ?_)
    · rw [if_pos (of_decide_eq_true hb)] at h
      refine H.drawQ ?_
      refine HQ.go' 5 ?_
      obtain ⟨y4, hy, h⟩ := bindS h
      refine HQ.callW hS [.keep, .keep, .keep] (lawPart_ok (2, 1, (IntKind.i64.wrap x.2.2.2.2.1)) y4 hy W0) (by kernel_rfl) (by kernel_rfl) ?_
      refine HQ.go' 1 ?_
      refine HQ.go' 1 ?_
      refine HQ.go' 2 ?_
      refine HQ.done (by kernel_rfl) (by kernel_rfl) (by kernel_rfl) ?_
      refine Kseq_norm ?_
      refine H.sr' 2 ?_
      refine H.wkc 6 36 5 3 [.int .u8 0, .int .u32 5, .bool false, .slice none 0 0, .slice none 0 0, .int .u8 y4.1, .int .u32 y4.2.1, .bool y4.2.2.1, ls 1 false (encI .u8) y4.2.2.2.1, ls 5 false enc36 y4.2.2.2.2] (.slice none 0 0) (ls 1 false (encI .u8) []) (.list 1 false) (by kernel_rfl) ?_
      refine H.wkc 6 36 5 4 [.int .u8 0, .int .u32 5, .bool false, ls 1 false (encI .u8) [], .slice none 0 0, .int .u8 y4.1, .int .u32 y4.2.1, .bool y4.2.2.1, ls 1 false (encI .u8) y4.2.2.2.1, ls 5 false enc36 y4.2.2.2.2] (.slice none 0 0) (ls 5 false enc36 []) (.list 5 false) (by kernel_rfl) ?_
      refine H.ret' ?_
      obtain rfl := Option.some.inj h
      exact KEnd.of (v := .agg #[.int .u8 2, .int .u32 (IntKind.u32.wrap x.1), .bool true, .slice none 0 0, .slice (some ⟨6, 0, none⟩) 2 1180591620717411303424]) (by kernel_rfl) (by kernel_rfl) (PEnd.frzE 6 2 1180591620717411303424 5 36 false ([(S36.mk 0 5 false [] []), (S36.mk y4.1 y4.2.1 y4.2.2.1 y4.2.2.2.1 y4.2.2.2.2)].map enc36).toArray #[.agg #[.int .u8 0, .int .u32 5, .bool false, ls 1 false (encI .u8) [], ls 5 false enc36 []], .agg #[.int .u8 y4.1, .int .u32 y4.2.1, .bool y4.2.2.1, ls 1 false (encI .u8) y4.2.2.2.1, ls 5 false enc36 y4.2.2.2.2]] [.int .u8 0, .int .u32 5, .bool false, ls 1 false (encI .u8) [], ls 5 false enc36 [], .int .u8 y4.1, .int .u32 y4.2.1, .bool y4.2.2.1, ls 1 false (encI .u8) y4.2.2.2.1, ls 5 false enc36 y4.2.2.2.2] (by simp only [List.map_cons, List.map_nil, enc36_eq]) (by kernel_rfl) (PEnd.wk (v1 := .agg #[.int .u8 2, .int .u32 (IntKind.u32.wrap x.1), .bool true, ls 1 false (encI .u8) [], ls 5 false enc36 [(S36.mk 0 5 false [] []), (S36.mk y4.1 y4.2.1 y4.2.2.1 y4.2.2.2.1 y4.2.2.2.2)]]) (.agg [.keep, .keep, .keep, .list 1 false, .list 5 false]) (by kernel_rfl) (PEnd.fin (by kernel_rfl))))
    rw [if_neg (of_decide_eq_false hb)] at h
    refine H.drawQ ?_
    refine HQ.go' 4 ?_
    obtain ⟨y5, hy, h⟩ := bindS h
    refine HQ.callW hS [.keep, .keep, .keep] (lawPart_ok (0, 10, x.2.2.2.1) y5 hy W0) (by kernel_rfl) (by kernel_rfl) ?_
    refine HQ.go' 4 ?_
    refine HQ.go' 1 ?_
    refine HQ.go' 2 ?_
    refine HQ.done (by kernel_rfl) (by kernel_rfl) (by kernel_rfl) ?_
    refine Kseq_norm ?_
    refine H.sr' 2 ?_
    refine H.wkc 6 36 5 3 [.int .u8 0, .int .u32 5, .bool false, .slice none 0 0, .slice none 0 0, .int .u8 y5.1, .int .u32 y5.2.1, .bool y5.2.2.1, ls 1 false (encI .u8) y5.2.2.2.1, ls 5 false enc36 y5.2.2.2.2, .int .u8 0, .int .u32 4, .bool false, ls 1 false (encI .u8) x.2.2.2.2.2, .slice none 0 0] (.slice none 0 0) (ls 1 false (encI .u8) []) (.list 1 false) (by kernel_rfl) ?_
    refine H.wkc 6 36 5 4 [.int .u8 0, .int .u32 5, .bool false, ls 1 false (encI .u8) [], .slice none 0 0, .int .u8 y5.1, .int .u32 y5.2.1, .bool y5.2.2.1, ls 1 false (encI .u8) y5.2.2.2.1, ls 5 false enc36 y5.2.2.2.2, .int .u8 0, .int .u32 4, .bool false, ls 1 false (encI .u8) x.2.2.2.2.2, .slice none 0 0] (.slice none 0 0) (ls 5 false enc36 []) (.list 5 false) (by kernel_rfl) ?_
    refine H.wkc 6 36 5 14 [.int .u8 0, .int .u32 5, .bool false, ls 1 false (encI .u8) [], ls 5 false enc36 [], .int .u8 y5.1, .int .u32 y5.2.1, .bool y5.2.2.1, ls 1 false (encI .u8) y5.2.2.2.1, ls 5 false enc36 y5.2.2.2.2, .int .u8 0, .int .u32 4, .bool false, ls 1 false (encI .u8) x.2.2.2.2.2, .slice none 0 0] (.slice none 0 0) (ls 5 false enc36 []) (.list 5 false) (by kernel_rfl) ?_
    refine H.ret' ?_
    obtain rfl := Option.some.inj h
    exact KEnd.of (v := .agg #[.int .u8 2, .int .u32 (IntKind.u32.wrap x.1), .bool true, .slice none 0 0, .slice (some ⟨6, 0, none⟩) 3 1180591620717411303424]) (by kernel_rfl) (by kernel_rfl) (PEnd.frzE 6 3 1180591620717411303424 5 36 false ([(S36.mk 0 5 false [] []), (S36.mk y5.1 y5.2.1 y5.2.2.1 y5.2.2.2.1 y5.2.2.2.2), (S36.mk 0 4 false x.2.2.2.2.2 [])].map enc36).toArray #[.agg #[.int .u8 0, .int .u32 5, .bool false, ls 1 false (encI .u8) [], ls 5 false enc36 []], .agg #[.int .u8 y5.1, .int .u32 y5.2.1, .bool y5.2.2.1, ls 1 false (encI .u8) y5.2.2.2.1, ls 5 false enc36 y5.2.2.2.2], .agg #[.int .u8 0, .int .u32 4, .bool false, ls 1 false (encI .u8) x.2.2.2.2.2, ls 5 false enc36 []]] [.int .u8 0, .int .u32 5, .bool false, ls 1 false (encI .u8) [], ls 5 false enc36 [], .int .u8 y5.1, .int .u32 y5.2.1, .bool y5.2.2.1, ls 1 false (encI .u8) y5.2.2.2.1, ls 5 false enc36 y5.2.2.2.2, .int .u8 0, .int .u32 4, .bool false, ls 1 false (encI .u8) x.2.2.2.2.2, ls 5 false enc36 []] (by simp only [List.map_cons, List.map_nil, enc36_eq]) (by kernel_rfl) (PEnd.wk (v1 := .agg #[.int .u8 2, .int .u32 (IntKind.u32.wrap x.1), .bool true, ls 1 false (encI .u8) [], ls 5 false enc36 [(S36.mk 0 5 false [] []), (S36.mk y5.1 y5.2.1 y5.2.2.1 y5.2.2.2.1 y5.2.2.2.2), (S36.mk 0 4 false x.2.2.2.2.2 [])]]) (.agg [.keep, .keep, .keep, .list 1 false, .list 5 false]) (by kernel_rfl) (PEnd.fin (by kernel_rfl))))
  rw [if_pos (of_decide_eq_true hb)] at h
  refine H.drawQ ?_
  refine HQ.go' 4 ?_
  obtain ⟨y1, hy, h⟩ := bindS h
  refine HQ.callW hS [.keep, .keep, .keep] (lawPart_ok (2, 0, x.2.2.1) y1 hy W0) (by kernel_rfl) (by kernel_rfl) ?_
  refine HQ.go' 1 ?_
  refine HQ.go' 1 ?_
  refine HQ.go' 2 ?_
  refine HQ.done (by kernel_rfl) (by kernel_rfl) (by kernel_rfl) ?_
  refine Kseq_norm ?_
  refine H.seq' ?_
  refine H.sr' 3 ?_
  refine H.cS' (decide (x.1 = 5)) (fun hb => ?_) (fun hb => ?_)
  · rw [if_pos (of_decide_eq_true hb)] at h
    refine H.drawQ ?_
    refine HQ.go' 5 ?_
    obtain ⟨y2, hy, h⟩ := bindS h
    refine HQ.callW hS [.keep, .keep, .keep] (lawPart_ok (2, 1, (IntKind.i64.wrap x.2.2.2.2.1)) y2 hy W0) (by kernel_rfl) (by kernel_rfl) ?_
    refine HQ.go' 1 ?_
    refine HQ.go' 1 ?_
    refine HQ.go' 2 ?_
    refine HQ.done (by kernel_rfl) (by kernel_rfl) (by kernel_rfl) ?_
    refine Kseq_norm ?_
    refine H.sr' 2 ?_
    refine H.wkc 8 36 5 3 [.int .u8 0, .int .u32 5, .bool false, .slice none 0 0, .slice none 0 0, .int .u8 y1.1, .int .u32 y1.2.1, .bool y1.2.2.1, ls 1 false (encI .u8) y1.2.2.2.1, ls 5 false enc36 y1.2.2.2.2, .int .u8 y2.1, .int .u32 y2.2.1, .bool y2.2.2.1, ls 1 false (encI .u8) y2.2.2.2.1, ls 5 false enc36 y2.2.2.2.2] (.slice none 0 0) (ls 1 false (encI .u8) []) (.list 1 false) (by kernel_rfl) ?_
    refine H.wkc 8 36 5 4 [.int .u8 0, .int .u32 5, .bool false, ls 1 false (encI .u8) [], .slice none 0 0, .int .u8 y1.1, .int .u32 y1.2.1, .bool y1.2.2.1, ls 1 false (encI .u8) y1.2.2.2.1, ls 5 false enc36 y1.2.2.2.2, .int .u8 y2.1, .int .u32 y2.2.1, .bool y2.2.2.1, ls 1 false (encI .u8) y2.2.2.2.1, ls 5 false enc36 y2.2.2.2.2] (.slice none 0 0) (ls 5 false enc36 []) (.list 5 false) (by kernel_rfl) ?_
    refine H.ret' ?_
    obtain rfl := Option.some.inj h
    exact KEnd.of (v := .agg #[.int .u8 2, .int .u32 (IntKind.u32.wrap x.1), .bool true, .slice none 0 0, .slice (some ⟨8, 0, none⟩) 3 1180591620717411303424]) (by kernel_rfl) (by kernel_rfl) (PEnd.frzE 8 3 1180591620717411303424 5 36 false ([(S36.mk 0 5 false [] []), (S36.mk y1.1 y1.2.1 y1.2.2.1 y1.2.2.2.1 y1.2.2.2.2), (S36.mk y2.1 y2.2.1 y2.2.2.1 y2.2.2.2.1 y2.2.2.2.2)].map enc36).toArray #[.agg #[.int .u8 0, .int .u32 5, .bool false, ls 1 false (encI .u8) [], ls 5 false enc36 []], .agg #[.int .u8 y1.1, .int .u32 y1.2.1, .bool y1.2.2.1, ls 1 false (encI .u8) y1.2.2.2.1, ls 5 false enc36 y1.2.2.2.2], .agg #[.int .u8 y2.1, .int .u32 y2.2.1, .bool y2.2.2.1, ls 1 false (encI .u8) y2.2.2.2.1, ls 5 false enc36 y2.2.2.2.2]] [.int .u8 0, .int .u32 5, .bool false, ls 1 false (encI .u8) [], ls 5 false enc36 [], .int .u8 y1.1, .int .u32 y1.2.1, .bool y1.2.2.1, ls 1 false (encI .u8) y1.2.2.2.1, ls 5 false enc36 y1.2.2.2.2, .int .u8 y2.1, .int .u32 y2.2.1, .bool y2.2.2.1, ls 1 false (encI .u8) y2.2.2.2.1, ls 5 false enc36 y2.2.2.2.2] (by simp only [List.map_cons, List.map_nil, enc36_eq]) (by kernel_rfl) (PEnd.wk (v1 := .agg #[.int .u8 2, .int .u32 (IntKind.u32.wrap x.1), .bool true, ls 1 false (encI .u8) [], ls 5 false enc36 [(S36.mk 0 5 false [] []), (S36.mk y1.1 y1.2.1 y1.2.2.1 y1.2.2.2.1 y1.2.2.2.2), (S36.mk y2.1 y2.2.1 y2.2.2.1 y2.2.2.2.1 y2.2.2.2.2)]]) (.agg [.keep, .keep, .keep, .list 1 false, .list 5 false]) (by kernel_rfl) (PEnd.fin (by kernel_rfl))))
  rw [if_neg (of_decide_eq_false hb)] at h
  refine H.drawQ ?_
  refine HQ.go' 4 ?_
  obtain ⟨y3, hy, h⟩ := bindS h
  refine HQ.callW hS [.keep, .keep, .keep] (lawPart_ok (0, 10, x.2.2.2.1) y3 hy W0) (by kernel_rfl) (by kernel_rfl) ?_
  refine HQ.go' 4 ?_
  refine HQ.go' 1 ?_
  refine HQ.go' 2 ?_
  refine HQ.done (by kernel_rfl) (by kernel_rfl) (by kernel_rfl) ?_
  refine Kseq_norm ?_
  refine H.sr' 2 ?_
  refine H.wkc 8 36 5 3 [.int .u8 0, .int .u32 5, .bool false, .slice none 0 0, .slice none 0 0, .int .u8 y1.1, .int .u32 y1.2.1, .bool y1.2.2.1, ls 1 false (encI .u8) y1.2.2.2.1, ls 5 false enc36 y1.2.2.2.2, .int .u8 y3.1, .int .u32 y3.2.1, .bool y3.2.2.1, ls 1 false (encI .u8) y3.2.2.2.1, ls 5 false enc36 y3.2.2.2.2, .int .u8 0, .int .u32 4, .bool false, ls 1 false (encI .u8) x.2.2.2.2.2, .slice none 0 0] (.slice none 0 0) (ls 1 false (encI .u8) []) (.list 1 false) (by kernel_rfl) ?_
  refine H.wkc 8 36 5 4 [.int .u8 0, .int .u32 5, .bool false, ls 1 false (encI .u8) [], .slice none 0 0, .int .u8 y1.1, .int .u32 y1.2.1, .bool y1.2.2.1, ls 1 false (encI .u8) y1.2.2.2.1, ls 5 false enc36 y1.2.2.2.2, .int .u8 y3.1, .int .u32 y3.2.1, .bool y3.2.2.1, ls 1 false (encI .u8) y3.2.2.2.1, ls 5 false enc36 y3.2.2.2.2, .int .u8 0, .int .u32 4, .bool false, ls 1 false (encI .u8) x.2.2.2.2.2, .slice none 0 0] (.slice none 0 0) (ls 5 false enc36 []) (.list 5 false) (by kernel_rfl) ?_
  refine H.wkc 8 36 5 19 [.int .u8 0, .int .u32 5, .bool false, ls 1 false (encI .u8) [], ls 5 false enc36 [], .int .u8 y1.1, .int .u32 y1.2.1, .bool y1.2.2.1, ls 1 false (encI .u8) y1.2.2.2.1, ls 5 false enc36 y1.2.2.2.2, .int .u8 y3.1, .int .u32 y3.2.1, .bool y3.2.2.1, ls 1 false (encI .u8) y3.2.2.2.1, ls 5 false enc36 y3.2.2.2.2, .int .u8 0, .int .u32 4, .bool false, ls 1 false (encI .u8) x.2.2.2.2.2, .slice none 0 0] (.slice none 0 0) (ls 5 false enc36 []) (.list 5 false) (by kernel_rfl) ?_
  refine H.ret' ?_
  obtain rfl := Option.some.inj h
  exact KEnd.of (v := .agg #[.int .u8 2, .int .u32 (IntKind.u32.wrap x.1), .bool true, .slice none 0 0, .slice (some ⟨8, 0, none⟩) 4 1180591620717411303424]) (by kernel_rfl) (by kernel_rfl) (PEnd.frzE 8 4 1180591620717411303424 5 36 false ([(S36.mk 0 5 false [] []), (S36.mk y1.1 y1.2.1 y1.2.2.1 y1.2.2.2.1 y1.2.2.2.2), (S36.mk y3.1 y3.2.1 y3.2.2.1 y3.2.2.2.1 y3.2.2.2.2), (S36.mk 0 4 false x.2.2.2.2.2 [])].map enc36).toArray #[.agg #[.int .u8 0, .int .u32 5, .bool false, ls 1 false (encI .u8) [], ls 5 false enc36 []], .agg #[.int .u8 y1.1, .int .u32 y1.2.1, .bool y1.2.2.1, ls 1 false (encI .u8) y1.2.2.2.1, ls 5 false enc36 y1.2.2.2.2], .agg #[.int .u8 y3.1, .int .u32 y3.2.1, .bool y3.2.2.1, ls 1 false (encI .u8) y3.2.2.2.1, ls 5 false enc36 y3.2.2.2.2], .agg #[.int .u8 0, .int .u32 4, .bool false, ls 1 false (encI .u8) x.2.2.2.2.2, ls 5 false enc36 []]] [.int .u8 0, .int .u32 5, .bool false, ls 1 false (encI .u8) [], ls 5 false enc36 [], .int .u8 y1.1, .int .u32 y1.2.1, .bool y1.2.2.1, ls 1 false (encI .u8) y1.2.2.2.1, ls 5 false enc36 y1.2.2.2.2, .int .u8 y3.1, .int .u32 y3.2.1, .bool y3.2.2.1, ls 1 false (encI .u8) y3.2.2.2.1, ls 5 false enc36 y3.2.2.2.2, .int .u8 0, .int .u32 4, .bool false, ls 1 false (encI .u8) x.2.2.2.2.2, ls 5 false enc36 []] (by simp only [List.map_cons, List.map_nil, enc36_eq]) (by kernel_rfl) (PEnd.wk (v1 := .agg #[.int .u8 2, .int .u32 (IntKind.u32.wrap x.1), .bool true, ls 1 false (encI .u8) [], ls 5 false enc36 [(S36.mk 0 5 false [] []), (S36.mk y1.1 y1.2.1 y1.2.2.1 y1.2.2.2.1 y1.2.2.2.2), (S36.mk y3.1 y3.2.1 y3.2.2.1 y3.2.2.2.1 y3.2.2.2.2), (S36.mk 0 4 false x.2.2.2.2.2 [])]]) (.agg [.keep, .keep, .keep, .list 1 false, .list 5 false]) (by kernel_rfl) (PEnd.fin (by kernel_rfl))))
def sameC_L1 (x : Bool) : Option (Bool) :=
  some x
theorem sameC_L1_ok : ∀ (x : Bool) (r : Bool), sameC_L1 x = some r → ∀ (W0 w0 : World) (S : Own), Std W0 w0 S 0 → H Tryd.prog w0 S 47 (cR (cR (cB Tryd.f36))) (mkS [(4, .bool x)] [] 0 []) (KEnd Tryd.prog Tryd.f36 (PEnd w0 S (.returned (.bool r)))) := by
  intro x r h
  unfold sameC_L1 at h
  intro W0 w0 S hS
  haveI := hS.noEx Tryd.prog
  refine H.ret' ?_
  obtain rfl := Option.some.inj h
  exact KEnd.r'
def sameC (x : Int × Int × Int × Int × Int × (List Int) × Int × Int × Int × Int × Int × (List Int)) : Option (Bool) :=
  if x.1 = x.2.2.2.2.2.2.1 then
    if x.2.1 = x.2.2.2.2.2.2.2.1 then
      if x.2.2.1 = x.2.2.2.2.2.2.2.2.1 then
        if x.2.2.2.1 = x.2.2.2.2.2.2.2.2.2.1 then
          if x.2.2.2.2.1 = x.2.2.2.2.2.2.2.2.2.2.1 then
            sameC_L1 (strEq (bytesU x.2.2.2.2.2.1) (bytesU x.2.2.2.2.2.2.2.2.2.2.2))
          else
            sameC_L1 false
        else
          sameC_L1 false
      else
        sameC_L1 false
    else
      sameC_L1 false
  else
    sameC_L1 false
theorem sameC_ok : ∀ (x : Int × Int × Int × Int × Int × (List Int) × Int × Int × Int × Int × Int × (List Int)) (r : Bool), sameC x = some r → ∀ W0 : World, PTo Tryd.prog W0 36 #[.agg #[.int .u8 x.1, .int .i64 x.2.1, .int .i64 x.2.2.1, .int .i64 x.2.2.2.1, .int .u8 x.2.2.2.2.1, ls 1 false (encI .u8) x.2.2.2.2.2.1], .agg #[.int .u8 x.2.2.2.2.2.2.1, .int .i64 x.2.2.2.2.2.2.2.1, .int .i64 x.2.2.2.2.2.2.2.2.1, .int .i64 x.2.2.2.2.2.2.2.2.2.1, .int .u8 x.2.2.2.2.2.2.2.2.2.2.1, ls 1 false (encI .u8) x.2.2.2.2.2.2.2.2.2.2.2]] (.returned (.bool r)) := by
  intro x r h
  unfold sameC at h
  intro W0
  refine PTo.of_body (fn := Tryd.f36) (code := cB Tryd.f36) Tryd.func36 rfl rfl ?_
  intro w0 S hS
  haveI := hS.noEx Tryd.prog
  refine H.sr' 3 ?_
  refine H.sg' ?_
  refine HO.go' 5 ?_
  refine HO.bo' (decide (x.1 = x.2.2.2.2.2.2.1)) (fun hb => ?_) (fun hb => ?_)
  rotate_left
  · rw [if_neg (of_decide_eq_false hb)] at h
    refine HO.fin' 37 ?_
    exact H.ren' hS [] (sameC_L1_ok false r h W0 w0 S hS)
  rw [if_pos (of_decide_eq_true hb)] at h
  refine HO.go' 6 ?_
  refine HO.bo' (decide (x.2.1 = x.2.2.2.2.2.2.2.1)) (fun hb => ?_) (fun hb => ?_)
  rotate_left
  · rw [if_neg (of_decide_eq_false hb)] at h
    refine HO.fin' 30 ?_
    exact H.ren' hS [] (sameC_L1_ok false r h W0 w0 S hS)
  rw [if_pos (of_decide_eq_true hb)] at h
  refine HO.go' 6 ?_
  refine HO.bo' (decide (x.2.2.1 = x.2.2.2.2.2.2.2.2.1)) (fun hb => ?_) (fun hb => ?_)
  rotate_left
  · rw [if_neg (of_decide_eq_false hb)] at h
    refine HO.fin' 23 ?_
    exact H.ren' hS [] (sameC_L1_ok false r h W0 w0 S hS)
  rw [if_pos (of_decide_eq_true hb)] at h
  refine HO.go' 6 ?_
  refine HO.bo' (decide (x.2.2.2.1 = x.2.2.2.2.2.2.2.2.2.1)) (fun hb => ?_) (fun hb => ?_)
  rotate_left
  · rw [if_neg (of_decide_eq_false hb)] at h
    refine HO.fin' 16 ?_
    exact H.ren' hS [] (sameC_L1_ok false r h W0 w0 S hS)
  rw [if_pos (of_decide_eq_true hb)] at h
  refine HO.go' 6 ?_
  refine HO.bo' (decide (x.2.2.2.2.1 = x.2.2.2.2.2.2.2.2.2.2.1)) (fun hb => ?_) (fun hb => ?_)
  rotate_left
  · rw [if_neg (of_decide_eq_false hb)] at h
    refine HO.fin' 9 ?_
    exact H.ren' hS [] (sameC_L1_ok false r h W0 w0 S hS)
  rw [if_pos (of_decide_eq_true hb)] at h
  refine HO.go' 2 ?_
  refine HO.valA (str_aop x.2.2.2.2.2.1 (by kernel_rfl)) ?_
  refine HO.go' 2 ?_
  refine HO.valA (str_aop x.2.2.2.2.2.2.2.2.2.2.2 (by kernel_rfl)) ?_
  refine HO.fin' 3 ?_
  exact H.ren' hS [] (sameC_L1_ok (strEq (bytesU x.2.2.2.2.2.1) (bytesU x.2.2.2.2.2.2.2.2.2.2.2)) r h W0 w0 S hS)
def zeroC (x : Int × Int × Int × Int × Int × (List Int)) : Option (Bool) :=
  (sameC (x.1, x.2.1, x.2.2.1, x.2.2.2.1, x.2.2.2.2.1, x.2.2.2.2.2, 0, 0, 0, 0, 0, [])) >>= fun y1 =>
  some y1
theorem zeroC_ok : ∀ (x : Int × Int × Int × Int × Int × (List Int)) (r : Bool), zeroC x = some r → ∀ W0 : World, PTo Tryd.prog W0 34 #[.agg #[.int .u8 x.1, .int .i64 x.2.1, .int .i64 x.2.2.1, .int .i64 x.2.2.2.1, .int .u8 x.2.2.2.2.1, ls 1 false (encI .u8) x.2.2.2.2.2]] (.returned (.bool r)) := by
  intro x r h
  unfold zeroC at h
  intro W0
  refine PTo.of_body (fn := Tryd.f34) (code := cB Tryd.f34) Tryd.func34 rfl rfl ?_
  intro w0 S hS
  haveI := hS.noEx Tryd.prog
  refine H.sr' 2 ?_
  refine H.sg' ?_
  refine HO.go' 2 ?_
  obtain ⟨y1, hy, h⟩ := bindS h
  refine HO.callW hS [.agg [.keep, .keep, .keep, .keep, .keep, .list 1 false], .agg [.keep, .keep, .keep, .keep, .keep, .list 1 false]] (sameC_ok (x.1, x.2.1, x.2.2.1, x.2.2.2.1, x.2.2.2.2.1, x.2.2.2.2.2, 0, 0, 0, 0, 0, []) y1 hy W0) (by kernel_rfl) (by kernel_rfl) ?_
  refine HO.fin' 1 ?_
  refine H.ret' ?_
  obtain rfl := Option.some.inj h
  exact KEnd.r'
def identifier_L3 (x : (List Int) × Int × Int × Int × Bool × (List Int) × (List S36)) : Option ((List Int)) :=
  if 0 < x.2.1 then
    (shr' .u32 x.2.2.2.1 x.2.1) >>= fun y4 =>
    (app' 1 x.1 [(bOr .u8 (IntKind.u8.wrap y4) 128)]) >>= fun y5 =>
    identifier_L3 (y5, (IntKind.i64.wrap (x.2.1 - 7)), x.2.2.1, x.2.2.2.1, x.2.2.2.2.1, x.2.2.2.2.2.1, x.2.2.2.2.2.2)
  else
    (app' 1 x.1 [(IntKind.u8.wrap (bAnd .u32 x.2.2.2.1 127))]) >>= fun y6 =>
    some y6
partial_fixpoint
theorem identifier_L3_ok : ∀ (x : (List Int) × Int × Int × Int × Bool × (List Int) × (List S36)) (r : (List Int)), identifier_L3 x = some r → ∀ (W0 w0 : World) (S : Own), Std W0 w0 S 0 → HL Tryd.prog w0 S 58 (cL (cL (cL (cR (cR (cR (cR (cR (cR (cR (cB Tryd.f80))))))))))) (mkS [(0, tl 1 0 (encI .u8) x.1), (3, .pointer (some ⟨1, 0, none⟩)), (6, .int .i64 x.2.1)] [(1, .cells [.int .u8 x.2.2.1, .int .u32 x.2.2.2.1, .bool x.2.2.2.2.1, ls 1 false (encI .u8) x.2.2.2.2.2.1, ls 5 false enc36 x.2.2.2.2.2.2] 36 5)] 2 [0]) (Kblock 2 (Kseq Tryd.prog w0 S 58 (cR (cR (cR (cR (cR (cR (cR (cR (cB Tryd.f80))))))))) (KEnd Tryd.prog Tryd.f80 (FEnd w0 S (.returned (tl 1 0 (encI .u8) r)) (mkW 1 [0] []))))) := by
  refine identifier_L3.partial_correctness (fun (x : (List Int) × Int × Int × Int × Bool × (List Int) × (List S36)) (r : (List Int)) => ∀ (W0 w0 : World) (S : Own), Std W0 w0 S 0 → HL Tryd.prog w0 S 58 (cL (cL (cL (cR (cR (cR (cR (cR (cR (cR (cB Tryd.f80))))))))))) (mkS [(0, tl 1 0 (encI .u8) x.1), (3, .pointer (some ⟨1, 0, none⟩)), (6, .int .i64 x.2.1)] [(1, .cells [.int .u8 x.2.2.1, .int .u32 x.2.2.2.1, .bool x.2.2.2.2.1, ls 1 false (encI .u8) x.2.2.2.2.2.1, ls 5 false enc36 x.2.2.2.2.2.2] 36 5)] 2 [0]) (Kblock 2 (Kseq Tryd.prog w0 S 58 (cR (cR (cR (cR (cR (cR (cR (cR (cB Tryd.f80))))))))) (KEnd Tryd.prog Tryd.f80 (FEnd w0 S (.returned (tl 1 0 (encI .u8) r)) (mkW 1 [0] [])))))) ?_
  intro self ih_identifier_L3 x r h
  intro W0 w0 S hS
  haveI := hS.noEx Tryd.prog
  refine HL.round ?_
  refine H.seq' ?_
  refine H.sr' 2 ?_
  refine H.cS' (decide (0 < x.2.1)) (fun hb => ?_) (fun hb => ?_)
  rotate_left
  · rw [if_neg (of_decide_eq_false hb)] at h
    refine H.ext' 2 ?_
    refine Kseq_exit ?_
    refine Kloop_exit ?_
    refine Kblock_hit ?_
    refine Kseq_norm ?_
    refine H.sg' ?_
    refine HO.go' 6 ?_
    obtain ⟨y6, hy, h⟩ := bindS h
    refine HO.effA (app1_aop (enc := (encI .u8)) (k := 1) false 1 [.int .u8 (IntKind.u8.wrap (bAnd .u32 x.2.2.2.1 127))] [] hy (by kernel_rfl) (by kernel_rfl) (by kernel_rfl)) ?_
    refine HO.fin' 1 ?_
    refine H.ret' ?_
    obtain rfl := Option.some.inj h
    exact KEnd.of (v := tl 1 3 (encI .u8) y6) (by kernel_rfl) (by kernel_rfl) (FEnd.ren hS [3] _ _ (by kernel_rfl))
  rw [if_pos (of_decide_eq_true hb)] at h
  refine H.skp' ?_
  refine Kseq_norm ?_
  refine H.seq' ?_
  refine H.blk' 3 ?_
  refine H.reg' ?_
  refine HO.go' 4 ?_
  obtain ⟨y4, hy, h⟩ := bindS h
  refine HO.valA (shr_aop hy (by kernel_rfl)) ?_
  refine HO.go' 3 ?_
  obtain ⟨y5, hy, h⟩ := bindS h
  refine HO.effA (app1_aop (enc := (encI .u8)) (k := 1) false 1 [.int .u8 (bOr .u8 (IntKind.u8.wrap y4) 128)] [] hy (by kernel_rfl) (by kernel_rfl) (by kernel_rfl)) ?_
  refine HO.go' 1 ?_
  refine HO.end' ?_
  refine Kblock_norm ?_
  refine Kseq_norm ?_
  refine H.reg' ?_
  refine HO.go' 3 ?_
  refine HO.end' ?_
  refine Kloop_norm ?_
  exact HL.ren' hS [3, 1] (ih_identifier_L3 (y5, (IntKind.i64.wrap (x.2.1 - 7)), x.2.2.1, x.2.2.2.1, x.2.2.2.2.1, x.2.2.2.2.2.1, x.2.2.2.2.2.2) r h W0 w0 S hS)
def identifier_L2 (x : (List Int) × Int × Int × Int × Bool × (List Int) × (List S36)) : Option ((List Int)) :=
  (shr' .u32 x.2.2.2.1 (IntKind.i64.wrap (x.2.1 + 7))) >>= fun y3 =>
  if 0 < y3 then
    identifier_L2 (x.1, (IntKind.i64.wrap (x.2.1 + 7)), x.2.2.1, x.2.2.2.1, x.2.2.2.2.1, x.2.2.2.2.2.1, x.2.2.2.2.2.2)
  else
    identifier_L3 (x.1, x.2.1, x.2.2.1, x.2.2.2.1, x.2.2.2.2.1, x.2.2.2.2.2.1, x.2.2.2.2.2.2)
partial_fixpoint
theorem identifier_L2_ok : ∀ (x : (List Int) × Int × Int × Int × Bool × (List Int) × (List S36)) (r : (List Int)), identifier_L2 x = some r → ∀ (W0 w0 : World) (S : Own), Std W0 w0 S 0 → HL Tryd.prog w0 S 58 (cL (cL (cL (cR (cR (cR (cR (cR (cR (cB Tryd.f80)))))))))) (mkS [(0, tl 1 0 (encI .u8) x.1), (3, .pointer (some ⟨1, 0, none⟩)), (6, .int .i64 x.2.1)] [(1, .cells [.int .u8 x.2.2.1, .int .u32 x.2.2.2.1, .bool x.2.2.2.2.1, ls 1 false (encI .u8) x.2.2.2.2.2.1, ls 5 false enc36 x.2.2.2.2.2.2] 36 5)] 2 [0]) (Kblock 0 (Kseq Tryd.prog w0 S 58 (cR (cR (cR (cR (cR (cR (cR (cB Tryd.f80)))))))) (KEnd Tryd.prog Tryd.f80 (FEnd w0 S (.returned (tl 1 0 (encI .u8) r)) (mkW 1 [0] []))))) := by
  refine identifier_L2.partial_correctness (fun (x : (List Int) × Int × Int × Int × Bool × (List Int) × (List S36)) (r : (List Int)) => ∀ (W0 w0 : World) (S : Own), Std W0 w0 S 0 → HL Tryd.prog w0 S 58 (cL (cL (cL (cR (cR (cR (cR (cR (cR (cB Tryd.f80)))))))))) (mkS [(0, tl 1 0 (encI .u8) x.1), (3, .pointer (some ⟨1, 0, none⟩)), (6, .int .i64 x.2.1)] [(1, .cells [.int .u8 x.2.2.1, .int .u32 x.2.2.2.1, .bool x.2.2.2.2.1, ls 1 false (encI .u8) x.2.2.2.2.2.1, ls 5 false enc36 x.2.2.2.2.2.2] 36 5)] 2 [0]) (Kblock 0 (Kseq Tryd.prog w0 S 58 (cR (cR (cR (cR (cR (cR (cR (cB Tryd.f80)))))))) (KEnd Tryd.prog Tryd.f80 (FEnd w0 S (.returned (tl 1 0 (encI .u8) r)) (mkW 1 [0] [])))))) ?_
  intro self ih_identifier_L2 x r h
  intro W0 w0 S hS
  haveI := hS.noEx Tryd.prog
  refine HL.round ?_
  refine H.seq' ?_
  refine H.sg' ?_
  refine HO.go' 4 ?_
  obtain ⟨y3, hy, h⟩ := bindS h
  refine HO.valA (shr_aop hy (by kernel_rfl)) ?_
  refine HO.fin' 1 ?_
  refine H.cS' (decide (0 < y3)) (fun hb => ?_) (fun hb => ?_)
  · rw [if_pos (of_decide_eq_true hb)] at h
    refine H.skp' ?_
    refine Kseq_norm ?_
    refine H.blk' 1 ?_
    refine H.reg' ?_
    refine HO.go' 3 ?_
    refine HO.end' ?_
    refine Kblock_norm ?_
    refine Kloop_norm ?_
    exact HL.ren' hS [0, 1] (ih_identifier_L2 (x.1, (IntKind.i64.wrap (x.2.1 + 7)), x.2.2.1, x.2.2.2.1, x.2.2.2.2.1, x.2.2.2.2.2.1, x.2.2.2.2.2.2) r h W0 w0 S hS)
  rw [if_neg (of_decide_eq_false hb)] at h
  refine H.ext' 0 ?_
  refine Kseq_exit ?_
  refine Kloop_exit ?_
  refine Kblock_hit ?_
  refine Kseq_norm ?_
  refine H.seq' ?_
  refine H.blk' 2 ?_
  refine H.lop' ?_
  exact HL.ren' hS [0, 1] (identifier_L3_ok (x.1, x.2.1, x.2.2.1, x.2.2.2.1, x.2.2.2.2.1, x.2.2.2.2.2.1, x.2.2.2.2.2.2) r h W0 w0 S hS)
def identifier_L1 (x : Int × Int × Int × Bool × (List Int) × (List S36)) : Option ((List Int)) :=
  if x.2.2.1 < 31 then
    (app' 1 [] [(bOr .u8 x.1 (IntKind.u8.wrap x.2.2.1))]) >>= fun y1 =>
    some y1
  else
    (app' 1 [] [(bOr .u8 x.1 31)]) >>= fun y2 =>
    identifier_L2 (y2, 0, x.2.1, x.2.2.1, x.2.2.2.1, x.2.2.2.2.1, x.2.2.2.2.2)
theorem identifier_L1_ok : ∀ (x : Int × Int × Int × Bool × (List Int) × (List S36)) (r : (List Int)), identifier_L1 x = some r → ∀ (W0 w0 : World) (S : Own), Std W0 w0 S 0 → H Tryd.prog w0 S 58 (cR (cR (cR (cB Tryd.f80)))) (mkS [(0, .slice none 0 0), (3, .pointer (some ⟨0, 0, none⟩)), (5, .int .u8 x.1)] [(0, .cells [.int .u8 x.2.1, .int .u32 x.2.2.1, .bool x.2.2.2.1, ls 1 false (encI .u8) x.2.2.2.2.1, ls 5 false enc36 x.2.2.2.2.2] 36 5)] 1 []) (KEnd Tryd.prog Tryd.f80 (FEnd w0 S (.returned (tl 1 0 (encI .u8) r)) (mkW 1 [0] []))) := by
  intro x r h
  unfold identifier_L1 at h
  intro W0 w0 S hS
  haveI := hS.noEx Tryd.prog
  refine H.seq' ?_
  refine H.sr' 3 ?_
  refine H.cS' (decide (x.2.2.1 < 31)) (fun hb => ?_) (fun hb => ?_)
  · rw [if_pos (of_decide_eq_true hb)] at h
    refine H.sg' ?_
    refine HO.go' 7 ?_
    refine HO.tok 17 1 (es := #[]) (by kernel_rfl) ?_
    obtain ⟨y1, hy, h⟩ := bindS h
    refine HO.effA (app1_aop (enc := (encI .u8)) (k := 1) false 1 [.int .u8 (bOr .u8 x.1 (IntKind.u8.wrap x.2.2.1))] [] hy (by kernel_rfl) (by kernel_rfl) (by kernel_rfl)) ?_
    refine HO.fin' 1 ?_
    refine H.ret' ?_
    refine Kseq_ret ?_
    obtain rfl := Option.some.inj h
    exact KEnd.of (v := tl 1 3 (encI .u8) y1) (by kernel_rfl) (by kernel_rfl) (FEnd.ren hS [3] _ _ (by kernel_rfl))
  rw [if_neg (of_decide_eq_false hb)] at h
  refine H.skp' ?_
  refine Kseq_norm ?_
  refine H.sg' ?_
  refine HO.go' 4 ?_
  refine HO.tok 25 1 (es := #[]) (by kernel_rfl) ?_
  obtain ⟨y2, hy, h⟩ := bindS h
  refine HO.effA (app1_aop (enc := (encI .u8)) (k := 1) false 1 [.int .u8 (bOr .u8 x.1 31)] [] hy (by kernel_rfl) (by kernel_rfl) (by kernel_rfl)) ?_
  refine HO.fin' 1 ?_
  refine H.sr' 1 ?_
  refine H.seq' ?_
  refine H.blk' 0 ?_
  refine H.lop' ?_
  exact HL.ren' hS [3, 0] (identifier_L2_ok (y2, 0, x.2.1, x.2.2.1, x.2.2.2.1, x.2.2.2.2.1, x.2.2.2.2.2) r h W0 w0 S hS)
def identifier (x : Int × Int × Bool × (List Int) × (List S36)) : Option ((List Int)) :=
  if x.2.2.1 = true then
    identifier_L1 ((bOr .u8 (shlI .u8 x.1 6) 32), x.1, x.2.1, x.2.2.1, x.2.2.2.1, x.2.2.2.2)
  else
    identifier_L1 ((shlI .u8 x.1 6), x.1, x.2.1, x.2.2.1, x.2.2.2.1, x.2.2.2.2)
theorem identifier_ok : ∀ (x : Int × Int × Bool × (List Int) × (List S36)) (r : (List Int)), identifier x = some r → ∀ W0 : World, FTo Tryd.prog W0 80 #[.slice none 0 0, .agg #[.int .u8 x.1, .int .u32 x.2.1, .bool x.2.2.1, ls 1 false (encI .u8) x.2.2.2.1, ls 5 false enc36 x.2.2.2.2]] (mkW 0 [] []) (.returned (tl 1 0 (encI .u8) r)) (mkW 1 [0] []) := by
  intro x r h
  unfold identifier at h
  intro W0
  refine FTo.of_body (fn := Tryd.f80) (code := cB Tryd.f80) Tryd.func80 rfl rfl ?_
  intro w0 S hS
  haveI := hS.noEx Tryd.prog
  refine H.sr' 2 ?_
  refine H.sr' 4 ?_
  refine H.seq' ?_
  refine H.sr' 2 ?_
  refine H.cS' (x.2.2.1) (fun hb => ?_) (fun hb => ?_)
  rotate_left
  · rw [if_neg (ne_true hb)] at h
    refine H.skp' ?_
    refine Kseq_norm ?_
    exact H.ren' hS [0] (identifier_L1_ok ((shlI .u8 x.1 6), x.1, x.2.1, x.2.2.1, x.2.2.2.1, x.2.2.2.2) r h W0 w0 S hS)
  rw [if_pos hb] at h
  refine H.reg' ?_
  refine HO.fin' 3 ?_
  exact H.ren' hS [0] (identifier_L1_ok ((bOr .u8 (shlI .u8 x.1 6) 32), x.1, x.2.1, x.2.2.1, x.2.2.2.1, x.2.2.2.2) r h W0 w0 S hS)
def size_L3 (x : (List Int) × Int × Int) : Option ((List Int)) :=
  if 0 ≤ x.2.2 then
    (shr' .i64 x.2.1 (IntKind.i64.wrap (8 * x.2.2))) >>= fun y4 =>
    (app' 1 x.1 [(IntKind.u8.wrap y4)]) >>= fun y5 =>
    size_L3 (y5, x.2.1, (IntKind.i64.wrap (x.2.2 - 1)))
  else
    some x.1
partial_fixpoint
theorem size_L3_ok : ∀ (x : (List Int) × Int × Int) (r : (List Int)), size_L3 x = some r → ∀ (W0 w0 : World) (S : Own), Std W0 w0 S 1 → HL Tryd.prog w0 S 47 (cL (cL (cR (cL (cR (cR (cR (cR (cR (cB Tryd.f79)))))))))) (mkS [(0, tl 1 1 (encI .u8) x.1), (1, .int .i64 x.2.1), (7, .int .i64 x.2.2)] [] 2 [1]) (Kblock 3 (Kseq Tryd.prog w0 S 47 (cR (cR (cR (cR (cR (cR (cB Tryd.f79))))))) (KEnd Tryd.prog Tryd.f79 (FEnd w0 S (.returned (tl 1 1 (encI .u8) r)) (mkW 2 [1] []))))) := by
  refine size_L3.partial_correctness (fun (x : (List Int) × Int × Int) (r : (List Int)) => ∀ (W0 w0 : World) (S : Own), Std W0 w0 S 1 → HL Tryd.prog w0 S 47 (cL (cL (cR (cL (cR (cR (cR (cR (cR (cB Tryd.f79)))))))))) (mkS [(0, tl 1 1 (encI .u8) x.1), (1, .int .i64 x.2.1), (7, .int .i64 x.2.2)] [] 2 [1]) (Kblock 3 (Kseq Tryd.prog w0 S 47 (cR (cR (cR (cR (cR (cR (cB Tryd.f79))))))) (KEnd Tryd.prog Tryd.f79 (FEnd w0 S (.returned (tl 1 1 (encI .u8) r)) (mkW 2 [1] [])))))) ?_
  intro self ih_size_L3 x r h
  intro W0 w0 S hS
  haveI := hS.noEx Tryd.prog
  refine HL.round ?_
  refine H.seq' ?_
  refine H.sr' 2 ?_
  refine H.cS' (decide (0 ≤ x.2.2)) (fun hb => ?_) (fun hb => ?_)
  rotate_left
  · rw [if_neg (of_decide_eq_false hb)] at h
    refine H.ext' 3 ?_
    refine Kseq_exit ?_
    refine Kloop_exit ?_
    refine Kblock_hit ?_
    refine Kseq_norm ?_
    refine H.sr' 2 ?_
    refine H.ret' ?_
    obtain rfl := Option.some.inj h
    exact KEnd.of (v := tl 1 1 (encI .u8) x.1) (by kernel_rfl) (by kernel_rfl) (FEnd.ren hS [0, 1] _ _ (by kernel_rfl))
  rw [if_pos (of_decide_eq_true hb)] at h
  refine H.skp' ?_
  refine Kseq_norm ?_
  refine H.seq' ?_
  refine H.blk' 4 ?_
  refine H.reg' ?_
  refine HO.go' 4 ?_
  obtain ⟨y4, hy, h⟩ := bindS h
  refine HO.valA (shr_aop hy (by kernel_rfl)) ?_
  refine HO.go' 2 ?_
  obtain ⟨y5, hy, h⟩ := bindS h
  refine HO.effA (app1_aop (enc := (encI .u8)) (k := 1) false 1 [.int .u8 (IntKind.u8.wrap y4)] [] hy (by kernel_rfl) (by kernel_rfl) (by kernel_rfl)) ?_
  refine HO.go' 1 ?_
  refine HO.end' ?_
  refine Kblock_norm ?_
  refine Kseq_norm ?_
  refine H.reg' ?_
  refine HO.go' 3 ?_
  refine HO.end' ?_
  refine Kloop_norm ?_
  exact HL.ren' hS [0, 3] (ih_size_L3 (y5, x.2.1, (IntKind.i64.wrap (x.2.2 - 1))) r h W0 w0 S hS)
def size_L2 (x : (List Int) × Int × Int) : Option ((List Int)) :=
  (app' 1 x.1 [(IntKind.u8.wrap (128 + (IntKind.u8.wrap x.2.2)))]) >>= fun y3 =>
  size_L3 (y3, x.2.1, (IntKind.i64.wrap (x.2.2 - 1)))
theorem size_L2_ok : ∀ (x : (List Int) × Int × Int) (r : (List Int)), size_L2 x = some r → ∀ (W0 w0 : World) (S : Own), Std W0 w0 S 1 → H Tryd.prog w0 S 47 (cR (cR (cR (cR (cB Tryd.f79))))) (mkS [(0, tl 1 0 (encI .u8) x.1), (1, .int .i64 x.2.1), (7, .int .i64 x.2.2)] [] 1 [0]) (KEnd Tryd.prog Tryd.f79 (FEnd w0 S (.returned (tl 1 1 (encI .u8) r)) (mkW 2 [1] []))) := by
  intro x r h
  unfold size_L2 at h
  intro W0 w0 S hS
  haveI := hS.noEx Tryd.prog
  refine H.sg' ?_
  refine HO.go' 5 ?_
  obtain ⟨y3, hy, h⟩ := bindS h
  refine HO.effA (app1_aop (enc := (encI .u8)) (k := 1) false 1 [.int .u8 (IntKind.u8.wrap (128 + (IntKind.u8.wrap x.2.2)))] [] hy (by kernel_rfl) (by kernel_rfl) (by kernel_rfl)) ?_
  refine HO.fin' 1 ?_
  refine H.seq' ?_
  refine H.sr' 3 ?_
  refine H.blk' 3 ?_
  refine H.lop' ?_
  exact HL.ren' hS [0, 2] (size_L3_ok (y3, x.2.1, (IntKind.i64.wrap (x.2.2 - 1))) r h W0 w0 S hS)
def size_L1 (x : (List Int) × Int × Int × Int) : Option ((List Int)) :=
  (shr' .i64 x.2.1 (IntKind.i64.wrap (8 * x.2.2.2))) >>= fun y1 =>
  if 0 < y1 then
    size_L1 (x.1, x.2.1, x.2.2.1, (IntKind.i64.wrap (x.2.2.2 + 1)))
  else
    if x.2.2.1 = 2 then
      size_L2 (x.1, x.2.1, 4)
    else
      if x.2.1 < 128 then
        (app' 1 x.1 [(IntKind.u8.wrap x.2.1)]) >>= fun y2 =>
        some y2
      else
        size_L2 (x.1, x.2.1, x.2.2.2)
partial_fixpoint
theorem size_L1_ok : ∀ (x : (List Int) × Int × Int × Int) (r : (List Int)), size_L1 x = some r → ∀ (W0 w0 : World) (S : Own), Std W0 w0 S 1 → HL Tryd.prog w0 S 47 (cL (cL (cL (cR (cR (cB Tryd.f79)))))) (mkS [(0, tl 1 0 (encI .u8) x.1), (1, .int .i64 x.2.1), (2, .int .u8 x.2.2.1), (7, .int .i64 x.2.2.2)] [] 1 [0]) (Kblock 0 (Kseq Tryd.prog w0 S 47 (cR (cR (cR (cB Tryd.f79)))) (KEnd Tryd.prog Tryd.f79 (FEnd w0 S (.returned (tl 1 1 (encI .u8) r)) (mkW 2 [1] []))))) := by
  refine size_L1.partial_correctness (fun (x : (List Int) × Int × Int × Int) (r : (List Int)) => ∀ (W0 w0 : World) (S : Own), Std W0 w0 S 1 → HL Tryd.prog w0 S 47 (cL (cL (cL (cR (cR (cB Tryd.f79)))))) (mkS [(0, tl 1 0 (encI .u8) x.1), (1, .int .i64 x.2.1), (2, .int .u8 x.2.2.1), (7, .int .i64 x.2.2.2)] [] 1 [0]) (Kblock 0 (Kseq Tryd.prog w0 S 47 (cR (cR (cR (cB Tryd.f79)))) (KEnd Tryd.prog Tryd.f79 (FEnd w0 S (.returned (tl 1 1 (encI .u8) r)) (mkW 2 [1] [])))))) ?_
  intro self ih_size_L1 x r h
  intro W0 w0 S hS
  haveI := hS.noEx Tryd.prog
  refine HL.round ?_
  refine H.seq' ?_
  refine H.sg' ?_
  refine HO.go' 3 ?_
  obtain ⟨y1, hy, h⟩ := bindS h
  refine HO.valA (shr_aop hy (by kernel_rfl)) ?_
  refine HO.fin' 1 ?_
  refine H.cS' (decide (0 < y1)) (fun hb => ?_) (fun hb => ?_)
  · rw [if_pos (of_decide_eq_true hb)] at h
    refine H.skp' ?_
    refine Kseq_norm ?_
    refine H.blk' 1 ?_
    refine H.reg' ?_
    refine HO.go' 3 ?_
    refine HO.end' ?_
    refine Kblock_norm ?_
    refine Kloop_norm ?_
    exact HL.ren' hS [0] (ih_size_L1 (x.1, x.2.1, x.2.2.1, (IntKind.i64.wrap (x.2.2.2 + 1))) r h W0 w0 S hS)
  rw [if_neg (of_decide_eq_false hb)] at h
  refine H.ext' 0 ?_
  refine Kseq_exit ?_
  refine Kloop_exit ?_
  refine Kblock_hit ?_
  refine Kseq_norm ?_
  refine H.seq' ?_
  refine H.blk' 2 ?_
  refine H.sr' 3 ?_
  refine H.cS' (decide (x.2.2.1 = 2)) (fun hb => ?_) (fun hb => ?_)
  · rw [if_pos (of_decide_eq_true hb)] at h
    refine H.reg' ?_
    refine HO.go' 1 ?_
    refine HO.end' ?_
    refine Kblock_norm ?_
    refine Kseq_norm ?_
    exact H.ren' hS [0] (size_L2_ok (x.1, x.2.1, 4) r h W0 w0 S hS)
  rw [if_neg (of_decide_eq_false hb)] at h
  refine H.sr' 3 ?_
  refine H.cS' (decide (x.2.1 < 128)) (fun hb => ?_) (fun hb => ?_)
  rotate_left
  · rw [if_neg (of_decide_eq_false hb)] at h
    refine H.skp' ?_
    refine Kblock_norm ?_
    refine Kseq_norm ?_
    exact H.ren' hS [0] (size_L2_ok (x.1, x.2.1, x.2.2.2) r h W0 w0 S hS)
  rw [if_pos (of_decide_eq_true hb)] at h
  refine H.sg' ?_
  refine HO.go' 4 ?_
  obtain ⟨y2, hy, h⟩ := bindS h
  refine HO.effA (app1_aop (enc := (encI .u8)) (k := 1) false 1 [.int .u8 (IntKind.u8.wrap x.2.1)] [] hy (by kernel_rfl) (by kernel_rfl) (by kernel_rfl)) ?_
  refine HO.fin' 1 ?_
  refine H.ret' ?_
  refine Kblock_ret ?_
  refine Kseq_ret ?_
  obtain rfl := Option.some.inj h
  exact KEnd.of (v := tl 1 2 (encI .u8) y2) (by kernel_rfl) (by kernel_rfl) (FEnd.ren hS [0, 2] _ _ (by kernel_rfl))
def size (x : (List Int) × Int × Int) : Option ((List Int)) :=
  size_L1 (x.1, x.2.1, x.2.2, 0)
theorem size_ok : ∀ (x : (List Int) × Int × Int) (r : (List Int)), size x = some r → ∀ W0 : World, FTo Tryd.prog W0 79 #[tl 1 0 (encI .u8) x.1, .int .i64 x.2.1, .int .u8 x.2.2] (mkW 1 [0] []) (.returned (tl 1 1 (encI .u8) r)) (mkW 2 [1] []) := by
  intro x r h
  unfold size at h
  intro W0
  refine FTo.of_body (fn := Tryd.f79) (code := cB Tryd.f79) Tryd.func79 rfl rfl ?_
  intro w0 S hS
  haveI := hS.noEx Tryd.prog
  refine H.sr' 1 ?_
  refine H.sr' 1 ?_
  refine H.seq' ?_
  refine H.blk' 0 ?_
  refine H.lop' ?_
  exact HL.ren' hS [0] (size_L1_ok (x.1, x.2.1, x.2.2, 0) r h W0 w0 S hS)
mutual
def long_L1 (x : Int × (List S36) × Int × Int × Int × Int × Bool × (List Int)) : Option (Int) :=
  if x.2.2.2.1 < x.2.2.1 then
    (at' x.2.1 x.2.2.2.1) >>= fun y1 =>
    (long (y1.c0, y1.c1, y1.c2, y1.c3, y1.c4)) >>= fun y2 =>
    long_L1 ((IntKind.i64.wrap (x.1 + y2)), x.2.1, x.2.2.1, (IntKind.i64.wrap (x.2.2.2.1 + 1)), x.2.2.2.2.1, x.2.2.2.2.2.1, x.2.2.2.2.2.2.1, x.2.2.2.2.2.2.2)
  else
    (identifier (x.2.2.2.2.1, x.2.2.2.2.2.1, x.2.2.2.2.2.2.1, x.2.2.2.2.2.2.2, x.2.1)) >>= fun y3 =>
    (size (y3, x.1, 0)) >>= fun y4 =>
    some (IntKind.i64.wrap (x.1 + (y4.length : Int)))
partial_fixpoint
def long (x : Int × Int × Bool × (List Int) × (List S36)) : Option (Int) :=
  long_L1 ((x.2.2.2.1.length : Int), x.2.2.2.2, (x.2.2.2.2.length : Int), 0, x.1, x.2.1, x.2.2.1, x.2.2.2.1)
partial_fixpoint
end
theorem long_L1_grp : (∀ (x : Int × (List S36) × Int × Int × Int × Int × Bool × (List Int)) (r : Int), long_L1 x = some r → ∀ (W0 w0 : World) (S : Own), Std W0 w0 S 0 → HL Tryd.prog w0 S 28 (cL (cL (cR (cL (cR (cR (cB Tryd.f55))))))) (mkS [(1, .pointer (some ⟨0, 0, none⟩)), (3, .int .i64 x.1), (10, ls 5 false enc36 x.2.1), (11, .int .i64 x.2.2.1), (12, .int .i64 x.2.2.2.1)] [(0, .cells [.int .u8 x.2.2.2.2.1, .int .u32 x.2.2.2.2.2.1, .bool x.2.2.2.2.2.2.1, ls 1 false (encI .u8) x.2.2.2.2.2.2.2, ls 5 false enc36 x.2.1] 36 5)] 1 []) (Kblock 0 (Kseq Tryd.prog w0 S 28 (cR (cR (cR (cB Tryd.f55)))) (KEnd Tryd.prog Tryd.f55 (PEnd w0 S (.returned (.int .i64 r))))))) ∧
  (∀ (x : Int × Int × Bool × (List Int) × (List S36)) (r : Int), long x = some r → ∀ W0 : World, PTo Tryd.prog W0 55 #[.agg #[.int .u8 x.1, .int .u32 x.2.1, .bool x.2.2.1, ls 1 false (encI .u8) x.2.2.2.1, ls 5 false enc36 x.2.2.2.2]] (.returned (.int .i64 r))) := by
  refine long_L1.mutual_partial_correctness (fun (x : Int × (List S36) × Int × Int × Int × Int × Bool × (List Int)) (r : Int) => ∀ (W0 w0 : World) (S : Own), Std W0 w0 S 0 → HL Tryd.prog w0 S 28 (cL (cL (cR (cL (cR (cR (cB Tryd.f55))))))) (mkS [(1, .pointer (some ⟨0, 0, none⟩)), (3, .int .i64 x.1), (10, ls 5 false enc36 x.2.1), (11, .int .i64 x.2.2.1), (12, .int .i64 x.2.2.2.1)] [(0, .cells [.int .u8 x.2.2.2.2.1, .int .u32 x.2.2.2.2.2.1, .bool x.2.2.2.2.2.2.1, ls 1 false (encI .u8) x.2.2.2.2.2.2.2, ls 5 false enc36 x.2.1] 36 5)] 1 []) (Kblock 0 (Kseq Tryd.prog w0 S 28 (cR (cR (cR (cB Tryd.f55)))) (KEnd Tryd.prog Tryd.f55 (PEnd w0 S (.returned (.int .i64 r))))))) (fun (x : Int × Int × Bool × (List Int) × (List S36)) (r : Int) => ∀ W0 : World, PTo Tryd.prog W0 55 #[.agg #[.int .u8 x.1, .int .u32 x.2.1, .bool x.2.2.1, ls 1 false (encI .u8) x.2.2.2.1, ls 5 false enc36 x.2.2.2.2]] (.returned (.int .i64 r))) ?_ ?_
  · intro g_long_L1 g_long ih_long_L1 ih_long x r h
    intro W0 w0 S hS
    haveI := hS.noEx Tryd.prog
    refine HL.round ?_
    refine H.sr' 1 ?_
    refine H.seq' ?_
    refine H.cS' (decide (x.2.2.2.1 < x.2.2.1)) (fun hb => ?_) (fun hb => ?_)
    rotate_left
    · rw [if_neg (of_decide_eq_false hb)] at h
      refine H.ext' 0 ?_
      refine Kseq_exit ?_
      refine Kloop_exit ?_
      refine Kblock_hit ?_
      refine Kseq_norm ?_
      refine H.sg' ?_
      refine HO.go' 2 ?_
      obtain ⟨y3, hy, h⟩ := bindS h
      refine HO.callFW hS (tl 1 1 (encI .u8) y3) 2 [1] [(0, .cells [.int .u8 x.2.2.2.2.1, .int .u32 x.2.2.2.2.2.1, .bool x.2.2.2.2.2.2.1, ls 1 false (encI .u8) x.2.2.2.2.2.2.2, ls 5 false enc36 x.2.1] 36 5)] [] [.keep, .agg [.keep, .keep, .keep, .list 1 false, .list 5 false]] (identifier_ok (x.2.2.2.2.1, x.2.2.2.2.2.1, x.2.2.2.2.2.2.1, x.2.2.2.2.2.2.2, x.2.1) y3 hy W0) (by kernel_rfl) (by kernel_rfl) ?_
      refine HO.go' 1 ?_
      obtain ⟨y4, hy, h⟩ := bindS h
      refine HO.callFW hS (tl 1 2 (encI .u8) y4) 3 [2] [(0, .cells [.int .u8 x.2.2.2.2.1, .int .u32 x.2.2.2.2.2.1, .bool x.2.2.2.2.2.2.1, ls 1 false (encI .u8) x.2.2.2.2.2.2.2, ls 5 false enc36 x.2.1] 36 5)] [1] [.keep, .keep, .keep] (size_ok (y3, x.1, 0) y4 hy W0) (by kernel_rfl) (by kernel_rfl) ?_
      refine HO.len (by kernel_rfl) (by kernel_rfl) (ls_size (encI .u8) y4) ?_
      refine HO.fin' 2 ?_
      refine H.ret' ?_
      obtain rfl := Option.some.inj h
      exact KEnd.r'
    rw [if_pos (of_decide_eq_true hb)] at h
    refine H.skp' ?_
    refine Kseq_norm ?_
    refine H.seq' ?_
    refine H.blk' 1 ?_
    refine H.sg' ?_
    obtain ⟨y1, hy, h⟩ := bindS h
    refine HO.idx (.agg #[.int .u8 y1.c0, .int .u32 y1.c1, .bool y1.c2, ls 1 false (encI .u8) y1.c3, ls 5 false enc36 y1.c4]) hy (enc36_eq y1) (by kernel_rfl) ?_
    refine HO.fin' 3 ?_
    refine H.reg' ?_
    refine HO.go' 2 ?_
    obtain ⟨y2, hy, h⟩ := bindS h
    refine HO.callW hS [.agg [.keep, .keep, .keep, .list 1 false, .list 5 false]] (ih_long (y1.c0, y1.c1, y1.c2, y1.c3, y1.c4) y2 hy W0) (by kernel_rfl) (by kernel_rfl) ?_
    refine HO.go' 2 ?_
    refine HO.end' ?_
    refine Kblock_norm ?_
    refine Kseq_norm ?_
    refine H.reg' ?_
    refine HO.go' 2 ?_
    refine HO.end' ?_
    refine Kloop_norm ?_
    exact HL.ren' hS [0] (ih_long_L1 ((IntKind.i64.wrap (x.1 + y2)), x.2.1, x.2.2.1, (IntKind.i64.wrap (x.2.2.2.1 + 1)), x.2.2.2.2.1, x.2.2.2.2.2.1, x.2.2.2.2.2.2.1, x.2.2.2.2.2.2.2) r h W0 w0 S hS)
  · intro g_long_L1 ih_long_L1 x r h
    intro W0
    refine PTo.of_body (fn := Tryd.f55) (code := cB Tryd.f55) Tryd.func55 rfl rfl ?_
    intro w0 S hS
    haveI := hS.noEx Tryd.prog
    refine H.sr' 2 ?_
    refine H.sg' ?_
    refine HO.go' 2 ?_
    refine HO.len (by kernel_rfl) (by kernel_rfl) (ls_size (encI .u8) x.2.2.2.1) ?_
    refine HO.fin' 1 ?_
    refine H.seq' ?_
    refine H.sg' ?_
    refine HO.go' 2 ?_
    refine HO.len (by kernel_rfl) (by kernel_rfl) (ls_size enc36 x.2.2.2.2) ?_
    refine HO.fin' 1 ?_
    refine H.blk' 0 ?_
    refine H.lop' ?_
    exact HL.ren' hS [0] (ih_long_L1 ((x.2.2.2.1.length : Int), x.2.2.2.2, (x.2.2.2.2.length : Int), 0, x.1, x.2.1, x.2.2.1, x.2.2.2.1) r h W0 w0 S hS)
theorem long_L1_ok : ∀ (x : Int × (List S36) × Int × Int × Int × Int × Bool × (List Int)) (r : Int), long_L1 x = some r → ∀ (W0 w0 : World) (S : Own), Std W0 w0 S 0 → HL Tryd.prog w0 S 28 (cL (cL (cR (cL (cR (cR (cB Tryd.f55))))))) (mkS [(1, .pointer (some ⟨0, 0, none⟩)), (3, .int .i64 x.1), (10, ls 5 false enc36 x.2.1), (11, .int .i64 x.2.2.1), (12, .int .i64 x.2.2.2.1)] [(0, .cells [.int .u8 x.2.2.2.2.1, .int .u32 x.2.2.2.2.2.1, .bool x.2.2.2.2.2.2.1, ls 1 false (encI .u8) x.2.2.2.2.2.2.2, ls 5 false enc36 x.2.1] 36 5)] 1 []) (Kblock 0 (Kseq Tryd.prog w0 S 28 (cR (cR (cR (cB Tryd.f55)))) (KEnd Tryd.prog Tryd.f55 (PEnd w0 S (.returned (.int .i64 r)))))) := long_L1_grp.1
theorem long_ok : ∀ (x : Int × Int × Bool × (List Int) × (List S36)) (r : Int), long x = some r → ∀ W0 : World, PTo Tryd.prog W0 55 #[.agg #[.int .u8 x.1, .int .u32 x.2.1, .bool x.2.2.1, ls 1 false (encI .u8) x.2.2.2.1, ls 5 false enc36 x.2.2.2.2]] (.returned (.int .i64 r)) := long_L1_grp.2
def identifier_1_L3 (x : (List Int) × Int × Int × Int × Bool × (List Int) × (List S36)) : Option ((List Int)) :=
  if 0 < x.2.1 then
    (shr' .u32 x.2.2.2.1 x.2.1) >>= fun y4 =>
    (app' 1 x.1 [(bOr .u8 (IntKind.u8.wrap y4) 128)]) >>= fun y5 =>
    identifier_1_L3 (y5, (IntKind.i64.wrap (x.2.1 - 7)), x.2.2.1, x.2.2.2.1, x.2.2.2.2.1, x.2.2.2.2.2.1, x.2.2.2.2.2.2)
  else
    (app' 1 x.1 [(IntKind.u8.wrap (bAnd .u32 x.2.2.2.1 127))]) >>= fun y6 =>
    some y6
partial_fixpoint
theorem identifier_1_L3_ok : ∀ (x : (List Int) × Int × Int × Int × Bool × (List Int) × (List S36)) (r : (List Int)), identifier_1_L3 x = some r → ∀ (W0 w0 : World) (S : Own), Std W0 w0 S 1 → HL Tryd.prog w0 S 58 (cL (cL (cL (cR (cR (cR (cR (cR (cR (cR (cB Tryd.f80))))))))))) (mkS [(0, tl 1 1 (encI .u8) x.1), (3, .pointer (some ⟨2, 0, none⟩)), (6, .int .i64 x.2.1)] [(2, .cells [.int .u8 x.2.2.1, .int .u32 x.2.2.2.1, .bool x.2.2.2.2.1, ls 1 false (encI .u8) x.2.2.2.2.2.1, ls 5 false enc36 x.2.2.2.2.2.2] 36 5)] 3 [1]) (Kblock 2 (Kseq Tryd.prog w0 S 58 (cR (cR (cR (cR (cR (cR (cR (cR (cB Tryd.f80))))))))) (KEnd Tryd.prog Tryd.f80 (FEnd w0 S (.returned (tl 1 1 (encI .u8) r)) (mkW 2 [1] []))))) := by
  refine identifier_1_L3.partial_correctness (fun (x : (List Int) × Int × Int × Int × Bool × (List Int) × (List S36)) (r : (List Int)) => ∀ (W0 w0 : World) (S : Own), Std W0 w0 S 1 → HL Tryd.prog w0 S 58 (cL (cL (cL (cR (cR (cR (cR (cR (cR (cR (cB Tryd.f80))))))))))) (mkS [(0, tl 1 1 (encI .u8) x.1), (3, .pointer (some ⟨2, 0, none⟩)), (6, .int .i64 x.2.1)] [(2, .cells [.int .u8 x.2.2.1, .int .u32 x.2.2.2.1, .bool x.2.2.2.2.1, ls 1 false (encI .u8) x.2.2.2.2.2.1, ls 5 false enc36 x.2.2.2.2.2.2] 36 5)] 3 [1]) (Kblock 2 (Kseq Tryd.prog w0 S 58 (cR (cR (cR (cR (cR (cR (cR (cR (cB Tryd.f80))))))))) (KEnd Tryd.prog Tryd.f80 (FEnd w0 S (.returned (tl 1 1 (encI .u8) r)) (mkW 2 [1] [])))))) ?_
  intro self ih_identifier_1_L3 x r h
  intro W0 w0 S hS
  haveI := hS.noEx Tryd.prog
  refine HL.round ?_
  refine H.seq' ?_
  refine H.sr' 2 ?_
  refine H.cS' (decide (0 < x.2.1)) (fun hb => ?_) (fun hb => ?_)
  rotate_left
  · rw [if_neg (of_decide_eq_false hb)] at h
    refine H.ext' 2 ?_
    refine Kseq_exit ?_
    refine Kloop_exit ?_
    refine Kblock_hit ?_
    refine Kseq_norm ?_
    refine H.sg' ?_
    refine HO.go' 6 ?_
    obtain ⟨y6, hy, h⟩ := bindS h
    refine HO.effA (app1_aop (enc := (encI .u8)) (k := 1) false 1 [.int .u8 (IntKind.u8.wrap (bAnd .u32 x.2.2.2.1 127))] [] hy (by kernel_rfl) (by kernel_rfl) (by kernel_rfl)) ?_
    refine HO.fin' 1 ?_
    refine H.ret' ?_
    obtain rfl := Option.some.inj h
    exact KEnd.of (v := tl 1 4 (encI .u8) y6) (by kernel_rfl) (by kernel_rfl) (FEnd.ren hS [0, 4] _ _ (by kernel_rfl))
  rw [if_pos (of_decide_eq_true hb)] at h
  refine H.skp' ?_
  refine Kseq_norm ?_
  refine H.seq' ?_
  refine H.blk' 3 ?_
  refine H.reg' ?_
  refine HO.go' 4 ?_
  obtain ⟨y4, hy, h⟩ := bindS h
  refine HO.valA (shr_aop hy (by kernel_rfl)) ?_
  refine HO.go' 3 ?_
  obtain ⟨y5, hy, h⟩ := bindS h
  refine HO.effA (app1_aop (enc := (encI .u8)) (k := 1) false 1 [.int .u8 (bOr .u8 (IntKind.u8.wrap y4) 128)] [] hy (by kernel_rfl) (by kernel_rfl) (by kernel_rfl)) ?_
  refine HO.go' 1 ?_
  refine HO.end' ?_
  refine Kblock_norm ?_
  refine Kseq_norm ?_
  refine H.reg' ?_
  refine HO.go' 3 ?_
  refine HO.end' ?_
  refine Kloop_norm ?_
  exact HL.ren' hS [0, 4, 2] (ih_identifier_1_L3 (y5, (IntKind.i64.wrap (x.2.1 - 7)), x.2.2.1, x.2.2.2.1, x.2.2.2.2.1, x.2.2.2.2.2.1, x.2.2.2.2.2.2) r h W0 w0 S hS)
def identifier_1_L2 (x : (List Int) × Int × Int × Int × Bool × (List Int) × (List S36)) : Option ((List Int)) :=
  (shr' .u32 x.2.2.2.1 (IntKind.i64.wrap (x.2.1 + 7))) >>= fun y3 =>
  if 0 < y3 then
    identifier_1_L2 (x.1, (IntKind.i64.wrap (x.2.1 + 7)), x.2.2.1, x.2.2.2.1, x.2.2.2.2.1, x.2.2.2.2.2.1, x.2.2.2.2.2.2)
  else
    identifier_1_L3 (x.1, x.2.1, x.2.2.1, x.2.2.2.1, x.2.2.2.2.1, x.2.2.2.2.2.1, x.2.2.2.2.2.2)
partial_fixpoint
theorem identifier_1_L2_ok : ∀ (x : (List Int) × Int × Int × Int × Bool × (List Int) × (List S36)) (r : (List Int)), identifier_1_L2 x = some r → ∀ (W0 w0 : World) (S : Own), Std W0 w0 S 1 → HL Tryd.prog w0 S 58 (cL (cL (cL (cR (cR (cR (cR (cR (cR (cB Tryd.f80)))))))))) (mkS [(0, tl 1 1 (encI .u8) x.1), (3, .pointer (some ⟨2, 0, none⟩)), (6, .int .i64 x.2.1)] [(2, .cells [.int .u8 x.2.2.1, .int .u32 x.2.2.2.1, .bool x.2.2.2.2.1, ls 1 false (encI .u8) x.2.2.2.2.2.1, ls 5 false enc36 x.2.2.2.2.2.2] 36 5)] 3 [1]) (Kblock 0 (Kseq Tryd.prog w0 S 58 (cR (cR (cR (cR (cR (cR (cR (cB Tryd.f80)))))))) (KEnd Tryd.prog Tryd.f80 (FEnd w0 S (.returned (tl 1 1 (encI .u8) r)) (mkW 2 [1] []))))) := by
  refine identifier_1_L2.partial_correctness (fun (x : (List Int) × Int × Int × Int × Bool × (List Int) × (List S36)) (r : (List Int)) => ∀ (W0 w0 : World) (S : Own), Std W0 w0 S 1 → HL Tryd.prog w0 S 58 (cL (cL (cL (cR (cR (cR (cR (cR (cR (cB Tryd.f80)))))))))) (mkS [(0, tl 1 1 (encI .u8) x.1), (3, .pointer (some ⟨2, 0, none⟩)), (6, .int .i64 x.2.1)] [(2, .cells [.int .u8 x.2.2.1, .int .u32 x.2.2.2.1, .bool x.2.2.2.2.1, ls 1 false (encI .u8) x.2.2.2.2.2.1, ls 5 false enc36 x.2.2.2.2.2.2] 36 5)] 3 [1]) (Kblock 0 (Kseq Tryd.prog w0 S 58 (cR (cR (cR (cR (cR (cR (cR (cB Tryd.f80)))))))) (KEnd Tryd.prog Tryd.f80 (FEnd w0 S (.returned (tl 1 1 (encI .u8) r)) (mkW 2 [1] [])))))) ?_
  intro self ih_identifier_1_L2 x r h
  intro W0 w0 S hS
  haveI := hS.noEx Tryd.prog
  refine HL.round ?_
  refine H.seq' ?_
  refine H.sg' ?_
  refine HO.go' 4 ?_
  obtain ⟨y3, hy, h⟩ := bindS h
  refine HO.valA (shr_aop hy (by kernel_rfl)) ?_
  refine HO.fin' 1 ?_
  refine H.cS' (decide (0 < y3)) (fun hb => ?_) (fun hb => ?_)
  · rw [if_pos (of_decide_eq_true hb)] at h
    refine H.skp' ?_
    refine Kseq_norm ?_
    refine H.blk' 1 ?_
    refine H.reg' ?_
    refine HO.go' 3 ?_
    refine HO.end' ?_
    refine Kblock_norm ?_
    refine Kloop_norm ?_
    exact HL.ren' hS [0, 1, 2] (ih_identifier_1_L2 (x.1, (IntKind.i64.wrap (x.2.1 + 7)), x.2.2.1, x.2.2.2.1, x.2.2.2.2.1, x.2.2.2.2.2.1, x.2.2.2.2.2.2) r h W0 w0 S hS)
  rw [if_neg (of_decide_eq_false hb)] at h
  refine H.ext' 0 ?_
  refine Kseq_exit ?_
  refine Kloop_exit ?_
  refine Kblock_hit ?_
  refine Kseq_norm ?_
  refine H.seq' ?_
  refine H.blk' 2 ?_
  refine H.lop' ?_
  exact HL.ren' hS [0, 1, 2] (identifier_1_L3_ok (x.1, x.2.1, x.2.2.1, x.2.2.2.1, x.2.2.2.2.1, x.2.2.2.2.2.1, x.2.2.2.2.2.2) r h W0 w0 S hS)
def identifier_1_L1 (x : (List Int) × Int × Int × Int × Bool × (List Int) × (List S36)) : Option ((List Int)) :=
  if x.2.2.2.1 < 31 then
    (app' 1 x.1 [(bOr .u8 x.2.1 (IntKind.u8.wrap x.2.2.2.1))]) >>= fun y1 =>
    some y1
  else
    (app' 1 x.1 [(bOr .u8 x.2.1 31)]) >>= fun y2 =>
    identifier_1_L2 (y2, 0, x.2.2.1, x.2.2.2.1, x.2.2.2.2.1, x.2.2.2.2.2.1, x.2.2.2.2.2.2)
theorem identifier_1_L1_ok : ∀ (x : (List Int) × Int × Int × Int × Bool × (List Int) × (List S36)) (r : (List Int)), identifier_1_L1 x = some r → ∀ (W0 w0 : World) (S : Own), Std W0 w0 S 1 → H Tryd.prog w0 S 58 (cR (cR (cR (cB Tryd.f80)))) (mkS [(0, tl 1 0 (encI .u8) x.1), (3, .pointer (some ⟨1, 0, none⟩)), (5, .int .u8 x.2.1)] [(1, .cells [.int .u8 x.2.2.1, .int .u32 x.2.2.2.1, .bool x.2.2.2.2.1, ls 1 false (encI .u8) x.2.2.2.2.2.1, ls 5 false enc36 x.2.2.2.2.2.2] 36 5)] 2 [0]) (KEnd Tryd.prog Tryd.f80 (FEnd w0 S (.returned (tl 1 1 (encI .u8) r)) (mkW 2 [1] []))) := by
  intro x r h
  unfold identifier_1_L1 at h
  intro W0 w0 S hS
  haveI := hS.noEx Tryd.prog
  refine H.seq' ?_
  refine H.sr' 3 ?_
  refine H.cS' (decide (x.2.2.2.1 < 31)) (fun hb => ?_) (fun hb => ?_)
  · rw [if_pos (of_decide_eq_true hb)] at h
    refine H.sg' ?_
    refine HO.go' 7 ?_
    obtain ⟨y1, hy, h⟩ := bindS h
    refine HO.effA (app1_aop (enc := (encI .u8)) (k := 1) false 1 [.int .u8 (bOr .u8 x.2.1 (IntKind.u8.wrap x.2.2.2.1))] [] hy (by kernel_rfl) (by kernel_rfl) (by kernel_rfl)) ?_
    refine HO.fin' 1 ?_
    refine H.ret' ?_
    refine Kseq_ret ?_
    obtain rfl := Option.some.inj h
    exact KEnd.of (v := tl 1 3 (encI .u8) y1) (by kernel_rfl) (by kernel_rfl) (FEnd.ren hS [0, 3] _ _ (by kernel_rfl))
  rw [if_neg (of_decide_eq_false hb)] at h
  refine H.skp' ?_
  refine Kseq_norm ?_
  refine H.sg' ?_
  refine HO.go' 4 ?_
  obtain ⟨y2, hy, h⟩ := bindS h
  refine HO.effA (app1_aop (enc := (encI .u8)) (k := 1) false 1 [.int .u8 (bOr .u8 x.2.1 31)] [] hy (by kernel_rfl) (by kernel_rfl) (by kernel_rfl)) ?_
  refine HO.fin' 1 ?_
  refine H.sr' 1 ?_
  refine H.seq' ?_
  refine H.blk' 0 ?_
  refine H.lop' ?_
  exact HL.ren' hS [0, 3, 1] (identifier_1_L2_ok (y2, 0, x.2.2.1, x.2.2.2.1, x.2.2.2.2.1, x.2.2.2.2.2.1, x.2.2.2.2.2.2) r h W0 w0 S hS)
def identifier_1 (x : (List Int) × Int × Int × Bool × (List Int) × (List S36)) : Option ((List Int)) :=
  if x.2.2.2.1 = true then
    identifier_1_L1 (x.1, (bOr .u8 (shlI .u8 x.2.1 6) 32), x.2.1, x.2.2.1, x.2.2.2.1, x.2.2.2.2.1, x.2.2.2.2.2)
  else
    identifier_1_L1 (x.1, (shlI .u8 x.2.1 6), x.2.1, x.2.2.1, x.2.2.2.1, x.2.2.2.2.1, x.2.2.2.2.2)
theorem identifier_1_ok : ∀ (x : (List Int) × Int × Int × Bool × (List Int) × (List S36)) (r : (List Int)), identifier_1 x = some r → ∀ W0 : World, FTo Tryd.prog W0 80 #[tl 1 0 (encI .u8) x.1, .agg #[.int .u8 x.2.1, .int .u32 x.2.2.1, .bool x.2.2.2.1, ls 1 false (encI .u8) x.2.2.2.2.1, ls 5 false enc36 x.2.2.2.2.2]] (mkW 1 [0] []) (.returned (tl 1 1 (encI .u8) r)) (mkW 2 [1] []) := by
  intro x r h
  unfold identifier_1 at h
  intro W0
  refine FTo.of_body (fn := Tryd.f80) (code := cB Tryd.f80) Tryd.func80 rfl rfl ?_
  intro w0 S hS
  haveI := hS.noEx Tryd.prog
  refine H.sr' 2 ?_
  refine H.sr' 4 ?_
  refine H.seq' ?_
  refine H.sr' 2 ?_
  refine H.cS' (x.2.2.2.1) (fun hb => ?_) (fun hb => ?_)
  rotate_left
  · rw [if_neg (ne_true hb)] at h
    refine H.skp' ?_
    refine Kseq_norm ?_
    exact H.ren' hS [0, 1] (identifier_1_L1_ok (x.1, (shlI .u8 x.2.1 6), x.2.1, x.2.2.1, x.2.2.2.1, x.2.2.2.2.1, x.2.2.2.2.2) r h W0 w0 S hS)
  rw [if_pos hb] at h
  refine H.reg' ?_
  refine HO.fin' 3 ?_
  exact H.ren' hS [0, 1] (identifier_1_L1_ok (x.1, (bOr .u8 (shlI .u8 x.2.1 6) 32), x.2.1, x.2.2.1, x.2.2.2.1, x.2.2.2.2.1, x.2.2.2.2.2) r h W0 w0 S hS)
def encode_1_L4 (x : (List Int)) : Option ((List Int)) :=
  (app' 1 x [0, 0]) >>= fun y7 =>
  some y7
theorem encode_1_L4_ok : ∀ (x : (List Int)) (r : (List Int)), encode_1_L4 x = some r → ∀ (W0 w0 : World) (S : Own), Std W0 w0 S 1 → H Tryd.prog w0 S 52 (cR (cL (cR (cL (cR (cR (cR (cR (cR (cB Tryd.f56)))))))))) (mkS [(0, tl 1 1 (encI .u8) x)] [] 2 [1]) (Kseq Tryd.prog w0 S 52 (cR (cR (cR (cR (cR (cR (cB Tryd.f56))))))) (KEnd Tryd.prog Tryd.f56 (FEnd w0 S (.returned (tl 1 1 (encI .u8) r)) (mkW 2 [1] [])))) := by
  intro x r h
  unfold encode_1_L4 at h
  intro W0 w0 S hS
  haveI := hS.noEx Tryd.prog
  refine H.sg' ?_
  refine HO.go' 2 ?_
  obtain ⟨y7, hy, h⟩ := bindS h
  refine HO.effA (app1_aop (enc := (encI .u8)) (k := 1) false 2 [.int .u8 0, .int .u8 0] [] hy (by kernel_rfl) (by kernel_rfl) (by kernel_rfl)) ?_
  refine HO.fin' 1 ?_
  refine H.ret' ?_
  refine Kseq_ret ?_
  obtain rfl := Option.some.inj h
  exact KEnd.of (v := tl 1 3 (encI .u8) y7) (by kernel_rfl) (by kernel_rfl) (FEnd.ren hS [0, 3] _ _ (by kernel_rfl))
def encode_1_L5 (x : (List Int)) : Option ((List Int)) :=
  some x
theorem encode_1_L5_ok : ∀ (x : (List Int)) (r : (List Int)), encode_1_L5 x = some r → ∀ (W0 w0 : World) (S : Own), Std W0 w0 S 1 → H Tryd.prog w0 S 52 (cR (cR (cR (cR (cR (cR (cR (cB Tryd.f56)))))))) (mkS [(6, tl 1 1 (encI .u8) x)] [] 2 [1]) (KEnd Tryd.prog Tryd.f56 (FEnd w0 S (.returned (tl 1 1 (encI .u8) r)) (mkW 2 [1] []))) := by
  intro x r h
  unfold encode_1_L5 at h
  intro W0 w0 S hS
  haveI := hS.noEx Tryd.prog
  refine H.ret' ?_
  obtain rfl := Option.some.inj h
  exact KEnd.of (v := tl 1 1 (encI .u8) x) (by kernel_rfl) (by kernel_rfl) (FEnd.ren hS [0, 1] _ _ (by kernel_rfl))
mutual
def encode_1_L3 (x : (List Int) × Int × (List Int) × (List S36) × Int × Int) : Option ((List Int)) :=
  if x.2.2.2.2.2 < x.2.2.2.2.1 then
    (at' x.2.2.2.1 x.2.2.2.2.2) >>= fun y3 =>
    (encode_1 (x.2.2.1, y3.c0, y3.c1, y3.c2, y3.c3, y3.c4, x.2.1)) >>= fun y4 =>
    encode_1_L3 (x.1, x.2.1, y4, x.2.2.2.1, x.2.2.2.2.1, (IntKind.i64.wrap (x.2.2.2.2.2 + 1)))
  else
    if x.2.1 = 1 then
      (app' 1 x.1 [128]) >>= fun y5 =>
      (app' 1 y5 x.2.2.1) >>= fun y6 =>
      if x.2.2.1.length = 0 then
        encode_1_L4 y5
      else
        encode_1_L4 y6
    else
      (size (x.1, (x.2.2.1.length : Int), x.2.1)) >>= fun y8 =>
      (app' 1 y8 x.2.2.1) >>= fun y9 =>
      if x.2.2.1.length = 0 then
        encode_1_L5 y8
      else
        encode_1_L5 y9
partial_fixpoint
def encode_1 (x : (List Int) × Int × Int × Bool × (List Int) × (List S36) × Int) : Option ((List Int)) :=
  (identifier_1 (x.1, x.2.1, x.2.2.1, x.2.2.2.1, x.2.2.2.2.1, x.2.2.2.2.2.1)) >>= fun y1 =>
  if (!x.2.2.2.1) = true then
    encode_1_L1 (y1, x.2.2.2.2.2.2, (!decide (x.2.2.2.2.2.2 = 2)), x.2.1, x.2.2.1, x.2.2.2.1, x.2.2.2.2.1, x.2.2.2.2.2.1)
  else
    encode_1_L1 (y1, x.2.2.2.2.2.2, false, x.2.1, x.2.2.1, x.2.2.2.1, x.2.2.2.2.1, x.2.2.2.2.2.1)
partial_fixpoint
def encode_1_L1 (x : (List Int) × Int × Bool × Int × Int × Bool × (List Int) × (List S36)) : Option ((List Int)) :=
  if x.2.2.1 = true then
    encode_1_L2 (x.1, 0, x.2.2.2.1, x.2.2.2.2.1, x.2.2.2.2.2.1, x.2.2.2.2.2.2.1, x.2.2.2.2.2.2.2)
  else
    encode_1_L2 (x.1, x.2.1, x.2.2.2.1, x.2.2.2.2.1, x.2.2.2.2.2.1, x.2.2.2.2.2.2.1, x.2.2.2.2.2.2.2)
partial_fixpoint
def encode_1_L2 (x : (List Int) × Int × Int × Int × Bool × (List Int) × (List S36)) : Option ((List Int)) :=
  (clip x.2.2.2.2.2.1) >>= fun y2 =>
  encode_1_L3 (x.1, x.2.1, y2, x.2.2.2.2.2.2, (x.2.2.2.2.2.2.length : Int), 0)
partial_fixpoint
end
theorem encode_1_L3_grp : (∀ (x : (List Int) × Int × (List Int) × (List S36) × Int × Int) (r : (List Int)), encode_1_L3 x = some r → ∀ (W0 w0 : World) (S : Own), Std W0 w0 S 1 → HL Tryd.prog w0 S 52 (cL (cL (cR (cL (cR (cR (cR (cR (cB Tryd.f56))))))))) (mkS [(0, tl 1 1 (encI .u8) x.1), (2, .int .u8 x.2.1), (7, tl 1 2 (encI .u8) x.2.2.1), (24, ls 5 false enc36 x.2.2.2.1), (25, .int .i64 x.2.2.2.2.1), (26, .int .i64 x.2.2.2.2.2)] [] 3 [2, 1]) (Kblock 0 (Kseq Tryd.prog w0 S 52 (cR (cR (cR (cR (cR (cB Tryd.f56)))))) (KEnd Tryd.prog Tryd.f56 (FEnd w0 S (.returned (tl 1 1 (encI .u8) r)) (mkW 2 [1] [])))))) ∧
  (∀ (x : (List Int) × Int × Int × Bool × (List Int) × (List S36) × Int) (r : (List Int)), encode_1 x = some r → ∀ W0 : World, FTo Tryd.prog W0 56 #[tl 1 0 (encI .u8) x.1, .agg #[.int .u8 x.2.1, .int .u32 x.2.2.1, .bool x.2.2.2.1, ls 1 false (encI .u8) x.2.2.2.2.1, ls 5 false enc36 x.2.2.2.2.2.1], .int .u8 x.2.2.2.2.2.2] (mkW 1 [0] []) (.returned (tl 1 1 (encI .u8) r)) (mkW 2 [1] [])) ∧
  (∀ (x : (List Int) × Int × Bool × Int × Int × Bool × (List Int) × (List S36)) (r : (List Int)), encode_1_L1 x = some r → ∀ (W0 w0 : World) (S : Own), Std W0 w0 S 1 → H Tryd.prog w0 S 52 (cR (cL (cR (cR (cB Tryd.f56))))) (mkS [(0, tl 1 1 (encI .u8) x.1), (2, .int .u8 x.2.1), (4, .pointer (some ⟨2, 0, none⟩)), (19, .bool x.2.2.1)] [(2, .cells [.int .u8 x.2.2.2.1, .int .u32 x.2.2.2.2.1, .bool x.2.2.2.2.2.1, ls 1 false (encI .u8) x.2.2.2.2.2.2.1, ls 5 false enc36 x.2.2.2.2.2.2.2] 36 5)] 3 [1]) (Kseq Tryd.prog w0 S 52 (cR (cR (cR (cB Tryd.f56)))) (KEnd Tryd.prog Tryd.f56 (FEnd w0 S (.returned (tl 1 1 (encI .u8) r)) (mkW 2 [1] []))))) ∧
  (∀ (x : (List Int) × Int × Int × Int × Bool × (List Int) × (List S36)) (r : (List Int)), encode_1_L2 x = some r → ∀ (W0 w0 : World) (S : Own), Std W0 w0 S 1 → H Tryd.prog w0 S 52 (cR (cR (cR (cB Tryd.f56)))) (mkS [(0, tl 1 1 (encI .u8) x.1), (2, .int .u8 x.2.1), (4, .pointer (some ⟨2, 0, none⟩))] [(2, .cells [.int .u8 x.2.2.1, .int .u32 x.2.2.2.1, .bool x.2.2.2.2.1, ls 1 false (encI .u8) x.2.2.2.2.2.1, ls 5 false enc36 x.2.2.2.2.2.2] 36 5)] 3 [1]) (KEnd Tryd.prog Tryd.f56 (FEnd w0 S (.returned (tl 1 1 (encI .u8) r)) (mkW 2 [1] [])))) := by
  refine encode_1_L3.mutual_partial_correctness (fun (x : (List Int) × Int × (List Int) × (List S36) × Int × Int) (r : (List Int)) => ∀ (W0 w0 : World) (S : Own), Std W0 w0 S 1 → HL Tryd.prog w0 S 52 (cL (cL (cR (cL (cR (cR (cR (cR (cB Tryd.f56))))))))) (mkS [(0, tl 1 1 (encI .u8) x.1), (2, .int .u8 x.2.1), (7, tl 1 2 (encI .u8) x.2.2.1), (24, ls 5 false enc36 x.2.2.2.1), (25, .int .i64 x.2.2.2.2.1), (26, .int .i64 x.2.2.2.2.2)] [] 3 [2, 1]) (Kblock 0 (Kseq Tryd.prog w0 S 52 (cR (cR (cR (cR (cR (cB Tryd.f56)))))) (KEnd Tryd.prog Tryd.f56 (FEnd w0 S (.returned (tl 1 1 (encI .u8) r)) (mkW 2 [1] [])))))) (fun (x : (List Int) × Int × Int × Bool × (List Int) × (List S36) × Int) (r : (List Int)) => ∀ W0 : World, FTo Tryd.prog W0 56 #[tl 1 0 (encI .u8) x.1, .agg #[.int .u8 x.2.1, .int .u32 x.2.2.1, .bool x.2.2.2.1, ls 1 false (encI .u8) x.2.2.2.2.1, ls 5 false enc36 x.2.2.2.2.2.1], .int .u8 x.2.2.2.2.2.2] (mkW 1 [0] []) (.returned (tl 1 1 (encI .u8) r)) (mkW 2 [1] [])) (fun (x : (List Int) × Int × Bool × Int × Int × Bool × (List Int) × (List S36)) (r : (List Int)) => ∀ (W0 w0 : World) (S : Own), Std W0 w0 S 1 → H Tryd.prog w0 S 52 (cR (cL (cR (cR (cB Tryd.f56))))) (mkS [(0, tl 1 1 (encI .u8) x.1), (2, .int .u8 x.2.1), (4, .pointer (some ⟨2, 0, none⟩)), (19, .bool x.2.2.1)] [(2, .cells [.int .u8 x.2.2.2.1, .int .u32 x.2.2.2.2.1, .bool x.2.2.2.2.2.1, ls 1 false (encI .u8) x.2.2.2.2.2.2.1, ls 5 false enc36 x.2.2.2.2.2.2.2] 36 5)] 3 [1]) (Kseq Tryd.prog w0 S 52 (cR (cR (cR (cB Tryd.f56)))) (KEnd Tryd.prog Tryd.f56 (FEnd w0 S (.returned (tl 1 1 (encI .u8) r)) (mkW 2 [1] []))))) (fun (x : (List Int) × Int × Int × Int × Bool × (List Int) × (List S36)) (r : (List Int)) => ∀ (W0 w0 : World) (S : Own), Std W0 w0 S 1 → H Tryd.prog w0 S 52 (cR (cR (cR (cB Tryd.f56)))) (mkS [(0, tl 1 1 (encI .u8) x.1), (2, .int .u8 x.2.1), (4, .pointer (some ⟨2, 0, none⟩))] [(2, .cells [.int .u8 x.2.2.1, .int .u32 x.2.2.2.1, .bool x.2.2.2.2.1, ls 1 false (encI .u8) x.2.2.2.2.2.1, ls 5 false enc36 x.2.2.2.2.2.2] 36 5)] 3 [1]) (KEnd Tryd.prog Tryd.f56 (FEnd w0 S (.returned (tl 1 1 (encI .u8) r)) (mkW 2 [1] [])))) ?_ ?_ ?_ ?_
  · intro g_encode_1_L3 g_encode_1 ih_encode_1_L3 ih_encode_1 x r h
    intro W0 w0 S hS
    haveI := hS.noEx Tryd.prog
    refine HL.round ?_
    refine H.sr' 1 ?_
    refine H.seq' ?_
    refine H.cS' (decide (x.2.2.2.2.2 < x.2.2.2.2.1)) (fun hb => ?_) (fun hb => ?_)
    · rw [if_pos (of_decide_eq_true hb)] at h
      refine H.skp' ?_
      refine Kseq_norm ?_
      refine H.seq' ?_
      refine H.blk' 1 ?_
      refine H.sg' ?_
      obtain ⟨y3, hy, h⟩ := bindS h
      refine HO.idx (.agg #[.int .u8 y3.c0, .int .u32 y3.c1, .bool y3.c2, ls 1 false (encI .u8) y3.c3, ls 5 false enc36 y3.c4]) hy (enc36_eq y3) (by kernel_rfl) ?_
      refine HO.fin' 3 ?_
      refine H.reg' ?_
      refine HO.go' 3 ?_
      obtain ⟨y4, hy, h⟩ := bindS h
      refine HO.callFW hS (tl 1 4 (encI .u8) y4) 5 [4, 1] [(3, .cells [.int .u8 y3.c0, .int .u32 y3.c1, .bool y3.c2, ls 1 false (encI .u8) y3.c3, ls 5 false enc36 y3.c4] 36 5)] [2] [.keep, .agg [.keep, .keep, .keep, .list 1 false, .list 5 false], .keep] (ih_encode_1 (x.2.2.1, y3.c0, y3.c1, y3.c2, y3.c3, y3.c4, x.2.1) y4 hy W0) (by kernel_rfl) (by kernel_rfl) ?_
      refine HO.go' 1 ?_
      refine HO.end' ?_
      refine Kblock_norm ?_
      refine Kseq_norm ?_
      refine H.reg' ?_
      refine HO.go' 2 ?_
      refine HO.end' ?_
      refine Kloop_norm ?_
      exact HL.ren' hS [0, 1, 4] (ih_encode_1_L3 (x.1, x.2.1, y4, x.2.2.2.1, x.2.2.2.2.1, (IntKind.i64.wrap (x.2.2.2.2.2 + 1))) r h W0 w0 S hS)
    rw [if_neg (of_decide_eq_false hb)] at h
    refine H.ext' 0 ?_
    refine Kseq_exit ?_
    refine Kloop_exit ?_
    refine Kblock_hit ?_
    refine Kseq_norm ?_
    refine H.seq' ?_
    refine H.sr' 2 ?_
    refine H.cS' (decide (x.2.1 = 1)) (fun hb => ?_) (fun hb => ?_)
    · rw [if_pos (of_decide_eq_true hb)] at h
      refine H.sg' ?_
      refine HO.go' 2 ?_
      obtain ⟨y5, hy, h⟩ := bindS h
      refine HO.effA (app1_aop (enc := (encI .u8)) (k := 1) false 1 [.int .u8 128] [2] hy (by kernel_rfl) (by kernel_rfl) (by kernel_rfl)) ?_
      refine HO.go' 1 ?_
      obtain ⟨y6, hy, h⟩ := bindS h
      by_cases hb : x.2.2.1.length = 0
      · rw [if_pos hb] at h
        refine HO.valA (appN_aop (ag := false) [2] (encI_ok .u8) hy hb (by kernel_rfl)) ?_
        refine HO.fin' 1 ?_
        exact H.ren' hS [0, 4] (encode_1_L4_ok y5 r h W0 w0 S hS)
      rw [if_neg hb] at h
      refine HO.effA (appL_aop (ag := false) [2] (encI_ok .u8) hy hb (by kernel_rfl)) ?_
      refine HO.fin' 1 ?_
      exact H.ren' hS [0, 5] (encode_1_L4_ok y6 r h W0 w0 S hS)
    rw [if_neg (of_decide_eq_false hb)] at h
    refine H.skp' ?_
    refine Kseq_norm ?_
    refine H.sg' ?_
    refine HO.go' 2 ?_
    refine HO.len (by kernel_rfl) (by kernel_rfl) (ls_size (encI .u8) x.2.2.1) ?_
    refine HO.go' 1 ?_
    obtain ⟨y8, hy, h⟩ := bindS h
    refine HO.callFW hS (tl 1 3 (encI .u8) y8) 4 [3, 2] [] [1] [.keep, .keep, .keep] (size_ok (x.1, (x.2.2.1.length : Int), x.2.1) y8 hy W0) (by kernel_rfl) (by kernel_rfl) ?_
    refine HO.go' 1 ?_
    obtain ⟨y9, hy, h⟩ := bindS h
    by_cases hb : x.2.2.1.length = 0
    · rw [if_pos hb] at h
      refine HO.valA (appN_aop (ag := false) [2] (encI_ok .u8) hy hb (by kernel_rfl)) ?_
      refine HO.fin' 1 ?_
      exact H.ren' hS [0, 3] (encode_1_L5_ok y8 r h W0 w0 S hS)
    rw [if_neg hb] at h
    refine HO.effA (appL_aop (ag := false) [2] (encI_ok .u8) hy hb (by kernel_rfl)) ?_
    refine HO.fin' 1 ?_
    exact H.ren' hS [0, 4] (encode_1_L5_ok y9 r h W0 w0 S hS)
  · intro g_encode_1_L1 ih_encode_1_L1 x r h
    intro W0
    refine FTo.of_body (fn := Tryd.f56) (code := cB Tryd.f56) Tryd.func56 rfl rfl ?_
    intro w0 S hS
    haveI := hS.noEx Tryd.prog
    refine H.sr' 2 ?_
    refine H.sg' ?_
    refine HO.go' 2 ?_
    obtain ⟨y1, hy, h⟩ := bindS h
    refine HO.callFW hS (tl 1 2 (encI .u8) y1) 3 [2] [(1, .cells [.int .u8 x.2.1, .int .u32 x.2.2.1, .bool x.2.2.2.1, ls 1 false (encI .u8) x.2.2.2.2.1, ls 5 false enc36 x.2.2.2.2.2.1] 36 5)] [0] [.keep, .agg [.keep, .keep, .keep, .list 1 false, .list 5 false]] (identifier_1_ok (x.1, x.2.1, x.2.2.1, x.2.2.2.1, x.2.2.2.2.1, x.2.2.2.2.2.1) y1 hy W0) (by kernel_rfl) (by kernel_rfl) ?_
    refine HO.fin' 1 ?_
    refine H.seq' ?_
    refine H.sg' ?_
    refine HO.go' 3 ?_
    refine HO.bo' (!x.2.2.2.1) (fun hb => ?_) (fun hb => ?_)
    · rw [if_pos hb] at h
      refine HO.fin' 3 ?_
      exact H.ren' hS [0, 2, 1] (ih_encode_1_L1 (y1, x.2.2.2.2.2.2, (!decide (x.2.2.2.2.2.2 = 2)), x.2.1, x.2.2.1, x.2.2.2.1, x.2.2.2.2.1, x.2.2.2.2.2.1) r h W0 w0 S hS)
    rw [if_neg (ne_true hb)] at h
    refine HO.fin' 3 ?_
    exact H.ren' hS [0, 2, 1] (ih_encode_1_L1 (y1, x.2.2.2.2.2.2, false, x.2.1, x.2.2.1, x.2.2.2.1, x.2.2.2.2.1, x.2.2.2.2.2.1) r h W0 w0 S hS)
  · intro g_encode_1_L2 ih_encode_1_L2 x r h
    intro W0 w0 S hS
    haveI := hS.noEx Tryd.prog
    refine H.cS' (x.2.2.1) (fun hb => ?_) (fun hb => ?_)
    rotate_left
    · rw [if_neg (ne_true hb)] at h
      refine H.skp' ?_
      refine Kseq_norm ?_
      exact H.ren' hS [0, 1, 2] (ih_encode_1_L2 (x.1, x.2.1, x.2.2.2.1, x.2.2.2.2.1, x.2.2.2.2.2.1, x.2.2.2.2.2.2.1, x.2.2.2.2.2.2.2) r h W0 w0 S hS)
    rw [if_pos hb] at h
    refine H.reg' ?_
    refine HO.fin' 1 ?_
    exact H.ren' hS [0, 1, 2] (ih_encode_1_L2 (x.1, 0, x.2.2.2.1, x.2.2.2.2.1, x.2.2.2.2.2.1, x.2.2.2.2.2.2.1, x.2.2.2.2.2.2.2) r h W0 w0 S hS)
  · intro g_encode_1_L3 ih_encode_1_L3 x r h
    intro W0 w0 S hS
    haveI := hS.noEx Tryd.prog
    refine H.sg' ?_
    refine HO.go' 2 ?_
    obtain ⟨y2, hy, h⟩ := bindS h
    refine HO.callW hS [.list 1 false] (clip_ok x.2.2.2.2.2.1 y2 hy W0) (by kernel_rfl) (by kernel_rfl) ?_
    refine HO.fin' 1 ?_
    refine H.seq' ?_
    refine H.sg' ?_
    refine HO.go' 2 ?_
    refine HO.len (by kernel_rfl) (by kernel_rfl) (ls_size enc36 x.2.2.2.2.2.2) ?_
    refine HO.fin' 1 ?_
    refine H.blk' 0 ?_
    refine H.lop' ?_
    refine HL.tok 7 1 (es := (y2.map (encI .u8)).toArray) (by kernel_rfl) ?_
    exact HL.ren' hS [0, 1, 3] (ih_encode_1_L3 (x.1, x.2.1, y2, x.2.2.2.2.2.2, (x.2.2.2.2.2.2.length : Int), 0) r h W0 w0 S hS)
theorem encode_1_L3_ok : ∀ (x : (List Int) × Int × (List Int) × (List S36) × Int × Int) (r : (List Int)), encode_1_L3 x = some r → ∀ (W0 w0 : World) (S : Own), Std W0 w0 S 1 → HL Tryd.prog w0 S 52 (cL (cL (cR (cL (cR (cR (cR (cR (cB Tryd.f56))))))))) (mkS [(0, tl 1 1 (encI .u8) x.1), (2, .int .u8 x.2.1), (7, tl 1 2 (encI .u8) x.2.2.1), (24, ls 5 false enc36 x.2.2.2.1), (25, .int .i64 x.2.2.2.2.1), (26, .int .i64 x.2.2.2.2.2)] [] 3 [2, 1]) (Kblock 0 (Kseq Tryd.prog w0 S 52 (cR (cR (cR (cR (cR (cB Tryd.f56)))))) (KEnd Tryd.prog Tryd.f56 (FEnd w0 S (.returned (tl 1 1 (encI .u8) r)) (mkW 2 [1] []))))) := encode_1_L3_grp.1
theorem encode_1_ok : ∀ (x : (List Int) × Int × Int × Bool × (List Int) × (List S36) × Int) (r : (List Int)), encode_1 x = some r → ∀ W0 : World, FTo Tryd.prog W0 56 #[tl 1 0 (encI .u8) x.1, .agg #[.int .u8 x.2.1, .int .u32 x.2.2.1, .bool x.2.2.2.1, ls 1 false (encI .u8) x.2.2.2.2.1, ls 5 false enc36 x.2.2.2.2.2.1], .int .u8 x.2.2.2.2.2.2] (mkW 1 [0] []) (.returned (tl 1 1 (encI .u8) r)) (mkW 2 [1] []) := encode_1_L3_grp.2.1
theorem encode_1_L1_ok : ∀ (x : (List Int) × Int × Bool × Int × Int × Bool × (List Int) × (List S36)) (r : (List Int)), encode_1_L1 x = some r → ∀ (W0 w0 : World) (S : Own), Std W0 w0 S 1 → H Tryd.prog w0 S 52 (cR (cL (cR (cR (cB Tryd.f56))))) (mkS [(0, tl 1 1 (encI .u8) x.1), (2, .int .u8 x.2.1), (4, .pointer (some ⟨2, 0, none⟩)), (19, .bool x.2.2.1)] [(2, .cells [.int .u8 x.2.2.2.1, .int .u32 x.2.2.2.2.1, .bool x.2.2.2.2.2.1, ls 1 false (encI .u8) x.2.2.2.2.2.2.1, ls 5 false enc36 x.2.2.2.2.2.2.2] 36 5)] 3 [1]) (Kseq Tryd.prog w0 S 52 (cR (cR (cR (cB Tryd.f56)))) (KEnd Tryd.prog Tryd.f56 (FEnd w0 S (.returned (tl 1 1 (encI .u8) r)) (mkW 2 [1] [])))) := encode_1_L3_grp.2.2.1
theorem encode_1_L2_ok : ∀ (x : (List Int) × Int × Int × Int × Bool × (List Int) × (List S36)) (r : (List Int)), encode_1_L2 x = some r → ∀ (W0 w0 : World) (S : Own), Std W0 w0 S 1 → H Tryd.prog w0 S 52 (cR (cR (cR (cB Tryd.f56)))) (mkS [(0, tl 1 1 (encI .u8) x.1), (2, .int .u8 x.2.1), (4, .pointer (some ⟨2, 0, none⟩))] [(2, .cells [.int .u8 x.2.2.1, .int .u32 x.2.2.2.1, .bool x.2.2.2.2.1, ls 1 false (encI .u8) x.2.2.2.2.2.1, ls 5 false enc36 x.2.2.2.2.2.2] 36 5)] 3 [1]) (KEnd Tryd.prog Tryd.f56 (FEnd w0 S (.returned (tl 1 1 (encI .u8) r)) (mkW 2 [1] []))) := encode_1_L3_grp.2.2.2
def encode_L4 (x : (List Int)) : Option ((List Int)) :=
  (app' 1 x [0, 0]) >>= fun y7 =>
  some y7
theorem encode_L4_ok : ∀ (x : (List Int)) (r : (List Int)), encode_L4 x = some r → ∀ (W0 w0 : World) (S : Own), Std W0 w0 S 0 → H Tryd.prog w0 S 52 (cR (cL (cR (cL (cR (cR (cR (cR (cR (cB Tryd.f56)))))))))) (mkS [(0, tl 1 0 (encI .u8) x)] [] 1 [0]) (Kseq Tryd.prog w0 S 52 (cR (cR (cR (cR (cR (cR (cB Tryd.f56))))))) (KEnd Tryd.prog Tryd.f56 (FEnd w0 S (.returned (tl 1 0 (encI .u8) r)) (mkW 1 [0] [])))) := by
  intro x r h
  unfold encode_L4 at h
  intro W0 w0 S hS
  haveI := hS.noEx Tryd.prog
  refine H.sg' ?_
  refine HO.go' 2 ?_
  obtain ⟨y7, hy, h⟩ := bindS h
  refine HO.effA (app1_aop (enc := (encI .u8)) (k := 1) false 2 [.int .u8 0, .int .u8 0] [] hy (by kernel_rfl) (by kernel_rfl) (by kernel_rfl)) ?_
  refine HO.fin' 1 ?_
  refine H.ret' ?_
  refine Kseq_ret ?_
  obtain rfl := Option.some.inj h
  exact KEnd.of (v := tl 1 2 (encI .u8) y7) (by kernel_rfl) (by kernel_rfl) (FEnd.ren hS [2] _ _ (by kernel_rfl))
def encode_L5 (x : (List Int)) : Option ((List Int)) :=
  some x
theorem encode_L5_ok : ∀ (x : (List Int)) (r : (List Int)), encode_L5 x = some r → ∀ (W0 w0 : World) (S : Own), Std W0 w0 S 0 → H Tryd.prog w0 S 52 (cR (cR (cR (cR (cR (cR (cR (cB Tryd.f56)))))))) (mkS [(6, tl 1 0 (encI .u8) x)] [] 1 [0]) (KEnd Tryd.prog Tryd.f56 (FEnd w0 S (.returned (tl 1 0 (encI .u8) r)) (mkW 1 [0] []))) := by
  intro x r h
  unfold encode_L5 at h
  intro W0 w0 S hS
  haveI := hS.noEx Tryd.prog
  refine H.ret' ?_
  obtain rfl := Option.some.inj h
  exact KEnd.of (v := tl 1 0 (encI .u8) x) (by kernel_rfl) (by kernel_rfl) (FEnd.ren hS [0] _ _ (by kernel_rfl))
def encode_L3 (x : (List Int) × Int × (List Int) × (List S36) × Int × Int) : Option ((List Int)) :=
  if x.2.2.2.2.2 < x.2.2.2.2.1 then
    (at' x.2.2.2.1 x.2.2.2.2.2) >>= fun y3 =>
    (encode_1 (x.2.2.1, y3.c0, y3.c1, y3.c2, y3.c3, y3.c4, x.2.1)) >>= fun y4 =>
    encode_L3 (x.1, x.2.1, y4, x.2.2.2.1, x.2.2.2.2.1, (IntKind.i64.wrap (x.2.2.2.2.2 + 1)))
  else
    if x.2.1 = 1 then
      (app' 1 x.1 [128]) >>= fun y5 =>
      (app' 1 y5 x.2.2.1) >>= fun y6 =>
      if x.2.2.1.length = 0 then
        encode_L4 y5
      else
        encode_L4 y6
    else
      (size (x.1, (x.2.2.1.length : Int), x.2.1)) >>= fun y8 =>
      (app' 1 y8 x.2.2.1) >>= fun y9 =>
      if x.2.2.1.length = 0 then
        encode_L5 y8
      else
        encode_L5 y9
partial_fixpoint
theorem encode_L3_ok : ∀ (x : (List Int) × Int × (List Int) × (List S36) × Int × Int) (r : (List Int)), encode_L3 x = some r → ∀ (W0 w0 : World) (S : Own), Std W0 w0 S 0 → HL Tryd.prog w0 S 52 (cL (cL (cR (cL (cR (cR (cR (cR (cB Tryd.f56))))))))) (mkS [(0, tl 1 0 (encI .u8) x.1), (2, .int .u8 x.2.1), (7, tl 1 1 (encI .u8) x.2.2.1), (24, ls 5 false enc36 x.2.2.2.1), (25, .int .i64 x.2.2.2.2.1), (26, .int .i64 x.2.2.2.2.2)] [] 2 [1, 0]) (Kblock 0 (Kseq Tryd.prog w0 S 52 (cR (cR (cR (cR (cR (cB Tryd.f56)))))) (KEnd Tryd.prog Tryd.f56 (FEnd w0 S (.returned (tl 1 0 (encI .u8) r)) (mkW 1 [0] []))))) := by
  refine encode_L3.partial_correctness (fun (x : (List Int) × Int × (List Int) × (List S36) × Int × Int) (r : (List Int)) => ∀ (W0 w0 : World) (S : Own), Std W0 w0 S 0 → HL Tryd.prog w0 S 52 (cL (cL (cR (cL (cR (cR (cR (cR (cB Tryd.f56))))))))) (mkS [(0, tl 1 0 (encI .u8) x.1), (2, .int .u8 x.2.1), (7, tl 1 1 (encI .u8) x.2.2.1), (24, ls 5 false enc36 x.2.2.2.1), (25, .int .i64 x.2.2.2.2.1), (26, .int .i64 x.2.2.2.2.2)] [] 2 [1, 0]) (Kblock 0 (Kseq Tryd.prog w0 S 52 (cR (cR (cR (cR (cR (cB Tryd.f56)))))) (KEnd Tryd.prog Tryd.f56 (FEnd w0 S (.returned (tl 1 0 (encI .u8) r)) (mkW 1 [0] [])))))) ?_
  intro self ih_encode_L3 x r h
  intro W0 w0 S hS
  haveI := hS.noEx Tryd.prog
  refine HL.round ?_
  refine H.sr' 1 ?_
  refine H.seq' ?_
  refine H.cS' (decide (x.2.2.2.2.2 < x.2.2.2.2.1)) (fun hb => ?_) (fun hb => ?_)
  · rw [if_pos (of_decide_eq_true hb)] at h
    refine H.skp' ?_
    refine Kseq_norm ?_
    refine H.seq' ?_
    refine H.blk' 1 ?_
    refine H.sg' ?_
    obtain ⟨y3, hy, h⟩ := bindS h
    refine HO.idx (.agg #[.int .u8 y3.c0, .int .u32 y3.c1, .bool y3.c2, ls 1 false (encI .u8) y3.c3, ls 5 false enc36 y3.c4]) hy (enc36_eq y3) (by kernel_rfl) ?_
    refine HO.fin' 3 ?_
    refine H.reg' ?_
    refine HO.go' 3 ?_
    obtain ⟨y4, hy, h⟩ := bindS h
    refine HO.callFW hS (tl 1 3 (encI .u8) y4) 4 [3, 0] [(2, .cells [.int .u8 y3.c0, .int .u32 y3.c1, .bool y3.c2, ls 1 false (encI .u8) y3.c3, ls 5 false enc36 y3.c4] 36 5)] [1] [.keep, .agg [.keep, .keep, .keep, .list 1 false, .list 5 false], .keep] (encode_1_ok (x.2.2.1, y3.c0, y3.c1, y3.c2, y3.c3, y3.c4, x.2.1) y4 hy W0) (by kernel_rfl) (by kernel_rfl) ?_
    refine HO.go' 1 ?_
    refine HO.end' ?_
    refine Kblock_norm ?_
    refine Kseq_norm ?_
    refine H.reg' ?_
    refine HO.go' 2 ?_
    refine HO.end' ?_
    refine Kloop_norm ?_
    exact HL.ren' hS [0, 3] (ih_encode_L3 (x.1, x.2.1, y4, x.2.2.2.1, x.2.2.2.2.1, (IntKind.i64.wrap (x.2.2.2.2.2 + 1))) r h W0 w0 S hS)
  rw [if_neg (of_decide_eq_false hb)] at h
  refine H.ext' 0 ?_
  refine Kseq_exit ?_
  refine Kloop_exit ?_
  refine Kblock_hit ?_
  refine Kseq_norm ?_
  refine H.seq' ?_
  refine H.sr' 2 ?_
  refine H.cS' (decide (x.2.1 = 1)) (fun hb => ?_) (fun hb => ?_)
  · rw [if_pos (of_decide_eq_true hb)] at h
    refine H.sg' ?_
    refine HO.go' 2 ?_
    obtain ⟨y5, hy, h⟩ := bindS h
    refine HO.effA (app1_aop (enc := (encI .u8)) (k := 1) false 1 [.int .u8 128] [1] hy (by kernel_rfl) (by kernel_rfl) (by kernel_rfl)) ?_
    refine HO.go' 1 ?_
    obtain ⟨y6, hy, h⟩ := bindS h
    by_cases hb : x.2.2.1.length = 0
    · rw [if_pos hb] at h
      refine HO.valA (appN_aop (ag := false) [1] (encI_ok .u8) hy hb (by kernel_rfl)) ?_
      refine HO.fin' 1 ?_
      exact H.ren' hS [3] (encode_L4_ok y5 r h W0 w0 S hS)
    rw [if_neg hb] at h
    refine HO.effA (appL_aop (ag := false) [1] (encI_ok .u8) hy hb (by kernel_rfl)) ?_
    refine HO.fin' 1 ?_
    exact H.ren' hS [4] (encode_L4_ok y6 r h W0 w0 S hS)
  rw [if_neg (of_decide_eq_false hb)] at h
  refine H.skp' ?_
  refine Kseq_norm ?_
  refine H.sg' ?_
  refine HO.go' 2 ?_
  refine HO.len (by kernel_rfl) (by kernel_rfl) (ls_size (encI .u8) x.2.2.1) ?_
  refine HO.go' 1 ?_
  obtain ⟨y8, hy, h⟩ := bindS h
  refine HO.callFW hS (tl 1 2 (encI .u8) y8) 3 [2, 1] [] [0] [.keep, .keep, .keep] (size_ok (x.1, (x.2.2.1.length : Int), x.2.1) y8 hy W0) (by kernel_rfl) (by kernel_rfl) ?_
  refine HO.go' 1 ?_
  obtain ⟨y9, hy, h⟩ := bindS h
  by_cases hb : x.2.2.1.length = 0
  · rw [if_pos hb] at h
    refine HO.valA (appN_aop (ag := false) [1] (encI_ok .u8) hy hb (by kernel_rfl)) ?_
    refine HO.fin' 1 ?_
    exact H.ren' hS [2] (encode_L5_ok y8 r h W0 w0 S hS)
  rw [if_neg hb] at h
  refine HO.effA (appL_aop (ag := false) [1] (encI_ok .u8) hy hb (by kernel_rfl)) ?_
  refine HO.fin' 1 ?_
  exact H.ren' hS [3] (encode_L5_ok y9 r h W0 w0 S hS)
def encode_L2 (x : (List Int) × Int × Int × Int × Bool × (List Int) × (List S36)) : Option ((List Int)) :=
  (clip x.2.2.2.2.2.1) >>= fun y2 =>
  encode_L3 (x.1, x.2.1, y2, x.2.2.2.2.2.2, (x.2.2.2.2.2.2.length : Int), 0)
theorem encode_L2_ok : ∀ (x : (List Int) × Int × Int × Int × Bool × (List Int) × (List S36)) (r : (List Int)), encode_L2 x = some r → ∀ (W0 w0 : World) (S : Own), Std W0 w0 S 0 → H Tryd.prog w0 S 52 (cR (cR (cR (cB Tryd.f56)))) (mkS [(0, tl 1 0 (encI .u8) x.1), (2, .int .u8 x.2.1), (4, .pointer (some ⟨1, 0, none⟩))] [(1, .cells [.int .u8 x.2.2.1, .int .u32 x.2.2.2.1, .bool x.2.2.2.2.1, ls 1 false (encI .u8) x.2.2.2.2.2.1, ls 5 false enc36 x.2.2.2.2.2.2] 36 5)] 2 [0]) (KEnd Tryd.prog Tryd.f56 (FEnd w0 S (.returned (tl 1 0 (encI .u8) r)) (mkW 1 [0] []))) := by
  intro x r h
  unfold encode_L2 at h
  intro W0 w0 S hS
  haveI := hS.noEx Tryd.prog
  refine H.sg' ?_
  refine HO.go' 2 ?_
  obtain ⟨y2, hy, h⟩ := bindS h
  refine HO.callW hS [.list 1 false] (clip_ok x.2.2.2.2.2.1 y2 hy W0) (by kernel_rfl) (by kernel_rfl) ?_
  refine HO.fin' 1 ?_
  refine H.seq' ?_
  refine H.sg' ?_
  refine HO.go' 2 ?_
  refine HO.len (by kernel_rfl) (by kernel_rfl) (ls_size enc36 x.2.2.2.2.2.2) ?_
  refine HO.fin' 1 ?_
  refine H.blk' 0 ?_
  refine H.lop' ?_
  refine HL.tok 7 1 (es := (y2.map (encI .u8)).toArray) (by kernel_rfl) ?_
  exact HL.ren' hS [0, 2] (encode_L3_ok (x.1, x.2.1, y2, x.2.2.2.2.2.2, (x.2.2.2.2.2.2.length : Int), 0) r h W0 w0 S hS)
def encode_L1 (x : (List Int) × Int × Bool × Int × Int × Bool × (List Int) × (List S36)) : Option ((List Int)) :=
  if x.2.2.1 = true then
    encode_L2 (x.1, 0, x.2.2.2.1, x.2.2.2.2.1, x.2.2.2.2.2.1, x.2.2.2.2.2.2.1, x.2.2.2.2.2.2.2)
  else
    encode_L2 (x.1, x.2.1, x.2.2.2.1, x.2.2.2.2.1, x.2.2.2.2.2.1, x.2.2.2.2.2.2.1, x.2.2.2.2.2.2.2)
theorem encode_L1_ok : ∀ (x : (List Int) × Int × Bool × Int × Int × Bool × (List Int) × (List S36)) (r : (List Int)), encode_L1 x = some r → ∀ (W0 w0 : World) (S : Own), Std W0 w0 S 0 → H Tryd.prog w0 S 52 (cR (cL (cR (cR (cB Tryd.f56))))) (mkS [(0, tl 1 0 (encI .u8) x.1), (2, .int .u8 x.2.1), (4, .pointer (some ⟨1, 0, none⟩)), (19, .bool x.2.2.1)] [(1, .cells [.int .u8 x.2.2.2.1, .int .u32 x.2.2.2.2.1, .bool x.2.2.2.2.2.1, ls 1 false (encI .u8) x.2.2.2.2.2.2.1, ls 5 false enc36 x.2.2.2.2.2.2.2] 36 5)] 2 [0]) (Kseq Tryd.prog w0 S 52 (cR (cR (cR (cB Tryd.f56)))) (KEnd Tryd.prog Tryd.f56 (FEnd w0 S (.returned (tl 1 0 (encI .u8) r)) (mkW 1 [0] [])))) := by
  intro x r h
  unfold encode_L1 at h
  intro W0 w0 S hS
  haveI := hS.noEx Tryd.prog
  refine H.cS' (x.2.2.1) (fun hb => ?_) (fun hb => ?_)
  rotate_left
  · rw [if_neg (ne_true hb)] at h
    refine H.skp' ?_
    refine Kseq_norm ?_
    exact H.ren' hS [0, 1] (encode_L2_ok (x.1, x.2.1, x.2.2.2.1, x.2.2.2.2.1, x.2.2.2.2.2.1, x.2.2.2.2.2.2.1, x.2.2.2.2.2.2.2) r h W0 w0 S hS)
  rw [if_pos hb] at h
  refine H.reg' ?_
  refine HO.fin' 1 ?_
  exact H.ren' hS [0, 1] (encode_L2_ok (x.1, 0, x.2.2.2.1, x.2.2.2.2.1, x.2.2.2.2.2.1, x.2.2.2.2.2.2.1, x.2.2.2.2.2.2.2) r h W0 w0 S hS)
def encode (x : Int × Int × Bool × (List Int) × (List S36) × Int) : Option ((List Int)) :=
  (identifier_1 ([], x.1, x.2.1, x.2.2.1, x.2.2.2.1, x.2.2.2.2.1)) >>= fun y1 =>
  if (!x.2.2.1) = true then
    encode_L1 (y1, x.2.2.2.2.2, (!decide (x.2.2.2.2.2 = 2)), x.1, x.2.1, x.2.2.1, x.2.2.2.1, x.2.2.2.2.1)
  else
    encode_L1 (y1, x.2.2.2.2.2, false, x.1, x.2.1, x.2.2.1, x.2.2.2.1, x.2.2.2.2.1)
theorem encode_ok : ∀ (x : Int × Int × Bool × (List Int) × (List S36) × Int) (r : (List Int)), encode x = some r → ∀ W0 : World, FTo Tryd.prog W0 56 #[.slice none 0 0, .agg #[.int .u8 x.1, .int .u32 x.2.1, .bool x.2.2.1, ls 1 false (encI .u8) x.2.2.2.1, ls 5 false enc36 x.2.2.2.2.1], .int .u8 x.2.2.2.2.2] (mkW 0 [] []) (.returned (tl 1 0 (encI .u8) r)) (mkW 1 [0] []) := by
  intro x r h
  unfold encode at h
  intro W0
  refine FTo.of_body (fn := Tryd.f56) (code := cB Tryd.f56) Tryd.func56 rfl rfl ?_
  intro w0 S hS
  haveI := hS.noEx Tryd.prog
  refine H.sr' 2 ?_
  refine H.sg' ?_
  refine HO.go' 2 ?_
  refine HO.tok 10 1 (es := #[]) (by kernel_rfl) ?_
  obtain ⟨y1, hy, h⟩ := bindS h
  refine HO.callFW hS (tl 1 2 (encI .u8) y1) 3 [2] [(0, .cells [.int .u8 x.1, .int .u32 x.2.1, .bool x.2.2.1, ls 1 false (encI .u8) x.2.2.2.1, ls 5 false enc36 x.2.2.2.2.1] 36 5)] [1] [.keep, .agg [.keep, .keep, .keep, .list 1 false, .list 5 false]] (identifier_1_ok ([], x.1, x.2.1, x.2.2.1, x.2.2.2.1, x.2.2.2.2.1) y1 hy W0) (by kernel_rfl) (by kernel_rfl) ?_
  refine HO.fin' 1 ?_
  refine H.seq' ?_
  refine H.sg' ?_
  refine HO.go' 3 ?_
  refine HO.bo' (!x.2.2.1) (fun hb => ?_) (fun hb => ?_)
  · rw [if_pos hb] at h
    refine HO.fin' 3 ?_
    exact H.ren' hS [2, 0] (encode_L1_ok (y1, x.2.2.2.2.2, (!decide (x.2.2.2.2.2 = 2)), x.1, x.2.1, x.2.2.1, x.2.2.2.1, x.2.2.2.2.1) r h W0 w0 S hS)
  rw [if_neg (ne_true hb)] at h
  refine HO.fin' 3 ?_
  exact H.ren' hS [2, 0] (encode_L1_ok (y1, x.2.2.2.2.2, false, x.1, x.2.1, x.2.2.1, x.2.2.2.1, x.2.2.2.2.1) r h W0 w0 S hS)
def encodeAs (x : Int × Int × Bool × (List Int) × (List S36) × Int) : Option ((List Int) × Int) :=
  (check (x.1, x.2.1, x.2.2.1, x.2.2.2.1, x.2.2.2.2.1)) >>= fun y1 =>
  if (!decide (y1 = 0)) = true then
    some ([], y1)
  else
    if 2 < x.2.2.2.2.2 then
      some ([], 1)
    else
      (long (x.1, x.2.1, x.2.2.1, x.2.2.2.1, x.2.2.2.2.1)) >>= fun y2 =>
      if 65536 < y2 then
        some ([], 3)
      else
        (encode (x.1, x.2.1, x.2.2.1, x.2.2.2.1, x.2.2.2.2.1, x.2.2.2.2.2)) >>= fun y3 =>
        if 65536 < (y3.length : Int) then
          some ([], 3)
        else
          (clip y3) >>= fun y4 =>
          some (y4, 0)
theorem encodeAs_ok : ∀ (x : Int × Int × Bool × (List Int) × (List S36) × Int) (r : (List Int) × Int), encodeAs x = some r → ∀ W0 : World, PTo Tryd.prog W0 22 #[.agg #[.int .u8 x.1, .int .u32 x.2.1, .bool x.2.2.1, ls 1 false (encI .u8) x.2.2.2.1, ls 5 false enc36 x.2.2.2.2.1], .int .u8 x.2.2.2.2.2] (.returned (.tuple #[ls 1 true (encI .u8) r.1, .int .i64 r.2])) := by
  intro x r h
  unfold encodeAs at h
  intro W0
  refine PTo.of_body (fn := Tryd.f22) (code := cB Tryd.f22) Tryd.func22 rfl rfl ?_
  intro w0 S hS
  haveI := hS.noEx Tryd.prog
  refine H.sr' 3 ?_
  refine H.seq' ?_
  refine H.sg' ?_
  refine HO.go' 1 ?_
  obtain ⟨y1, hy, h⟩ := bindS h
  refine HO.callW hS [.agg [.keep, .keep, .keep, .list 1 false, .list 5 false]] (check_ok (x.1, x.2.1, x.2.2.1, x.2.2.2.1, x.2.2.2.2.1) y1 hy W0) (by kernel_rfl) (by kernel_rfl) ?_
  refine HO.fin' 1 ?_
  refine H.blk' 0 ?_
  refine H.sr' 3 ?_
  refine H.cS' (!decide (y1 = 0)) (fun hb => ?_) (fun hb => ?_)
  · rw [if_pos hb] at h
    refine H.sr' 3 ?_
    refine H.ret' ?_
    refine Kblock_ret ?_
    refine Kseq_ret ?_
    obtain rfl := Option.some.inj h
    exact KEnd.retW (v := .tuple #[.slice none 0 0, .int .i64 y1]) (.tuple [.list 1 true, .keep]) (by kernel_rfl) (by kernel_rfl) (by kernel_rfl) (by kernel_rfl)
  rw [if_neg (ne_true hb)] at h
  refine H.sr' 3 ?_
  refine H.cS' (decide (2 < x.2.2.2.2.2)) (fun hb => ?_) (fun hb => ?_)
  · rw [if_pos (of_decide_eq_true hb)] at h
    refine H.sr' 2 ?_
    refine H.ret' ?_
    refine Kblock_ret ?_
    refine Kseq_ret ?_
    obtain rfl := Option.some.inj h
    exact KEnd.retW (v := .tuple #[.slice none 0 0, .int .i64 1]) (.tuple [.list 1 true, .keep]) (by kernel_rfl) (by kernel_rfl) (by kernel_rfl) (by kernel_rfl)
  rw [if_neg (of_decide_eq_false hb)] at h
  refine H.skp' ?_
  refine Kblock_norm ?_
  refine Kseq_norm ?_
  refine H.seq' ?_
  refine H.sg' ?_
  refine HO.go' 1 ?_
  obtain ⟨y2, hy, h⟩ := bindS h
  refine HO.callW hS [.agg [.keep, .keep, .keep, .list 1 false, .list 5 false]] (long_ok (x.1, x.2.1, x.2.2.1, x.2.2.2.1, x.2.2.2.2.1) y2 hy W0) (by kernel_rfl) (by kernel_rfl) ?_
  refine HO.fin' 1 ?_
  refine H.cS' (decide (65536 < y2)) (fun hb => ?_) (fun hb => ?_)
  · rw [if_pos (of_decide_eq_true hb)] at h
    refine H.sr' 2 ?_
    refine H.ret' ?_
    refine Kseq_ret ?_
    obtain rfl := Option.some.inj h
    exact KEnd.retW (v := .tuple #[.slice none 0 0, .int .i64 3]) (.tuple [.list 1 true, .keep]) (by kernel_rfl) (by kernel_rfl) (by kernel_rfl) (by kernel_rfl)
  rw [if_neg (of_decide_eq_false hb)] at h
  refine H.skp' ?_
  refine Kseq_norm ?_
  refine H.sg' ?_
  refine HO.go' 2 ?_
  obtain ⟨y3, hy, h⟩ := bindS h
  refine HO.callFW hS (tl 1 1 (encI .u8) y3) 2 [1] [(0, .cells [.int .u8 x.1, .int .u32 x.2.1, .bool x.2.2.1, ls 1 false (encI .u8) x.2.2.2.1, ls 5 false enc36 x.2.2.2.2.1] 36 5)] [] [.keep, .agg [.keep, .keep, .keep, .list 1 false, .list 5 false], .keep] (encode_ok (x.1, x.2.1, x.2.2.1, x.2.2.2.1, x.2.2.2.2.1, x.2.2.2.2.2) y3 hy W0) (by kernel_rfl) (by kernel_rfl) ?_
  refine HO.fin' 1 ?_
  refine H.seq' ?_
  refine H.sg' ?_
  refine HO.go' 1 ?_
  refine HO.len (by kernel_rfl) (by kernel_rfl) (ls_size (encI .u8) y3) ?_
  refine HO.fin' 1 ?_
  refine H.cS' (decide (65536 < (y3.length : Int))) (fun hb => ?_) (fun hb => ?_)
  · rw [if_pos (of_decide_eq_true hb)] at h
    refine H.sr' 2 ?_
    refine H.ret' ?_
    refine Kseq_ret ?_
    obtain rfl := Option.some.inj h
    exact KEnd.retW (v := .tuple #[.slice none 0 0, .int .i64 3]) (.tuple [.list 1 true, .keep]) (by kernel_rfl) (by kernel_rfl) (by kernel_rfl) (by kernel_rfl)
  rw [if_neg (of_decide_eq_false hb)] at h
  refine H.skp' ?_
  refine Kseq_norm ?_
  refine H.sg' ?_
  refine HO.go' 1 ?_
  obtain ⟨y4, hy, h⟩ := bindS h
  refine HO.callW hS [.list 1 false] (clip_ok y3 y4 hy W0) (by kernel_rfl) (by kernel_rfl) ?_
  refine HO.fin' 2 ?_
  refine H.ret' ?_
  obtain rfl := Option.some.inj h
  exact KEnd.retW (v := .tuple #[ls 1 true (encI .u8) y4, .int .i64 0]) (.tuple [.list 1 true, .keep]) (by kernel_rfl) (by kernel_rfl) (by kernel_rfl) (by kernel_rfl)
def encodeC (x : Int × Int × Bool × (List Int) × (List S36)) : Option ((List Int) × Int) :=
  (encodeAs (x.1, x.2.1, x.2.2.1, x.2.2.2.1, x.2.2.2.2, 0)) >>= fun y1 =>
  some (y1.1, y1.2)
theorem encodeC_ok : ∀ (x : Int × Int × Bool × (List Int) × (List S36)) (r : (List Int) × Int), encodeC x = some r → ∀ W0 : World, PTo Tryd.prog W0 41 #[.agg #[.int .u8 x.1, .int .u32 x.2.1, .bool x.2.2.1, ls 1 false (encI .u8) x.2.2.2.1, ls 5 false enc36 x.2.2.2.2]] (.returned (.tuple #[ls 1 true (encI .u8) r.1, .int .i64 r.2])) := by
  intro x r h
  unfold encodeC at h
  intro W0
  refine PTo.of_body (fn := Tryd.f41) (code := cB Tryd.f41) Tryd.func41 rfl rfl ?_
  intro w0 S hS
  haveI := hS.noEx Tryd.prog
  refine H.sr' 3 ?_
  refine H.sg' ?_
  refine HO.go' 1 ?_
  obtain ⟨y1, hy, h⟩ := bindS h
  refine HO.callW hS [.agg [.keep, .keep, .keep, .list 1 false, .list 5 false], .keep] (encodeAs_ok (x.1, x.2.1, x.2.2.1, x.2.2.2.1, x.2.2.2.2, 0) y1 hy W0) (by kernel_rfl) (by kernel_rfl) ?_
  refine HO.fin' 4 ?_
  refine H.ret' ?_
  obtain rfl := Option.some.inj h
  exact KEnd.retW (v := .tuple #[ls 1 true (encI .u8) y1.1, .int .i64 y1.2]) (.tuple [.list 1 true, .keep]) (by kernel_rfl) (by kernel_rfl) (by kernel_rfl) (by kernel_rfl)
def cpEncode_L1 (x : (List S70) × Int × Int × (List S36)) : Option ((List Int) × Int) :=
  if x.2.2.1 < x.2.1 then
    (at' x.1 x.2.2.1) >>= fun y1 =>
    (cpCheck (y1.c0, y1.c1, y1.c2, y1.c3, y1.c4, y1.c5)) >>= fun y2 =>
    if (!decide (y2 = 0)) = true then
      some ([], y2)
    else
      (cpTreeI (y1.c0, y1.c1, y1.c2, y1.c3, y1.c4, y1.c5)) >>= fun y3 =>
      (app' 64 x.2.2.2 [(S36.mk y3.1 y3.2.1 y3.2.2.1 y3.2.2.2.1 y3.2.2.2.2)]) >>= fun y4 =>
      cpEncode_L1 (x.1, x.2.1, (IntKind.i64.wrap (x.2.2.1 + 1)), y4)
  else
    (encodeC (1, 1, true, [], x.2.2.2)) >>= fun y5 =>
    some (y5.1, y5.2)
partial_fixpoint
theorem cpEncode_L1_ok : ∀ (x : (List S70) × Int × Int × (List S36)) (r : (List Int) × Int), cpEncode_L1 x = some r → ∀ (W0 w0 : World) (S : Own), Std W0 w0 S 0 → HL Tryd.prog w0 S 35 (cL (cL (cR (cL (cR (cR (cR (cB Tryd.f40)))))))) (mkS [(4, .pointer (some ⟨0, 0, none⟩)), (12, ls 6 false enc70 x.1), (13, .int .i64 x.2.1), (14, .int .i64 x.2.2.1)] [(0, .cells [.int .u8 1, .int .u32 1, .bool true, .slice none 0 0, tl 5 1 enc36 x.2.2.2] 36 5)] 2 [1]) (Kblock 0 (Kseq Tryd.prog w0 S 35 (cR (cR (cR (cR (cB Tryd.f40))))) (KEnd Tryd.prog Tryd.f40 (PEnd w0 S (.returned (.tuple #[ls 1 true (encI .u8) r.1, .int .i64 r.2])))))) := by
  refine cpEncode_L1.partial_correctness (fun (x : (List S70) × Int × Int × (List S36)) (r : (List Int) × Int) => ∀ (W0 w0 : World) (S : Own), Std W0 w0 S 0 → HL Tryd.prog w0 S 35 (cL (cL (cR (cL (cR (cR (cR (cB Tryd.f40)))))))) (mkS [(4, .pointer (some ⟨0, 0, none⟩)), (12, ls 6 false enc70 x.1), (13, .int .i64 x.2.1), (14, .int .i64 x.2.2.1)] [(0, .cells [.int .u8 1, .int .u32 1, .bool true, .slice none 0 0, tl 5 1 enc36 x.2.2.2] 36 5)] 2 [1]) (Kblock 0 (Kseq Tryd.prog w0 S 35 (cR (cR (cR (cR (cB Tryd.f40))))) (KEnd Tryd.prog Tryd.f40 (PEnd w0 S (.returned (.tuple #[ls 1 true (encI .u8) r.1, .int .i64 r.2]))))))) ?_
  intro self ih_cpEncode_L1 x r h
  intro W0 w0 S hS
  haveI := hS.noEx Tryd.prog
  refine HL.round ?_
  refine H.sr' 1 ?_
  refine H.seq' ?_
  refine H.cS' (decide (x.2.2.1 < x.2.1)) (fun hb => ?_) (fun hb => ?_)
  rotate_left
  · rw [if_neg (of_decide_eq_false hb)] at h
    refine H.ext' 0 ?_
    refine Kseq_exit ?_
    refine Kloop_exit ?_
    refine Kblock_hit ?_
    refine Kseq_norm ?_
    refine H.sg' ?_
    refine HO.go' 1 ?_
    obtain ⟨y5, hy, h⟩ := bindS h
    refine HO.callW hS [.agg [.keep, .keep, .keep, .list 1 false, .list 5 false]] (encodeC_ok (1, 1, true, [], x.2.2.2) y5 hy W0) (by kernel_rfl) (by kernel_rfl) ?_
    refine HO.fin' 4 ?_
    refine H.ret' ?_
    obtain rfl := Option.some.inj h
    exact KEnd.retW (v := .tuple #[ls 1 true (encI .u8) y5.1, .int .i64 y5.2]) (.tuple [.list 1 true, .keep]) (by kernel_rfl) (by kernel_rfl) (by kernel_rfl) (by kernel_rfl)
  rw [if_pos (of_decide_eq_true hb)] at h
  refine H.skp' ?_
  refine Kseq_norm ?_
  refine H.seq' ?_
  refine H.blk' 1 ?_
  refine H.sg' ?_
  obtain ⟨y1, hy, h⟩ := bindS h
  refine HO.idx (.agg #[.int .u8 y1.c0, .int .i64 y1.c1, .int .i64 y1.c2, .int .i64 y1.c3, .int .u8 y1.c4, ls 1 false (encI .u8) y1.c5]) hy (enc70_eq y1) (by kernel_rfl) ?_
  refine HO.fin' 3 ?_
  refine H.seq' ?_
  refine H.sg' ?_
  refine HO.go' 1 ?_
  obtain ⟨y2, hy, h⟩ := bindS h
  refine HO.callW hS [.agg [.keep, .keep, .keep, .keep, .keep, .list 1 false]] (cpCheck_ok (y1.c0, y1.c1, y1.c2, y1.c3, y1.c4, y1.c5) y2 hy W0) (by kernel_rfl) (by kernel_rfl) ?_
  refine HO.fin' 1 ?_
  refine H.sr' 2 ?_
  refine H.cS' (!decide (y2 = 0)) (fun hb => ?_) (fun hb => ?_)
  · rw [if_pos hb] at h
    refine H.sr' 3 ?_
    refine H.ret' ?_
    refine Kseq_ret ?_
    refine Kblock_ret ?_
    refine Kseq_ret ?_
    refine Kloop_ret ?_
    refine Kblock_ret ?_
    refine Kseq_ret ?_
    obtain rfl := Option.some.inj h
    exact KEnd.retW (v := .tuple #[.slice none 0 0, .int .i64 y2]) (.tuple [.list 1 true, .keep]) (by kernel_rfl) (by kernel_rfl) (by kernel_rfl) (by kernel_rfl)
  rw [if_neg (ne_true hb)] at h
  refine H.skp' ?_
  refine Kseq_norm ?_
  refine H.drawQ ?_
  refine HQ.go' 3 ?_
  obtain ⟨y3, hy, h⟩ := bindS h
  refine HQ.callW hS [.agg [.keep, .keep, .keep, .keep, .keep, .list 1 false]] (cpTreeI_ok (y1.c0, y1.c1, y1.c2, y1.c3, y1.c4, y1.c5) y3 hy W0) (by kernel_rfl) (by kernel_rfl) ?_
  refine HQ.go' 1 ?_
  obtain ⟨y4, hy, h⟩ := bindS h
  refine HQ.effA (app1_aop (enc := enc36) (k := 5) true 1 [.int .u8 y3.1, .int .u32 y3.2.1, .bool y3.2.2.1, ls 1 false (encI .u8) y3.2.2.2.1, ls 5 false enc36 y3.2.2.2.2] [] hy (by kernel_rfl) (by kernel_rfl) (by simp only [List.map_cons, List.map_nil, enc36_eq]; kernel_rfl)) ?_
  refine HQ.go' 2 ?_
  refine HQ.done (by kernel_rfl) (by kernel_rfl) (by kernel_rfl) ?_
  refine Kblock_norm ?_
  refine Kseq_norm ?_
  refine H.reg' ?_
  refine HO.go' 2 ?_
  refine HO.end' ?_
  refine Kloop_norm ?_
  exact HL.ren' hS [0, 4] (ih_cpEncode_L1 (x.1, x.2.1, (IntKind.i64.wrap (x.2.2.1 + 1)), y4) r h W0 w0 S hS)
def cpEncode (x : (List S70)) : Option ((List Int) × Int) :=
  if 16 < (x.length : Int) then
    some ([], 3)
  else
    cpEncode_L1 (x, (x.length : Int), 0, [])
theorem cpEncode_ok : ∀ (x : (List S70)) (r : (List Int) × Int), cpEncode x = some r → ∀ W0 : World, PTo Tryd.prog W0 40 #[ls 6 false enc70 x] (.returned (.tuple #[ls 1 true (encI .u8) r.1, .int .i64 r.2])) := by
  intro x r h
  unfold cpEncode at h
  intro W0
  refine PTo.of_body (fn := Tryd.f40) (code := cB Tryd.f40) Tryd.func40 rfl rfl ?_
  intro w0 S hS
  haveI := hS.noEx Tryd.prog
  refine H.sr' 2 ?_
  refine H.seq' ?_
  refine H.sg' ?_
  refine HO.go' 1 ?_
  refine HO.len (by kernel_rfl) (by kernel_rfl) (ls_size enc70 x) ?_
  refine HO.fin' 1 ?_
  refine H.cS' (decide (16 < (x.length : Int))) (fun hb => ?_) (fun hb => ?_)
  · rw [if_pos (of_decide_eq_true hb)] at h
    refine H.sr' 2 ?_
    refine H.ret' ?_
    refine Kseq_ret ?_
    obtain rfl := Option.some.inj h
    exact KEnd.retW (v := .tuple #[.slice none 0 0, .int .i64 3]) (.tuple [.list 1 true, .keep]) (by kernel_rfl) (by kernel_rfl) (by kernel_rfl) (by kernel_rfl)
  rw [if_neg (of_decide_eq_false hb)] at h
  refine H.skp' ?_
  refine Kseq_norm ?_
  refine H.sr' 3 ?_
  refine H.seq' ?_
  refine H.sg' ?_
  refine HO.go' 1 ?_
  refine HO.len (by kernel_rfl) (by kernel_rfl) (ls_size enc70 x) ?_
  refine HO.fin' 1 ?_
  refine H.blk' 0 ?_
  refine H.lop' ?_
  refine HL.tkc 0 36 5 4 5 [.int .u8 1, .int .u32 1, .bool true, .slice none 0 0, .slice none 0 0] (.slice none 0 0) #[] (by kernel_rfl) ?_
  exact HL.ren' hS [0, 1] (cpEncode_L1_ok (x, (x.length : Int), 0, []) r h W0 w0 S hS)
def must (x : Bool × Int) : Option (Except Int Unit) :=
  if (!x.1) = true then
    some (.error x.2)
  else
    some (.ok ())
theorem must_ok : ∀ (x : Bool × Int) (r : Except Int Unit), must x = some r → ∀ W0 : World, PTo Tryd.prog W0 81 #[.bool x.1, .int .i64 x.2] (match r with | .ok r => .returned (.tuple #[]) | .error e => panE (.iface 25 (.int .i64 e))) := by
  intro x r h
  unfold must at h
  intro W0
  refine PTo.of_body (fn := Tryd.f81) (code := cB Tryd.f81) Tryd.func81 rfl rfl ?_
  intro w0 S hS
  haveI := hS.noEx Tryd.prog
  refine H.sr' 2 ?_
  refine H.cS' (!x.1) (fun hb => ?_) (fun hb => ?_)
  rotate_left
  · rw [if_neg (ne_true hb)] at h
    refine H.skp' ?_
    obtain rfl := Option.some.inj h
    exact KEnd.r'
  rw [if_pos hb] at h
  refine H.reg' ?_
  refine HO.go' 2 ?_
  refine HO.pan1 (.iface 25 (.int .i64 x.2)) (by kernel_rfl) ?_
  obtain rfl := Option.some.inj h
  exact KEnd.pan (by kernel_rfl) (by kernel_rfl)
def take (x : Int × (List Int) × Int) : Option (Except Int ((List Int) × (List Int) × Int)) :=
  if (x.2.1.length : Int) < x.1 then
    some (.error 4)
  else
    (sub' x.2.1 0 x.1) >>= fun y1 =>
    (sub' x.2.1 x.1 (x.2.1.length : Int)) >>= fun y2 =>
    some (.ok (y1, y2, x.2.2))
theorem take_ok : ∀ (x : Int × (List Int) × Int) (r : Except Int ((List Int) × (List Int) × Int)), take x = some r → ∀ W0 : World, FTo Tryd.prog W0 86 #[.pointer (some ⟨0, 0, none⟩), .int .i64 x.1] (mkW 1 [] [(0, .cells [ls 1 false (encI .u8) x.2.1, .int .i64 x.2.2] 121 2)]) (match r with | .ok r => .returned (ls 1 false (encI .u8) r.1) | .error e => panE (.iface 25 (.int .i64 e))) (match r with | .ok r => (mkW 1 [] [(0, .cells [ls 1 false (encI .u8) r.2.1, .int .i64 r.2.2] 121 2)]) | .error _ => (mkW 1 [] [])) := by
  intro x r h
  unfold take at h
  intro W0
  refine FTo.of_body (fn := Tryd.f86) (code := cB Tryd.f86) Tryd.func86 rfl rfl ?_
  intro w0 S hS
  haveI := hS.noEx Tryd.prog
  refine H.sr' 1 ?_
  refine H.seq' ?_
  refine H.sg' ?_
  refine HO.go' 5 ?_
  refine HO.len (by kernel_rfl) (by kernel_rfl) (ls_size (encI .u8) x.2.1) ?_
  refine HO.fin' 1 ?_
  refine H.cS' (decide ((x.2.1.length : Int) < x.1)) (fun hb => ?_) (fun hb => ?_)
  · rw [if_pos (of_decide_eq_true hb)] at h
    refine H.reg' ?_
    refine HO.go' 1 ?_
    refine HO.pan1 (.iface 25 (.int .i64 4)) (by kernel_rfl) ?_
    refine Kseq_pan ?_
    obtain rfl := Option.some.inj h
    exact KEnd.ofPan (by kernel_rfl) (FEnd.pan hS [0] [] [] (by kernel_rfl))
  rw [if_neg (of_decide_eq_false hb)] at h
  refine H.skp' ?_
  refine Kseq_norm ?_
  refine H.sg' ?_
  refine HO.go' 5 ?_
  obtain ⟨y1, hy, h⟩ := bindS h
  refine HO.valA (sl2_aop (enc := (encI .u8)) (k := 1) (j := .i64) hy (by kernel_rfl)) ?_
  refine HO.fin' 1 ?_
  refine H.sg' ?_
  refine HO.go' 6 ?_
  obtain ⟨y2, hy, h⟩ := bindS h
  refine HO.valA (sl1_aop (enc := (encI .u8)) (k := 1) (j := .i64) false hy (by kernel_rfl)) ?_
  refine HO.fin' 3 ?_
  refine H.sr' 2 ?_
  refine H.ret' ?_
  obtain rfl := Option.some.inj h
  exact KEnd.of (v := ls 1 false (encI .u8) y1) (by kernel_rfl) (by kernel_rfl) (FEnd.wk (v1 := ls 1 false (encI .u8) y1) (.list 1 false) (by kernel_rfl) (FEnd.ren hS [0] _ _ (by kernel_rfl)))
end Vf
