import Derived.Test.YthfhdmogocphpaaVfWb
set_option linter.unusedVariables false
set_option linter.unusedSimpArgs false
set_option maxHeartbeats 4000000
namespace Vf
open Go Go.Vx Go.Proofs
def trDecode (x : (List Int)) : Option (Int × Int × Int × Int × (List Int) × Int) :=
  (decode x) >>= fun y1 =>
  if (!decide (y1.2.2.2.2.2 = 0)) = true then
    some (0, 0, 0, 0, [], y1.2.2.2.2.2)
  else
    if (!y1.2.2.1) = true then
      trDecode_L1 (true, y1.1, y1.2.1, y1.2.2.1, y1.2.2.2.1, y1.2.2.2.2.1)
    else
      if (!decide (y1.1 = 1)) = true then
        trDecode_L1 (true, y1.1, y1.2.1, y1.2.2.1, y1.2.2.2.1, y1.2.2.2.2.1)
      else
        if y1.2.1 < 1 then
          trDecode_L1 (true, y1.1, y1.2.1, y1.2.2.1, y1.2.2.2.1, y1.2.2.2.2.1)
        else
          trDecode_L1 ((decide (4 < y1.2.1)), y1.1, y1.2.1, y1.2.2.1, y1.2.2.2.1, y1.2.2.2.2.1)
theorem trDecode_ok : ∀ (x : (List Int)) (r : Int × Int × Int × Int × (List Int) × Int), trDecode x = some r → ∀ W0 : World, PTo Try.prog W0 33 #[ls 1 false (encI .u8) x] (.returned (.tuple #[.agg #[.int .u8 r.1, .int .u32 r.2.1, .int .u32 r.2.2.1, .int .u8 r.2.2.2.1, ls 1 false (encI .u8) r.2.2.2.2.1], .int .i64 r.2.2.2.2.2])) := by
  intro x r h
  unfold trDecode at h
  intro W0
  refine PTo.of_body (fn := Try.f33) (code := cB Try.f33) Try.func33 rfl rfl ?_
  intro w0 S hS
  haveI := hS.noEx Try.prog
  refine H.sr 2 (by kernel_rfl) ?_
  refine H.sg (by kernel_rfl) ?_
  refine HO.goP 1 (by kernel_rfl) ?_
  obtain ⟨y1, hy, h⟩ := bindS h
  refine HO.callW hS [.list 1 false] (decode_ok x y1 hy W0) (by kernel_rfl) (by kernel_rfl) ?_
  refine HO.fin 6 (by kernel_rfl) ?_
  refine H.seqP (by kernel_rfl) ?_
  refine H.sr 2 (by kernel_rfl) ?_
  refine H.condS (b := !decide (y1.2.2.2.2.2 = 0)) (by kernel_rfl) (by kernel_rfl) (fun hb => ?_) (fun hb => ?_)
  · rw [if_pos hb] at h
    refine H.sr 4 (by kernel_rfl) ?_
    refine H.retP (by kernel_rfl) ?_
    refine Kseq_ret ?_
    obtain rfl := Option.some.inj h
    exact KEnd.retW (v := .tuple #[.agg #[.int .u8 0, .int .u32 0, .int .u32 0, .int .u8 0, .slice none 0 0], .int .i64 y1.2.2.2.2.2]) (.tuple [.agg [.keep, .keep, .keep, .keep, .list 1 false], .keep]) (by kernel_rfl) (by kernel_rfl) (by kernel_rfl) (by kernel_rfl)
  rw [if_neg (ne_true hb)] at h
  refine H.skipP (by kernel_rfl) ?_
  refine Kseq_norm ?_
  refine H.seqP (by kernel_rfl) ?_
  refine H.sg (by kernel_rfl) ?_
  refine HO.goP 3 (by kernel_rfl) ?_
  refine HO.boolP (!y1.2.2.1) (by kernel_rfl) (by kernel_rfl) (fun hb => ?_) (fun hb => ?_)
  · rw [if_pos hb] at h
    refine HO.fin 14 (by kernel_rfl) ?_
    exact H.ren hS [0, 1] _ _ _ (by kernel_rfl) (trDecode_L1_ok (true, y1.1, y1.2.1, y1.2.2.1, y1.2.2.2.1, y1.2.2.2.2.1) r h W0 w0 S hS)
  rw [if_neg (ne_true hb)] at h
  refine HO.goP 4 (by kernel_rfl) ?_
  refine HO.boolP (!decide (y1.1 = 1)) (by kernel_rfl) (by kernel_rfl) (fun hb => ?_) (fun hb => ?_)
  · rw [if_pos hb] at h
    refine HO.fin 9 (by kernel_rfl) ?_
    exact H.ren hS [0, 1] _ _ _ (by kernel_rfl) (trDecode_L1_ok (true, y1.1, y1.2.1, y1.2.2.1, y1.2.2.2.1, y1.2.2.2.2.1) r h W0 w0 S hS)
  rw [if_neg (ne_true hb)] at h
  refine HO.goP 4 (by kernel_rfl) ?_
  refine HO.boolP (decide (y1.2.1 < 1)) (by kernel_rfl) (by kernel_rfl) (fun hb => ?_) (fun hb => ?_)
  · rw [if_pos (of_decide_eq_true hb)] at h
    refine HO.fin 4 (by kernel_rfl) ?_
    exact H.ren hS [0, 1] _ _ _ (by kernel_rfl) (trDecode_L1_ok (true, y1.1, y1.2.1, y1.2.2.1, y1.2.2.2.1, y1.2.2.2.2.1) r h W0 w0 S hS)
  rw [if_neg (of_decide_eq_false hb)] at h
  refine HO.fin 4 (by kernel_rfl) ?_
  exact H.ren hS [0, 1] _ _ _ (by kernel_rfl) (trDecode_L1_ok ((decide (4 < y1.2.1)), y1.1, y1.2.1, y1.2.2.1, y1.2.2.2.1, y1.2.2.2.2.1) r h W0 w0 S hS)
def sameM_L1 (x : Bool) : Option (Bool) :=
  some x
theorem sameM_L1_ok : ∀ (x : Bool) (r : Bool), sameM_L1 x = some r → ∀ (W0 w0 : World) (S : Own), Std W0 w0 S 0 → H Try.prog w0 S 40 (cR (cR (cB Try.f34))) (mkS [(4, .bool x)] [] 0 []) (KEnd Try.prog Try.f34 (PEnd w0 S (.returned (.bool r)))) := by
  intro x r h
  unfold sameM_L1 at h
  intro W0 w0 S hS
  haveI := hS.noEx Try.prog
  refine H.retP (by kernel_rfl) ?_
  obtain rfl := Option.some.inj h
  exact KEnd.ret (by kernel_rfl) (by kernel_rfl) (by kernel_rfl)
def sameM (x : Int × Int × Int × Int × (List Int) × Int × Int × Int × Int × (List Int)) : Option (Bool) :=
  if x.1 = x.2.2.2.2.2.1 then
    if x.2.1 = x.2.2.2.2.2.2.1 then
      if x.2.2.1 = x.2.2.2.2.2.2.2.1 then
        if x.2.2.2.1 = x.2.2.2.2.2.2.2.2.1 then
          sameM_L1 (strEq (bytesU x.2.2.2.2.1) (bytesU x.2.2.2.2.2.2.2.2.2))
        else
          sameM_L1 false
      else
        sameM_L1 false
    else
      sameM_L1 false
  else
    sameM_L1 false
theorem sameM_ok : ∀ (x : Int × Int × Int × Int × (List Int) × Int × Int × Int × Int × (List Int)) (r : Bool), sameM x = some r → ∀ W0 : World, PTo Try.prog W0 34 #[.agg #[.int .u8 x.1, .int .u32 x.2.1, .int .u32 x.2.2.1, .int .u8 x.2.2.2.1, ls 1 false (encI .u8) x.2.2.2.2.1], .agg #[.int .u8 x.2.2.2.2.2.1, .int .u32 x.2.2.2.2.2.2.1, .int .u32 x.2.2.2.2.2.2.2.1, .int .u8 x.2.2.2.2.2.2.2.2.1, ls 1 false (encI .u8) x.2.2.2.2.2.2.2.2.2]] (.returned (.bool r)) := by
  intro x r h
  unfold sameM at h
  intro W0
  refine PTo.of_body (fn := Try.f34) (code := cB Try.f34) Try.func34 rfl rfl ?_
  intro w0 S hS
  haveI := hS.noEx Try.prog
  refine H.sr 3 (by kernel_rfl) ?_
  refine H.sg (by kernel_rfl) ?_
  refine HO.goP 5 (by kernel_rfl) ?_
  refine HO.boolP (decide (x.1 = x.2.2.2.2.2.1)) (by kernel_rfl) (by kernel_rfl) (fun hb => ?_) (fun hb => ?_)
  rotate_left
  · rw [if_neg (of_decide_eq_false hb)] at h
    refine HO.fin 30 (by kernel_rfl) ?_
    exact H.ren hS [] _ _ _ (by kernel_rfl) (sameM_L1_ok false r h W0 w0 S hS)
  rw [if_pos (of_decide_eq_true hb)] at h
  refine HO.goP 6 (by kernel_rfl) ?_
  refine HO.boolP (decide (x.2.1 = x.2.2.2.2.2.2.1)) (by kernel_rfl) (by kernel_rfl) (fun hb => ?_) (fun hb => ?_)
  rotate_left
  · rw [if_neg (of_decide_eq_false hb)] at h
    refine HO.fin 23 (by kernel_rfl) ?_
    exact H.ren hS [] _ _ _ (by kernel_rfl) (sameM_L1_ok false r h W0 w0 S hS)
  rw [if_pos (of_decide_eq_true hb)] at h
  refine HO.goP 6 (by kernel_rfl) ?_
  refine HO.boolP (decide (x.2.2.1 = x.2.2.2.2.2.2.2.1)) (by kernel_rfl) (by kernel_rfl) (fun hb => ?_) (fun hb => ?_)
  rotate_left
  · rw [if_neg (of_decide_eq_false hb)] at h
    refine HO.fin 16 (by kernel_rfl) ?_
    exact H.ren hS [] _ _ _ (by kernel_rfl) (sameM_L1_ok false r h W0 w0 S hS)
  rw [if_pos (of_decide_eq_true hb)] at h
  refine HO.goP 6 (by kernel_rfl) ?_
  refine HO.boolP (decide (x.2.2.2.1 = x.2.2.2.2.2.2.2.2.1)) (by kernel_rfl) (by kernel_rfl) (fun hb => ?_) (fun hb => ?_)
  rotate_left
  · rw [if_neg (of_decide_eq_false hb)] at h
    refine HO.fin 9 (by kernel_rfl) ?_
    exact H.ren hS [] _ _ _ (by kernel_rfl) (sameM_L1_ok false r h W0 w0 S hS)
  rw [if_pos (of_decide_eq_true hb)] at h
  refine HO.goP 2 (by kernel_rfl) ?_
  refine HO.valA (str_aop x.2.2.2.2.1 (by kernel_rfl)) ?_
  refine HO.goP 2 (by kernel_rfl) ?_
  refine HO.valA (str_aop x.2.2.2.2.2.2.2.2.2 (by kernel_rfl)) ?_
  refine HO.fin 3 (by kernel_rfl) ?_
  exact H.ren hS [] _ _ _ (by kernel_rfl) (sameM_L1_ok (strEq (bytesU x.2.2.2.2.1) (bytesU x.2.2.2.2.2.2.2.2.2)) r h W0 w0 S hS)
def bytesEqual (x : (List Int) × (List Int)) : Option (Bool) :=
  some (strEq (bytesU x.1) (bytesU x.2))
theorem bytesEqual_ok : ∀ (x : (List Int) × (List Int)) (r : Bool), bytesEqual x = some r → ∀ W0 : World, PTo Try.prog W0 71 #[ls 1 false (encI .u8) x.1, ls 1 false (encI .u8) x.2] (.returned (.bool r)) := by
  intro x r h
  unfold bytesEqual at h
  intro W0
  refine PTo.of_body (fn := Try.f71) (code := cB Try.f71) Try.func71 rfl rfl ?_
  intro w0 S hS
  haveI := hS.noEx Try.prog
  refine H.sr 1 (by kernel_rfl) ?_
  refine H.sg (by kernel_rfl) ?_
  refine HO.goP 1 (by kernel_rfl) ?_
  refine HO.valA (str_aop x.1 (by kernel_rfl)) ?_
  refine HO.goP 1 (by kernel_rfl) ?_
  refine HO.valA (str_aop x.2 (by kernel_rfl)) ?_
  refine HO.fin 2 (by kernel_rfl) ?_
  refine H.retP (by kernel_rfl) ?_
  obtain rfl := Option.some.inj h
  exact KEnd.ret (by kernel_rfl) (by kernel_rfl) (by kernel_rfl)
def sameI_L1 (x : Bool) : Option (Bool) :=
  some x
theorem sameI_L1_ok : ∀ (x : Bool) (r : Bool), sameI_L1 x = some r → ∀ (W0 w0 : World) (S : Own), Std W0 w0 S 0 → H Try.prog w0 S 38 (cR (cR (cB Try.f62))) (mkS [(4, .bool x)] [] 0 []) (KEnd Try.prog Try.f62 (PEnd w0 S (.returned (.bool r)))) := by
  intro x r h
  unfold sameI_L1 at h
  intro W0 w0 S hS
  haveI := hS.noEx Try.prog
  refine H.retP (by kernel_rfl) ?_
  obtain rfl := Option.some.inj h
  exact KEnd.ret (by kernel_rfl) (by kernel_rfl) (by kernel_rfl)
mutual
def sameI (x : Int × Int × Bool × (List Int) × (List S78) × Int × Int × Bool × (List Int) × (List S78)) : Option (Bool) :=
  if x.1 = x.2.2.2.2.2.1 then
    if x.2.1 = x.2.2.2.2.2.2.1 then
      if (x.2.2.1 == x.2.2.2.2.2.2.2.1) = true then
        (bytesEqual (x.2.2.2.1, x.2.2.2.2.2.2.2.2.1)) >>= fun y1 =>
        if y1 = true then
          (equalFunc (x.2.2.2.2.1, x.2.2.2.2.2.2.2.2.2)) >>= fun y2 =>
          sameI_L1 y2
        else
          sameI_L1 false
      else
        sameI_L1 false
    else
      sameI_L1 false
  else
    sameI_L1 false
partial_fixpoint
def equalFunc (x : (List S78) × (List S78)) : Option (Bool) :=
  if (!decide ((x.1.length : Int) = (x.2.length : Int))) = true then
    some false
  else
    equalFunc_L1 (x.2, x.1, (x.1.length : Int), 0)
partial_fixpoint
def equalFunc_L1 (x : (List S78) × (List S78) × Int × Int) : Option (Bool) :=
  if x.2.2.2 < x.2.2.1 then
    (at' x.2.1 x.2.2.2) >>= fun y1 =>
    (at' x.1 x.2.2.2) >>= fun y2 =>
    (sameI (y1.c0, y1.c1, y1.c2, y1.c3, y1.c4, y2.c0, y2.c1, y2.c2, y2.c3, y2.c4)) >>= fun y3 =>
    if (!y3) = true then
      some false
    else
      equalFunc_L1 (x.1, x.2.1, x.2.2.1, (IntKind.i64.wrap (x.2.2.2 + 1)))
  else
    some true
partial_fixpoint
end
theorem sameI_grp : (∀ (x : Int × Int × Bool × (List Int) × (List S78) × Int × Int × Bool × (List Int) × (List S78)) (r : Bool), sameI x = some r → ∀ W0 : World, PTo Try.prog W0 62 #[.agg #[.int .u8 x.1, .int .u32 x.2.1, .bool x.2.2.1, ls 1 false (encI .u8) x.2.2.2.1, ls 5 false enc78 x.2.2.2.2.1], .agg #[.int .u8 x.2.2.2.2.2.1, .int .u32 x.2.2.2.2.2.2.1, .bool x.2.2.2.2.2.2.2.1, ls 1 false (encI .u8) x.2.2.2.2.2.2.2.2.1, ls 5 false enc78 x.2.2.2.2.2.2.2.2.2]] (.returned (.bool r))) ∧
  (∀ (x : (List S78) × (List S78)) (r : Bool), equalFunc x = some r → ∀ W0 : World, PTo Try.prog W0 72 #[ls 5 false enc78 x.1, ls 5 false enc78 x.2, .func (.func 62) #[] #[]] (.returned (.bool r))) ∧
  (∀ (x : (List S78) × (List S78) × Int × Int) (r : Bool), equalFunc_L1 x = some r → ∀ (W0 w0 : World) (S : Own), Std W0 w0 S 0 → HL Try.prog w0 S 32 (cL (cL (cR (cL (cR (cR (cB Try.f72))))))) (mkS [(1, ls 5 false enc78 x.1), (2, .func (.func 62) #[] #[]), (15, ls 5 false enc78 x.2.1), (16, .int .i64 x.2.2.1), (17, .int .i64 x.2.2.2)] [] 0 []) (Kblock 0 (Kseq Try.prog w0 S 32 (cR (cR (cR (cB Try.f72)))) (KEnd Try.prog Try.f72 (PEnd w0 S (.returned (.bool r))))))) := by
  refine sameI.mutual_partial_correctness (fun (x : Int × Int × Bool × (List Int) × (List S78) × Int × Int × Bool × (List Int) × (List S78)) (r : Bool) => ∀ W0 : World, PTo Try.prog W0 62 #[.agg #[.int .u8 x.1, .int .u32 x.2.1, .bool x.2.2.1, ls 1 false (encI .u8) x.2.2.2.1, ls 5 false enc78 x.2.2.2.2.1], .agg #[.int .u8 x.2.2.2.2.2.1, .int .u32 x.2.2.2.2.2.2.1, .bool x.2.2.2.2.2.2.2.1, ls 1 false (encI .u8) x.2.2.2.2.2.2.2.2.1, ls 5 false enc78 x.2.2.2.2.2.2.2.2.2]] (.returned (.bool r))) (fun (x : (List S78) × (List S78)) (r : Bool) => ∀ W0 : World, PTo Try.prog W0 72 #[ls 5 false enc78 x.1, ls 5 false enc78 x.2, .func (.func 62) #[] #[]] (.returned (.bool r))) (fun (x : (List S78) × (List S78) × Int × Int) (r : Bool) => ∀ (W0 w0 : World) (S : Own), Std W0 w0 S 0 → HL Try.prog w0 S 32 (cL (cL (cR (cL (cR (cR (cB Try.f72))))))) (mkS [(1, ls 5 false enc78 x.1), (2, .func (.func 62) #[] #[]), (15, ls 5 false enc78 x.2.1), (16, .int .i64 x.2.2.1), (17, .int .i64 x.2.2.2)] [] 0 []) (Kblock 0 (Kseq Try.prog w0 S 32 (cR (cR (cR (cB Try.f72)))) (KEnd Try.prog Try.f72 (PEnd w0 S (.returned (.bool r))))))) ?_ ?_ ?_
  · intro g_equalFunc ih_equalFunc x r h
    intro W0
    refine PTo.of_body (fn := Try.f62) (code := cB Try.f62) Try.func62 rfl rfl ?_
    intro w0 S hS
    haveI := hS.noEx Try.prog
    refine H.sr 3 (by kernel_rfl) ?_
    refine H.sg (by kernel_rfl) ?_
    refine HO.goP 5 (by kernel_rfl) ?_
    refine HO.boolP (decide (x.1 = x.2.2.2.2.2.1)) (by kernel_rfl) (by kernel_rfl) (fun hb => ?_) (fun hb => ?_)
    rotate_left
    · rw [if_neg (of_decide_eq_false hb)] at h
      refine HO.fin 28 (by kernel_rfl) ?_
      exact H.ren hS [] _ _ _ (by kernel_rfl) (sameI_L1_ok false r h W0 w0 S hS)
    rw [if_pos (of_decide_eq_true hb)] at h
    refine HO.goP 6 (by kernel_rfl) ?_
    refine HO.boolP (decide (x.2.1 = x.2.2.2.2.2.2.1)) (by kernel_rfl) (by kernel_rfl) (fun hb => ?_) (fun hb => ?_)
    rotate_left
    · rw [if_neg (of_decide_eq_false hb)] at h
      refine HO.fin 21 (by kernel_rfl) ?_
      exact H.ren hS [] _ _ _ (by kernel_rfl) (sameI_L1_ok false r h W0 w0 S hS)
    rw [if_pos (of_decide_eq_true hb)] at h
    refine HO.goP 6 (by kernel_rfl) ?_
    refine HO.boolP (x.2.2.1 == x.2.2.2.2.2.2.2.1) (by kernel_rfl) (by kernel_rfl) (fun hb => ?_) (fun hb => ?_)
    rotate_left
    · rw [if_neg (ne_true hb)] at h
      refine HO.fin 14 (by kernel_rfl) ?_
      exact H.ren hS [] _ _ _ (by kernel_rfl) (sameI_L1_ok false r h W0 w0 S hS)
    rw [if_pos hb] at h
    refine HO.goP 4 (by kernel_rfl) ?_
    obtain ⟨y1, hy, h⟩ := bindS h
    refine HO.callW hS [.list 1 false, .list 1 false] (bytesEqual_ok (x.2.2.2.1, x.2.2.2.2.2.2.2.2.1) y1 hy W0) (by kernel_rfl) (by kernel_rfl) ?_
    refine HO.goP 1 (by kernel_rfl) ?_
    refine HO.boolP y1 (by kernel_rfl) (by kernel_rfl) (fun hb => ?_) (fun hb => ?_)
    rotate_left
    · rw [if_neg (ne_true hb)] at h
      refine HO.fin 7 (by kernel_rfl) ?_
      exact H.ren hS [] _ _ _ (by kernel_rfl) (sameI_L1_ok false r h W0 w0 S hS)
    rw [if_pos hb] at h
    refine HO.goP 4 (by kernel_rfl) ?_
    obtain ⟨y2, hy, h⟩ := bindS h
    refine HO.callW hS [.list 5 false, .list 5 false, .keep] (ih_equalFunc (x.2.2.2.2.1, x.2.2.2.2.2.2.2.2.2) y2 hy W0) (by kernel_rfl) (by kernel_rfl) ?_
    refine HO.fin 2 (by kernel_rfl) ?_
    exact H.ren hS [] _ _ _ (by kernel_rfl) (sameI_L1_ok y2 r h W0 w0 S hS)
  · intro g_equalFunc_L1 ih_equalFunc_L1 x r h
    intro W0
    refine PTo.of_body (fn := Try.f72) (code := cB Try.f72) Try.func72 rfl rfl ?_
    intro w0 S hS
    haveI := hS.noEx Try.prog
    refine H.sr 1 (by kernel_rfl) ?_
    refine H.seqP (by kernel_rfl) ?_
    refine H.sg (by kernel_rfl) ?_
    refine HO.goP 1 (by kernel_rfl) ?_
    refine HO.len (by kernel_rfl) (by kernel_rfl) (ls_size enc78 x.1) ?_
    refine HO.goP 1 (by kernel_rfl) ?_
    refine HO.len (by kernel_rfl) (by kernel_rfl) (ls_size enc78 x.2) ?_
    refine HO.fin 1 (by kernel_rfl) ?_
    refine H.condS (b := !decide ((x.1.length : Int) = (x.2.length : Int))) (by kernel_rfl) (by kernel_rfl) (fun hb => ?_) (fun hb => ?_)
    · rw [if_pos hb] at h
      refine H.sr 1 (by kernel_rfl) ?_
      refine H.retP (by kernel_rfl) ?_
      refine Kseq_ret ?_
      obtain rfl := Option.some.inj h
      exact KEnd.ret (by kernel_rfl) (by kernel_rfl) (by kernel_rfl)
    rw [if_neg (ne_true hb)] at h
    refine H.skipP (by kernel_rfl) ?_
    refine Kseq_norm ?_
    refine H.seqP (by kernel_rfl) ?_
    refine H.sg (by kernel_rfl) ?_
    refine HO.goP 1 (by kernel_rfl) ?_
    refine HO.len (by kernel_rfl) (by kernel_rfl) (ls_size enc78 x.1) ?_
    refine HO.fin 1 (by kernel_rfl) ?_
    refine H.blockI 0 (by kernel_rfl) ?_
    refine H.loopP (by kernel_rfl) ?_
    exact HL.ren hS [] _ _ _ (by kernel_rfl) (ih_equalFunc_L1 (x.2, x.1, (x.1.length : Int), 0) r h W0 w0 S hS)
  · intro g_sameI g_equalFunc_L1 ih_sameI ih_equalFunc_L1 x r h
    intro W0 w0 S hS
    haveI := hS.noEx Try.prog
    refine HL.round ?_
    refine H.sr 1 (by kernel_rfl) ?_
    refine H.seqP (by kernel_rfl) ?_
    refine H.condS (b := decide (x.2.2.2 < x.2.2.1)) (by kernel_rfl) (by kernel_rfl) (fun hb => ?_) (fun hb => ?_)
    rotate_left
    · rw [if_neg (of_decide_eq_false hb)] at h
      refine H.exitI 0 (by kernel_rfl) ?_
      refine Kseq_exit ?_
      refine Kloop_exit ?_
      refine Kblock_hit ?_
      refine Kseq_norm ?_
      refine H.sr 1 (by kernel_rfl) ?_
      refine H.retP (by kernel_rfl) ?_
      obtain rfl := Option.some.inj h
      exact KEnd.ret (by kernel_rfl) (by kernel_rfl) (by kernel_rfl)
    rw [if_pos (of_decide_eq_true hb)] at h
    refine H.skipP (by kernel_rfl) ?_
    refine Kseq_norm ?_
    refine H.seqP (by kernel_rfl) ?_
    refine H.blockI 1 (by kernel_rfl) ?_
    refine H.sg (by kernel_rfl) ?_
    refine HO.goP 1 (by kernel_rfl) ?_
    obtain ⟨y1, hy, h⟩ := bindS h
    refine HO.idx (.agg #[.int .u8 y1.c0, .int .u32 y1.c1, .bool y1.c2, ls 1 false (encI .u8) y1.c3, ls 5 false enc78 y1.c4]) hy (enc78_eq y1) (by kernel_rfl) ?_
    refine HO.fin 4 (by kernel_rfl) ?_
    refine H.sg (by kernel_rfl) ?_
    refine HO.goP 2 (by kernel_rfl) ?_
    obtain ⟨y2, hy, h⟩ := bindS h
    refine HO.idx (.agg #[.int .u8 y2.c0, .int .u32 y2.c1, .bool y2.c2, ls 1 false (encI .u8) y2.c3, ls 5 false enc78 y2.c4]) hy (enc78_eq y2) (by kernel_rfl) ?_
    refine HO.fin 3 (by kernel_rfl) ?_
    refine H.sg (by kernel_rfl) ?_
    refine HO.goP 3 (by kernel_rfl) ?_
    obtain ⟨y3, hy, h⟩ := bindS h
    refine HO.callW hS [.agg [.keep, .keep, .keep, .list 1 false, .list 5 false], .agg [.keep, .keep, .keep, .list 1 false, .list 5 false]] (ih_sameI (y1.c0, y1.c1, y1.c2, y1.c3, y1.c4, y2.c0, y2.c1, y2.c2, y2.c3, y2.c4) y3 hy W0) (by kernel_rfl) (by kernel_rfl) ?_
    refine HO.fin 1 (by kernel_rfl) ?_
    refine H.condS (b := !y3) (by kernel_rfl) (by kernel_rfl) (fun hb => ?_) (fun hb => ?_)
    rotate_left
    · rw [if_neg (ne_true hb)] at h
      refine H.skipP (by kernel_rfl) ?_
      refine Kblock_norm ?_
      refine Kseq_norm ?_
      refine H.regP (by kernel_rfl) ?_
      refine HO.goP 2 (by kernel_rfl) ?_
      refine HO.done (by kernel_rfl) ?_
      refine Kloop_norm ?_
      exact HL.ren hS [] _ _ _ (by kernel_rfl) (ih_equalFunc_L1 (x.1, x.2.1, x.2.2.1, (IntKind.i64.wrap (x.2.2.2 + 1))) r h W0 w0 S hS)
    rw [if_pos hb] at h
    refine H.sr 1 (by kernel_rfl) ?_
    refine H.retP (by kernel_rfl) ?_
    refine Kblock_ret ?_
    refine Kseq_ret ?_
    refine Kloop_ret ?_
    refine Kblock_ret ?_
    refine Kseq_ret ?_
    obtain rfl := Option.some.inj h
    exact KEnd.ret (by kernel_rfl) (by kernel_rfl) (by kernel_rfl)
theorem sameI_ok : ∀ (x : Int × Int × Bool × (List Int) × (List S78) × Int × Int × Bool × (List Int) × (List S78)) (r : Bool), sameI x = some r → ∀ W0 : World, PTo Try.prog W0 62 #[.agg #[.int .u8 x.1, .int .u32 x.2.1, .bool x.2.2.1, ls 1 false (encI .u8) x.2.2.2.1, ls 5 false enc78 x.2.2.2.2.1], .agg #[.int .u8 x.2.2.2.2.2.1, .int .u32 x.2.2.2.2.2.2.1, .bool x.2.2.2.2.2.2.2.1, ls 1 false (encI .u8) x.2.2.2.2.2.2.2.2.1, ls 5 false enc78 x.2.2.2.2.2.2.2.2.2]] (.returned (.bool r)) := sameI_grp.1
theorem equalFunc_ok : ∀ (x : (List S78) × (List S78)) (r : Bool), equalFunc x = some r → ∀ W0 : World, PTo Try.prog W0 72 #[ls 5 false enc78 x.1, ls 5 false enc78 x.2, .func (.func 62) #[] #[]] (.returned (.bool r)) := sameI_grp.2.1
theorem equalFunc_L1_ok : ∀ (x : (List S78) × (List S78) × Int × Int) (r : Bool), equalFunc_L1 x = some r → ∀ (W0 w0 : World) (S : Own), Std W0 w0 S 0 → HL Try.prog w0 S 32 (cL (cL (cR (cL (cR (cR (cB Try.f72))))))) (mkS [(1, ls 5 false enc78 x.1), (2, .func (.func 62) #[] #[]), (15, ls 5 false enc78 x.2.1), (16, .int .i64 x.2.2.1), (17, .int .i64 x.2.2.2)] [] 0 []) (Kblock 0 (Kseq Try.prog w0 S 32 (cR (cR (cR (cB Try.f72)))) (KEnd Try.prog Try.f72 (PEnd w0 S (.returned (.bool r)))))) := sameI_grp.2.2
def sameT_L1 (x : Bool) : Option (Bool) :=
  some x
theorem sameT_L1_ok : ∀ (x : Bool) (r : Bool), sameT_L1 x = some r → ∀ (W0 w0 : World) (S : Own), Std W0 w0 S 0 → H Try.prog w0 S 18 (cR (cR (cB Try.f37))) (mkS [(4, .bool x)] [] 0 []) (KEnd Try.prog Try.f37 (PEnd w0 S (.returned (.bool r)))) := by
  intro x r h
  unfold sameT_L1 at h
  intro W0 w0 S hS
  haveI := hS.noEx Try.prog
  refine H.retP (by kernel_rfl) ?_
  obtain rfl := Option.some.inj h
  exact KEnd.ret (by kernel_rfl) (by kernel_rfl) (by kernel_rfl)
def sameT (x : Int × Int × Bool × (List Int) × (List S78) × Int × Int × Bool × (List Int) × (List S78)) : Option (Bool) :=
  (check (x.1, x.2.1, x.2.2.1, x.2.2.2.1, x.2.2.2.2.1)) >>= fun y1 =>
  if y1 = 0 then
    (check (x.2.2.2.2.2.1, x.2.2.2.2.2.2.1, x.2.2.2.2.2.2.2.1, x.2.2.2.2.2.2.2.2.1, x.2.2.2.2.2.2.2.2.2)) >>= fun y2 =>
    if y2 = 0 then
      (sameI (x.1, x.2.1, x.2.2.1, x.2.2.2.1, x.2.2.2.2.1, x.2.2.2.2.2.1, x.2.2.2.2.2.2.1, x.2.2.2.2.2.2.2.1, x.2.2.2.2.2.2.2.2.1, x.2.2.2.2.2.2.2.2.2)) >>= fun y3 =>
      sameT_L1 y3
    else
      sameT_L1 false
  else
    sameT_L1 false
theorem sameT_ok : ∀ (x : Int × Int × Bool × (List Int) × (List S78) × Int × Int × Bool × (List Int) × (List S78)) (r : Bool), sameT x = some r → ∀ W0 : World, PTo Try.prog W0 37 #[.agg #[.int .u8 x.1, .int .u32 x.2.1, .bool x.2.2.1, ls 1 false (encI .u8) x.2.2.2.1, ls 5 false enc78 x.2.2.2.2.1], .agg #[.int .u8 x.2.2.2.2.2.1, .int .u32 x.2.2.2.2.2.2.1, .bool x.2.2.2.2.2.2.2.1, ls 1 false (encI .u8) x.2.2.2.2.2.2.2.2.1, ls 5 false enc78 x.2.2.2.2.2.2.2.2.2]] (.returned (.bool r)) := by
  intro x r h
  unfold sameT at h
  intro W0
  refine PTo.of_body (fn := Try.f37) (code := cB Try.f37) Try.func37 rfl rfl ?_
  intro w0 S hS
  haveI := hS.noEx Try.prog
  refine H.sr 3 (by kernel_rfl) ?_
  refine H.sg (by kernel_rfl) ?_
  refine HO.goP 1 (by kernel_rfl) ?_
  obtain ⟨y1, hy, h⟩ := bindS h
  refine HO.callW hS [.agg [.keep, .keep, .keep, .list 1 false, .list 5 false]] (check_ok (x.1, x.2.1, x.2.2.1, x.2.2.2.1, x.2.2.2.2.1) y1 hy W0) (by kernel_rfl) (by kernel_rfl) ?_
  refine HO.goP 1 (by kernel_rfl) ?_
  refine HO.boolP (decide (y1 = 0)) (by kernel_rfl) (by kernel_rfl) (fun hb => ?_) (fun hb => ?_)
  rotate_left
  · rw [if_neg (of_decide_eq_false hb)] at h
    refine HO.fin 10 (by kernel_rfl) ?_
    exact H.ren hS [] _ _ _ (by kernel_rfl) (sameT_L1_ok false r h W0 w0 S hS)
  rw [if_pos (of_decide_eq_true hb)] at h
  refine HO.goP 1 (by kernel_rfl) ?_
  obtain ⟨y2, hy, h⟩ := bindS h
  refine HO.callW hS [.agg [.keep, .keep, .keep, .list 1 false, .list 5 false]] (check_ok (x.2.2.2.2.2.1, x.2.2.2.2.2.2.1, x.2.2.2.2.2.2.2.1, x.2.2.2.2.2.2.2.2.1, x.2.2.2.2.2.2.2.2.2) y2 hy W0) (by kernel_rfl) (by kernel_rfl) ?_
  refine HO.goP 2 (by kernel_rfl) ?_
  refine HO.boolP (decide (y2 = 0)) (by kernel_rfl) (by kernel_rfl) (fun hb => ?_) (fun hb => ?_)
  rotate_left
  · rw [if_neg (of_decide_eq_false hb)] at h
    refine HO.fin 5 (by kernel_rfl) ?_
    exact H.ren hS [] _ _ _ (by kernel_rfl) (sameT_L1_ok false r h W0 w0 S hS)
  rw [if_pos (of_decide_eq_true hb)] at h
  refine HO.goP 2 (by kernel_rfl) ?_
  obtain ⟨y3, hy, h⟩ := bindS h
  refine HO.callW hS [.agg [.keep, .keep, .keep, .list 1 false, .list 5 false], .agg [.keep, .keep, .keep, .list 1 false, .list 5 false]] (sameI_ok (x.1, x.2.1, x.2.2.1, x.2.2.2.1, x.2.2.2.2.1, x.2.2.2.2.2.1, x.2.2.2.2.2.2.1, x.2.2.2.2.2.2.2.1, x.2.2.2.2.2.2.2.2.1, x.2.2.2.2.2.2.2.2.2) y3 hy W0) (by kernel_rfl) (by kernel_rfl) ?_
  refine HO.fin 2 (by kernel_rfl) ?_
  exact H.ren hS [] _ _ _ (by kernel_rfl) (sameT_L1_ok y3 r h W0 w0 S hS)
def isM_L4 (x : Bool) : Option (Bool) :=
  some x
theorem isM_L4_ok : ∀ (x : Bool) (r : Bool), isM_L4 x = some r → ∀ (W0 w0 : World) (S : Own), Std W0 w0 S 0 → H Try.prog w0 S 77 (cR (cR (cR (cR (cB Try.f36))))) (mkS [(2, .bool x)] [] 0 []) (KEnd Try.prog Try.f36 (PEnd w0 S (.returned (.bool r)))) := by
  intro x r h
  unfold isM_L4 at h
  intro W0 w0 S hS
  haveI := hS.noEx Try.prog
  refine H.retP (by kernel_rfl) ?_
  obtain rfl := Option.some.inj h
  exact KEnd.ret (by kernel_rfl) (by kernel_rfl) (by kernel_rfl)
mutual
def isM_L3 (x : Int × Bool × Int × Int × Bool × (List Int) × (List S78) × Int × Int × Int × Int × (List Int)) : Option (Bool) :=
  if x.2.1 = true then
    some false
  else
    isM_L1 ((IntKind.i64.wrap (x.1 + 1)), x.2.2.1, x.2.2.2.1, x.2.2.2.2.1, x.2.2.2.2.2.1, x.2.2.2.2.2.2.1, x.2.2.2.2.2.2.2.1, x.2.2.2.2.2.2.2.2.1, x.2.2.2.2.2.2.2.2.2.1, x.2.2.2.2.2.2.2.2.2.2.1, x.2.2.2.2.2.2.2.2.2.2.2)
partial_fixpoint
def isM_L1 (x : Int × Int × Int × Bool × (List Int) × (List S78) × Int × Int × Int × Int × (List Int)) : Option (Bool) :=
  if x.1 < (x.2.2.2.2.2.1.length : Int) then
    (at' x.2.2.2.2.2.1 x.1) >>= fun y1 =>
    (toInt y1.c3) >>= fun y2 =>
    (at' x.2.2.2.2.2.1 x.1) >>= fun y3 =>
    if y3.c1 = 0 then
      isM_L2 (x.1, y2.2, x.2.1, x.2.2.1, x.2.2.2.1, x.2.2.2.2.1, x.2.2.2.2.2.1, x.2.2.2.2.2.2.1, (IntKind.u32.wrap y2.1), x.2.2.2.2.2.2.2.2.1, x.2.2.2.2.2.2.2.2.2.1, x.2.2.2.2.2.2.2.2.2.2)
    else
      if y3.c1 = 1 then
        isM_L2 (x.1, y2.2, x.2.1, x.2.2.1, x.2.2.2.1, x.2.2.2.2.1, x.2.2.2.2.2.1, x.2.2.2.2.2.2.1, x.2.2.2.2.2.2.2.1, (IntKind.u32.wrap y2.1), x.2.2.2.2.2.2.2.2.2.1, x.2.2.2.2.2.2.2.2.2.2)
      else
        if y3.c1 = 2 then
          isM_L2 (x.1, y2.2, x.2.1, x.2.2.1, x.2.2.2.1, x.2.2.2.2.1, x.2.2.2.2.2.1, x.2.2.2.2.2.2.1, x.2.2.2.2.2.2.2.1, x.2.2.2.2.2.2.2.2.1, (IntKind.u8.wrap y2.1), x.2.2.2.2.2.2.2.2.2.2)
        else
          (at' x.2.2.2.2.2.1 x.1) >>= fun y4 =>
          isM_L2 (x.1, y2.2, x.2.1, x.2.2.1, x.2.2.2.1, x.2.2.2.2.1, x.2.2.2.2.2.1, x.2.2.2.2.2.2.1, x.2.2.2.2.2.2.2.1, x.2.2.2.2.2.2.2.2.1, x.2.2.2.2.2.2.2.2.2.1, y4.c3)
  else
    (lawCheck (x.2.2.2.2.2.2.1, x.2.2.2.2.2.2.2.1, x.2.2.2.2.2.2.2.2.1, x.2.2.2.2.2.2.2.2.2.1, x.2.2.2.2.2.2.2.2.2.2)) >>= fun y6 =>
    if y6 = 0 then
      (lawTree (x.2.2.2.2.2.2.1, x.2.2.2.2.2.2.2.1, x.2.2.2.2.2.2.2.2.1, x.2.2.2.2.2.2.2.2.2.1, x.2.2.2.2.2.2.2.2.2.2)) >>= fun y7 =>
      (sameT (y7.1, y7.2.1, y7.2.2.1, y7.2.2.2.1, y7.2.2.2.2, x.2.1, x.2.2.1, x.2.2.2.1, x.2.2.2.2.1, x.2.2.2.2.2.1)) >>= fun y8 =>
      isM_L4 y8
    else
      isM_L4 false
partial_fixpoint
def isM_L2 (x : Int × Int × Int × Int × Bool × (List Int) × (List S78) × Int × Int × Int × Int × (List Int)) : Option (Bool) :=
  (at' x.2.2.2.2.2.2.1 x.1) >>= fun y5 =>
  if y5.c1 < 3 then
    isM_L3 (x.1, (!decide (x.2.1 = 0)), x.2.2.1, x.2.2.2.1, x.2.2.2.2.1, x.2.2.2.2.2.1, x.2.2.2.2.2.2.1, x.2.2.2.2.2.2.2.1, x.2.2.2.2.2.2.2.2.1, x.2.2.2.2.2.2.2.2.2.1, x.2.2.2.2.2.2.2.2.2.2.1, x.2.2.2.2.2.2.2.2.2.2.2)
  else
    isM_L3 (x.1, false, x.2.2.1, x.2.2.2.1, x.2.2.2.2.1, x.2.2.2.2.2.1, x.2.2.2.2.2.2.1, x.2.2.2.2.2.2.2.1, x.2.2.2.2.2.2.2.2.1, x.2.2.2.2.2.2.2.2.2.1, x.2.2.2.2.2.2.2.2.2.2.1, x.2.2.2.2.2.2.2.2.2.2.2)
partial_fixpoint
end
theorem isM_L3_grp : (∀ (x : Int × Bool × Int × Int × Bool × (List Int) × (List S78) × Int × Int × Int × Int × (List Int)) (r : Bool), isM_L3 x = some r → ∀ (W0 w0 : World) (S : Own), Std W0 w0 S 0 → H Try.prog w0 S 77 (cR (cR (cR (cL (cL (cR (cL (cL (cR (cL (cR (cR (cB Try.f36))))))))))))) (mkS [(1, .pointer (some ⟨0, 0, none⟩)), (3, .pointer (some ⟨1, 0, none⟩)), (4, .int .i64 x.1), (67, .bool x.2.1)] [(0, .cells [.int .u8 x.2.2.1, .int .u32 x.2.2.2.1, .bool x.2.2.2.2.1, ls 1 false (encI .u8) x.2.2.2.2.2.1, ls 5 false enc78 x.2.2.2.2.2.2.1] 78 5), (1, .cells [.int .u8 x.2.2.2.2.2.2.2.1, .int .u32 x.2.2.2.2.2.2.2.2.1, .int .u32 x.2.2.2.2.2.2.2.2.2.1, .int .u8 x.2.2.2.2.2.2.2.2.2.2.1, ls 1 false (encI .u8) x.2.2.2.2.2.2.2.2.2.2.2] 46 5)] 2 []) (Kblock 1 (Kseq Try.prog w0 S 77 (cR (cR (cL (cL (cR (cL (cR (cR (cB Try.f36))))))))) (Kloop Try.prog w0 S 77 (cL (cL (cR (cL (cR (cR (cB Try.f36))))))) (Kblock 0 (Kseq Try.prog w0 S 77 (cR (cR (cR (cB Try.f36)))) (KEnd Try.prog Try.f36 (PEnd w0 S (.returned (.bool r)))))))))) ∧
  (∀ (x : Int × Int × Int × Bool × (List Int) × (List S78) × Int × Int × Int × Int × (List Int)) (r : Bool), isM_L1 x = some r → ∀ (W0 w0 : World) (S : Own), Std W0 w0 S 0 → HL Try.prog w0 S 77 (cL (cL (cR (cL (cR (cR (cB Try.f36))))))) (mkS [(1, .pointer (some ⟨0, 0, none⟩)), (3, .pointer (some ⟨1, 0, none⟩)), (4, .int .i64 x.1)] [(0, .cells [.int .u8 x.2.1, .int .u32 x.2.2.1, .bool x.2.2.2.1, ls 1 false (encI .u8) x.2.2.2.2.1, ls 5 false enc78 x.2.2.2.2.2.1] 78 5), (1, .cells [.int .u8 x.2.2.2.2.2.2.1, .int .u32 x.2.2.2.2.2.2.2.1, .int .u32 x.2.2.2.2.2.2.2.2.1, .int .u8 x.2.2.2.2.2.2.2.2.2.1, ls 1 false (encI .u8) x.2.2.2.2.2.2.2.2.2.2] 46 5)] 2 []) (Kblock 0 (Kseq Try.prog w0 S 77 (cR (cR (cR (cB Try.f36)))) (KEnd Try.prog Try.f36 (PEnd w0 S (.returned (.bool r))))))) ∧
  (∀ (x : Int × Int × Int × Int × Bool × (List Int) × (List S78) × Int × Int × Int × Int × (List Int)) (r : Bool), isM_L2 x = some r → ∀ (W0 w0 : World) (S : Own), Std W0 w0 S 0 → H Try.prog w0 S 77 (cR (cR (cL (cL (cR (cL (cL (cR (cL (cR (cR (cB Try.f36)))))))))))) (mkS [(1, .pointer (some ⟨0, 0, none⟩)), (3, .pointer (some ⟨1, 0, none⟩)), (4, .int .i64 x.1), (6, .int .i64 x.2.1)] [(0, .cells [.int .u8 x.2.2.1, .int .u32 x.2.2.2.1, .bool x.2.2.2.2.1, ls 1 false (encI .u8) x.2.2.2.2.2.1, ls 5 false enc78 x.2.2.2.2.2.2.1] 78 5), (1, .cells [.int .u8 x.2.2.2.2.2.2.2.1, .int .u32 x.2.2.2.2.2.2.2.2.1, .int .u32 x.2.2.2.2.2.2.2.2.2.1, .int .u8 x.2.2.2.2.2.2.2.2.2.2.1, ls 1 false (encI .u8) x.2.2.2.2.2.2.2.2.2.2.2] 46 5)] 2 []) (Kblock 1 (Kseq Try.prog w0 S 77 (cR (cR (cL (cL (cR (cL (cR (cR (cB Try.f36))))))))) (Kloop Try.prog w0 S 77 (cL (cL (cR (cL (cR (cR (cB Try.f36))))))) (Kblock 0 (Kseq Try.prog w0 S 77 (cR (cR (cR (cB Try.f36)))) (KEnd Try.prog Try.f36 (PEnd w0 S (.returned (.bool r)))))))))) := by
  refine isM_L3.mutual_partial_correctness (fun (x : Int × Bool × Int × Int × Bool × (List Int) × (List S78) × Int × Int × Int × Int × (List Int)) (r : Bool) => ∀ (W0 w0 : World) (S : Own), Std W0 w0 S 0 → H Try.prog w0 S 77 (cR (cR (cR (cL (cL (cR (cL (cL (cR (cL (cR (cR (cB Try.f36))))))))))))) (mkS [(1, .pointer (some ⟨0, 0, none⟩)), (3, .pointer (some ⟨1, 0, none⟩)), (4, .int .i64 x.1), (67, .bool x.2.1)] [(0, .cells [.int .u8 x.2.2.1, .int .u32 x.2.2.2.1, .bool x.2.2.2.2.1, ls 1 false (encI .u8) x.2.2.2.2.2.1, ls 5 false enc78 x.2.2.2.2.2.2.1] 78 5), (1, .cells [.int .u8 x.2.2.2.2.2.2.2.1, .int .u32 x.2.2.2.2.2.2.2.2.1, .int .u32 x.2.2.2.2.2.2.2.2.2.1, .int .u8 x.2.2.2.2.2.2.2.2.2.2.1, ls 1 false (encI .u8) x.2.2.2.2.2.2.2.2.2.2.2] 46 5)] 2 []) (Kblock 1 (Kseq Try.prog w0 S 77 (cR (cR (cL (cL (cR (cL (cR (cR (cB Try.f36))))))))) (Kloop Try.prog w0 S 77 (cL (cL (cR (cL (cR (cR (cB Try.f36))))))) (Kblock 0 (Kseq Try.prog w0 S 77 (cR (cR (cR (cB Try.f36)))) (KEnd Try.prog Try.f36 (PEnd w0 S (.returned (.bool r)))))))))) (fun (x : Int × Int × Int × Bool × (List Int) × (List S78) × Int × Int × Int × Int × (List Int)) (r : Bool) => ∀ (W0 w0 : World) (S : Own), Std W0 w0 S 0 → HL Try.prog w0 S 77 (cL (cL (cR (cL (cR (cR (cB Try.f36))))))) (mkS [(1, .pointer (some ⟨0, 0, none⟩)), (3, .pointer (some ⟨1, 0, none⟩)), (4, .int .i64 x.1)] [(0, .cells [.int .u8 x.2.1, .int .u32 x.2.2.1, .bool x.2.2.2.1, ls 1 false (encI .u8) x.2.2.2.2.1, ls 5 false enc78 x.2.2.2.2.2.1] 78 5), (1, .cells [.int .u8 x.2.2.2.2.2.2.1, .int .u32 x.2.2.2.2.2.2.2.1, .int .u32 x.2.2.2.2.2.2.2.2.1, .int .u8 x.2.2.2.2.2.2.2.2.2.1, ls 1 false (encI .u8) x.2.2.2.2.2.2.2.2.2.2] 46 5)] 2 []) (Kblock 0 (Kseq Try.prog w0 S 77 (cR (cR (cR (cB Try.f36)))) (KEnd Try.prog Try.f36 (PEnd w0 S (.returned (.bool r))))))) (fun (x : Int × Int × Int × Int × Bool × (List Int) × (List S78) × Int × Int × Int × Int × (List Int)) (r : Bool) => ∀ (W0 w0 : World) (S : Own), Std W0 w0 S 0 → H Try.prog w0 S 77 (cR (cR (cL (cL (cR (cL (cL (cR (cL (cR (cR (cB Try.f36)))))))))))) (mkS [(1, .pointer (some ⟨0, 0, none⟩)), (3, .pointer (some ⟨1, 0, none⟩)), (4, .int .i64 x.1), (6, .int .i64 x.2.1)] [(0, .cells [.int .u8 x.2.2.1, .int .u32 x.2.2.2.1, .bool x.2.2.2.2.1, ls 1 false (encI .u8) x.2.2.2.2.2.1, ls 5 false enc78 x.2.2.2.2.2.2.1] 78 5), (1, .cells [.int .u8 x.2.2.2.2.2.2.2.1, .int .u32 x.2.2.2.2.2.2.2.2.1, .int .u32 x.2.2.2.2.2.2.2.2.2.1, .int .u8 x.2.2.2.2.2.2.2.2.2.2.1, ls 1 false (encI .u8) x.2.2.2.2.2.2.2.2.2.2.2] 46 5)] 2 []) (Kblock 1 (Kseq Try.prog w0 S 77 (cR (cR (cL (cL (cR (cL (cR (cR (cB Try.f36))))))))) (Kloop Try.prog w0 S 77 (cL (cL (cR (cL (cR (cR (cB Try.f36))))))) (Kblock 0 (Kseq Try.prog w0 S 77 (cR (cR (cR (cB Try.f36)))) (KEnd Try.prog Try.f36 (PEnd w0 S (.returned (.bool r)))))))))) ?_ ?_ ?_
  · intro g_isM_L1 ih_isM_L1 x r h
    intro W0 w0 S hS
    haveI := hS.noEx Try.prog
    refine H.condS (b := x.2.1) (by kernel_rfl) (by kernel_rfl) (fun hb => ?_) (fun hb => ?_)
    rotate_left
    · rw [if_neg (ne_true hb)] at h
      refine H.skipP (by kernel_rfl) ?_
      refine Kblock_norm ?_
      refine Kseq_norm ?_
      refine H.regP (by kernel_rfl) ?_
      refine HO.goP 3 (by kernel_rfl) ?_
      refine HO.done (by kernel_rfl) ?_
      refine Kloop_norm ?_
      exact HL.ren hS [0, 1] _ _ _ (by kernel_rfl) (ih_isM_L1 ((IntKind.i64.wrap (x.1 + 1)), x.2.2.1, x.2.2.2.1, x.2.2.2.2.1, x.2.2.2.2.2.1, x.2.2.2.2.2.2.1, x.2.2.2.2.2.2.2.1, x.2.2.2.2.2.2.2.2.1, x.2.2.2.2.2.2.2.2.2.1, x.2.2.2.2.2.2.2.2.2.2.1, x.2.2.2.2.2.2.2.2.2.2.2) r h W0 w0 S hS)
    rw [if_pos hb] at h
    refine H.sr 1 (by kernel_rfl) ?_
    refine H.retP (by kernel_rfl) ?_
    refine Kblock_ret ?_
    refine Kseq_ret ?_
    refine Kloop_ret ?_
    refine Kblock_ret ?_
    refine Kseq_ret ?_
    obtain rfl := Option.some.inj h
    exact KEnd.ret (by kernel_rfl) (by kernel_rfl) (by kernel_rfl)
  · intro g_isM_L2 ih_isM_L2 x r h
    intro W0 w0 S hS
    haveI := hS.noEx Try.prog
    refine HL.round ?_
    refine H.seqP (by kernel_rfl) ?_
    refine H.sg (by kernel_rfl) ?_
    refine HO.goP 3 (by kernel_rfl) ?_
    refine HO.len (by kernel_rfl) (by kernel_rfl) (ls_size enc78 x.2.2.2.2.2.1) ?_
    refine HO.fin 1 (by kernel_rfl) ?_
    refine H.condS (b := decide (x.1 < (x.2.2.2.2.2.1.length : Int))) (by kernel_rfl) (by kernel_rfl) (fun hb => ?_) (fun hb => ?_)
    rotate_left
    · rw [if_neg (of_decide_eq_false hb)] at h
      refine H.exitI 0 (by kernel_rfl) ?_
      refine Kseq_exit ?_
      refine Kloop_exit ?_
      refine Kblock_hit ?_
      refine Kseq_norm ?_
      refine H.seqP (by kernel_rfl) ?_
      refine H.drawQ ?_
      refine HQ.goP 1 (by kernel_rfl) ?_
      obtain ⟨y6, hy, h⟩ := bindS h
      refine HQ.callW hS [.agg [.keep, .keep, .keep, .keep, .list 1 false]] (lawCheck_ok (x.2.2.2.2.2.2.1, x.2.2.2.2.2.2.2.1, x.2.2.2.2.2.2.2.2.1, x.2.2.2.2.2.2.2.2.2.1, x.2.2.2.2.2.2.2.2.2.2) y6 hy W0) (by kernel_rfl) (by kernel_rfl) ?_
      refine HQ.goP 1 (by kernel_rfl) ?_
      refine HQ.boolP (decide (y6 = 0)) (by kernel_rfl) (by kernel_rfl) (fun hb => ?_) (fun hb => ?_)
      rotate_left
      · rw [if_neg (of_decide_eq_false hb)] at h
        refine HQ.goP 6 (by kernel_rfl) ?_
        refine HQ.calm (by kernel_rfl) (by kernel_rfl) (by kernel_rfl) (by kernel_rfl) ?_
        refine Kseq_norm ?_
        exact H.ren hS [] _ _ _ (by kernel_rfl) (isM_L4_ok false r h W0 w0 S hS)
      rw [if_pos (of_decide_eq_true hb)] at h
      refine HQ.goP 1 (by kernel_rfl) ?_
      obtain ⟨y7, hy, h⟩ := bindS h
      refine HQ.callW hS [.agg [.keep, .keep, .keep, .keep, .list 1 false]] (lawTree_ok (x.2.2.2.2.2.2.1, x.2.2.2.2.2.2.2.1, x.2.2.2.2.2.2.2.2.1, x.2.2.2.2.2.2.2.2.2.1, x.2.2.2.2.2.2.2.2.2.2) y7 hy W0) (by kernel_rfl) (by kernel_rfl) ?_
      refine HQ.goP 1 (by kernel_rfl) ?_
      obtain ⟨y8, hy, h⟩ := bindS h
      refine HQ.callW hS [.agg [.keep, .keep, .keep, .list 1 false, .list 5 false], .agg [.keep, .keep, .keep, .list 1 false, .list 5 false]] (sameT_ok (y7.1, y7.2.1, y7.2.2.1, y7.2.2.2.1, y7.2.2.2.2, x.2.1, x.2.2.1, x.2.2.2.1, x.2.2.2.2.1, x.2.2.2.2.2.1) y8 hy W0) (by kernel_rfl) (by kernel_rfl) ?_
      refine HQ.goP 2 (by kernel_rfl) ?_
      refine HQ.calm (by kernel_rfl) (by kernel_rfl) (by kernel_rfl) (by kernel_rfl) ?_
      refine Kseq_norm ?_
      exact H.ren hS [] _ _ _ (by kernel_rfl) (isM_L4_ok y8 r h W0 w0 S hS)
    rw [if_pos (of_decide_eq_true hb)] at h
    refine H.skipP (by kernel_rfl) ?_
    refine Kseq_norm ?_
    refine H.seqP (by kernel_rfl) ?_
    refine H.blockI 1 (by kernel_rfl) ?_
    refine H.sg (by kernel_rfl) ?_
    refine HO.goP 3 (by kernel_rfl) ?_
    obtain ⟨y1, hy, h⟩ := bindS h
    refine HO.idx (.agg #[.int .u8 y1.c0, .int .u32 y1.c1, .bool y1.c2, ls 1 false (encI .u8) y1.c3, ls 5 false enc78 y1.c4]) hy (enc78_eq y1) (by kernel_rfl) ?_
    refine HO.goP 2 (by kernel_rfl) ?_
    obtain ⟨y2, hy, h⟩ := bindS h
    refine HO.callW hS [.list 1 false] (toInt_ok y1.c3 y2 hy W0) (by kernel_rfl) (by kernel_rfl) ?_
    refine HO.fin 5 (by kernel_rfl) ?_
    refine H.seqP (by kernel_rfl) ?_
    refine H.sg (by kernel_rfl) ?_
    refine HO.goP 3 (by kernel_rfl) ?_
    obtain ⟨y3, hy, h⟩ := bindS h
    refine HO.idx (.agg #[.int .u8 y3.c0, .int .u32 y3.c1, .bool y3.c2, ls 1 false (encI .u8) y3.c3, ls 5 false enc78 y3.c4]) hy (enc78_eq y3) (by kernel_rfl) ?_
    refine HO.fin 2 (by kernel_rfl) ?_
    refine H.blockI 2 (by kernel_rfl) ?_
    refine H.sr 2 (by kernel_rfl) ?_
    refine H.condS (b := decide (y3.c1 = 0)) (by kernel_rfl) (by kernel_rfl) (fun hb => ?_) (fun hb => ?_)
    · rw [if_pos (of_decide_eq_true hb)] at h
      refine H.regP (by kernel_rfl) ?_
      refine HO.goP 4 (by kernel_rfl) ?_
      refine HO.done (by kernel_rfl) ?_
      refine Kblock_norm ?_
      refine Kseq_norm ?_
      exact H.ren hS [0, 1] _ _ _ (by kernel_rfl) (ih_isM_L2 (x.1, y2.2, x.2.1, x.2.2.1, x.2.2.2.1, x.2.2.2.2.1, x.2.2.2.2.2.1, x.2.2.2.2.2.2.1, (IntKind.u32.wrap y2.1), x.2.2.2.2.2.2.2.2.1, x.2.2.2.2.2.2.2.2.2.1, x.2.2.2.2.2.2.2.2.2.2) r h W0 w0 S hS)
    rw [if_neg (of_decide_eq_false hb)] at h
    refine H.sr 2 (by kernel_rfl) ?_
    refine H.condS (b := decide (y3.c1 = 1)) (by kernel_rfl) (by kernel_rfl) (fun hb => ?_) (fun hb => ?_)
    · rw [if_pos (of_decide_eq_true hb)] at h
      refine H.regP (by kernel_rfl) ?_
      refine HO.goP 4 (by kernel_rfl) ?_
      refine HO.done (by kernel_rfl) ?_
      refine Kblock_norm ?_
      refine Kseq_norm ?_
      exact H.ren hS [0, 1] _ _ _ (by kernel_rfl) (ih_isM_L2 (x.1, y2.2, x.2.1, x.2.2.1, x.2.2.2.1, x.2.2.2.2.1, x.2.2.2.2.2.1, x.2.2.2.2.2.2.1, x.2.2.2.2.2.2.2.1, (IntKind.u32.wrap y2.1), x.2.2.2.2.2.2.2.2.2.1, x.2.2.2.2.2.2.2.2.2.2) r h W0 w0 S hS)
    rw [if_neg (of_decide_eq_false hb)] at h
    refine H.sr 2 (by kernel_rfl) ?_
    refine H.condS (b := decide (y3.c1 = 2)) (by kernel_rfl) (by kernel_rfl) (fun hb => ?_) (fun hb => ?_)
    · rw [if_pos (of_decide_eq_true hb)] at h
      refine H.regP (by kernel_rfl) ?_
      refine HO.goP 4 (by kernel_rfl) ?_
      refine HO.done (by kernel_rfl) ?_
      refine Kblock_norm ?_
      refine Kseq_norm ?_
      exact H.ren hS [0, 1] _ _ _ (by kernel_rfl) (ih_isM_L2 (x.1, y2.2, x.2.1, x.2.2.1, x.2.2.2.1, x.2.2.2.2.1, x.2.2.2.2.2.1, x.2.2.2.2.2.2.1, x.2.2.2.2.2.2.2.1, x.2.2.2.2.2.2.2.2.1, (IntKind.u8.wrap y2.1), x.2.2.2.2.2.2.2.2.2.2) r h W0 w0 S hS)
    rw [if_neg (of_decide_eq_false hb)] at h
    refine H.regP (by kernel_rfl) ?_
    refine HO.goP 3 (by kernel_rfl) ?_
    obtain ⟨y4, hy, h⟩ := bindS h
    refine HO.idx (.agg #[.int .u8 y4.c0, .int .u32 y4.c1, .bool y4.c2, ls 1 false (encI .u8) y4.c3, ls 5 false enc78 y4.c4]) hy (enc78_eq y4) (by kernel_rfl) ?_
    refine HO.goP 4 (by kernel_rfl) ?_
    refine HO.done (by kernel_rfl) ?_
    refine Kblock_norm ?_
    refine Kseq_norm ?_
    exact H.ren hS [0, 1] _ _ _ (by kernel_rfl) (ih_isM_L2 (x.1, y2.2, x.2.1, x.2.2.1, x.2.2.2.1, x.2.2.2.2.1, x.2.2.2.2.2.1, x.2.2.2.2.2.2.1, x.2.2.2.2.2.2.2.1, x.2.2.2.2.2.2.2.2.1, x.2.2.2.2.2.2.2.2.2.1, y4.c3) r h W0 w0 S hS)
  · intro g_isM_L3 ih_isM_L3 x r h
    intro W0 w0 S hS
    haveI := hS.noEx Try.prog
    refine H.sg (by kernel_rfl) ?_
    refine HO.goP 3 (by kernel_rfl) ?_
    obtain ⟨y5, hy, h⟩ := bindS h
    refine HO.idx (.agg #[.int .u8 y5.c0, .int .u32 y5.c1, .bool y5.c2, ls 1 false (encI .u8) y5.c3, ls 5 false enc78 y5.c4]) hy (enc78_eq y5) (by kernel_rfl) ?_
    refine HO.goP 3 (by kernel_rfl) ?_
    refine HO.boolP (decide (y5.c1 < 3)) (by kernel_rfl) (by kernel_rfl) (fun hb => ?_) (fun hb => ?_)
    · rw [if_pos (of_decide_eq_true hb)] at h
      refine HO.fin 3 (by kernel_rfl) ?_
      exact H.ren hS [0, 1] _ _ _ (by kernel_rfl) (ih_isM_L3 (x.1, (!decide (x.2.1 = 0)), x.2.2.1, x.2.2.2.1, x.2.2.2.2.1, x.2.2.2.2.2.1, x.2.2.2.2.2.2.1, x.2.2.2.2.2.2.2.1, x.2.2.2.2.2.2.2.2.1, x.2.2.2.2.2.2.2.2.2.1, x.2.2.2.2.2.2.2.2.2.2.1, x.2.2.2.2.2.2.2.2.2.2.2) r h W0 w0 S hS)
    rw [if_neg (of_decide_eq_false hb)] at h
    refine HO.fin 3 (by kernel_rfl) ?_
    exact H.ren hS [0, 1] _ _ _ (by kernel_rfl) (ih_isM_L3 (x.1, false, x.2.2.1, x.2.2.2.1, x.2.2.2.2.1, x.2.2.2.2.2.1, x.2.2.2.2.2.2.1, x.2.2.2.2.2.2.2.1, x.2.2.2.2.2.2.2.2.1, x.2.2.2.2.2.2.2.2.2.1, x.2.2.2.2.2.2.2.2.2.2.1, x.2.2.2.2.2.2.2.2.2.2.2) r h W0 w0 S hS)
theorem isM_L3_ok : ∀ (x : Int × Bool × Int × Int × Bool × (List Int) × (List S78) × Int × Int × Int × Int × (List Int)) (r : Bool), isM_L3 x = some r → ∀ (W0 w0 : World) (S : Own), Std W0 w0 S 0 → H Try.prog w0 S 77 (cR (cR (cR (cL (cL (cR (cL (cL (cR (cL (cR (cR (cB Try.f36))))))))))))) (mkS [(1, .pointer (some ⟨0, 0, none⟩)), (3, .pointer (some ⟨1, 0, none⟩)), (4, .int .i64 x.1), (67, .bool x.2.1)] [(0, .cells [.int .u8 x.2.2.1, .int .u32 x.2.2.2.1, .bool x.2.2.2.2.1, ls 1 false (encI .u8) x.2.2.2.2.2.1, ls 5 false enc78 x.2.2.2.2.2.2.1] 78 5), (1, .cells [.int .u8 x.2.2.2.2.2.2.2.1, .int .u32 x.2.2.2.2.2.2.2.2.1, .int .u32 x.2.2.2.2.2.2.2.2.2.1, .int .u8 x.2.2.2.2.2.2.2.2.2.2.1, ls 1 false (encI .u8) x.2.2.2.2.2.2.2.2.2.2.2] 46 5)] 2 []) (Kblock 1 (Kseq Try.prog w0 S 77 (cR (cR (cL (cL (cR (cL (cR (cR (cB Try.f36))))))))) (Kloop Try.prog w0 S 77 (cL (cL (cR (cL (cR (cR (cB Try.f36))))))) (Kblock 0 (Kseq Try.prog w0 S 77 (cR (cR (cR (cB Try.f36)))) (KEnd Try.prog Try.f36 (PEnd w0 S (.returned (.bool r))))))))) := isM_L3_grp.1
theorem isM_L1_ok : ∀ (x : Int × Int × Int × Bool × (List Int) × (List S78) × Int × Int × Int × Int × (List Int)) (r : Bool), isM_L1 x = some r → ∀ (W0 w0 : World) (S : Own), Std W0 w0 S 0 → HL Try.prog w0 S 77 (cL (cL (cR (cL (cR (cR (cB Try.f36))))))) (mkS [(1, .pointer (some ⟨0, 0, none⟩)), (3, .pointer (some ⟨1, 0, none⟩)), (4, .int .i64 x.1)] [(0, .cells [.int .u8 x.2.1, .int .u32 x.2.2.1, .bool x.2.2.2.1, ls 1 false (encI .u8) x.2.2.2.2.1, ls 5 false enc78 x.2.2.2.2.2.1] 78 5), (1, .cells [.int .u8 x.2.2.2.2.2.2.1, .int .u32 x.2.2.2.2.2.2.2.1, .int .u32 x.2.2.2.2.2.2.2.2.1, .int .u8 x.2.2.2.2.2.2.2.2.2.1, ls 1 false (encI .u8) x.2.2.2.2.2.2.2.2.2.2] 46 5)] 2 []) (Kblock 0 (Kseq Try.prog w0 S 77 (cR (cR (cR (cB Try.f36)))) (KEnd Try.prog Try.f36 (PEnd w0 S (.returned (.bool r)))))) := isM_L3_grp.2.1
theorem isM_L2_ok : ∀ (x : Int × Int × Int × Int × Bool × (List Int) × (List S78) × Int × Int × Int × Int × (List Int)) (r : Bool), isM_L2 x = some r → ∀ (W0 w0 : World) (S : Own), Std W0 w0 S 0 → H Try.prog w0 S 77 (cR (cR (cL (cL (cR (cL (cL (cR (cL (cR (cR (cB Try.f36)))))))))))) (mkS [(1, .pointer (some ⟨0, 0, none⟩)), (3, .pointer (some ⟨1, 0, none⟩)), (4, .int .i64 x.1), (6, .int .i64 x.2.1)] [(0, .cells [.int .u8 x.2.2.1, .int .u32 x.2.2.2.1, .bool x.2.2.2.2.1, ls 1 false (encI .u8) x.2.2.2.2.2.1, ls 5 false enc78 x.2.2.2.2.2.2.1] 78 5), (1, .cells [.int .u8 x.2.2.2.2.2.2.2.1, .int .u32 x.2.2.2.2.2.2.2.2.1, .int .u32 x.2.2.2.2.2.2.2.2.2.1, .int .u8 x.2.2.2.2.2.2.2.2.2.2.1, ls 1 false (encI .u8) x.2.2.2.2.2.2.2.2.2.2.2] 46 5)] 2 []) (Kblock 1 (Kseq Try.prog w0 S 77 (cR (cR (cL (cL (cR (cL (cR (cR (cB Try.f36))))))))) (Kloop Try.prog w0 S 77 (cL (cL (cR (cL (cR (cR (cB Try.f36))))))) (Kblock 0 (Kseq Try.prog w0 S 77 (cR (cR (cR (cB Try.f36)))) (KEnd Try.prog Try.f36 (PEnd w0 S (.returned (.bool r))))))))) := isM_L3_grp.2.2
def isM (x : Int × Int × Bool × (List Int) × (List S78)) : Option (Bool) :=
  isM_L1 (0, x.1, x.2.1, x.2.2.1, x.2.2.2.1, x.2.2.2.2, (IntKind.u8.wrap (remI .u32 x.2.1 256)), 0, 0, 0, [])
theorem isM_ok : ∀ (x : Int × Int × Bool × (List Int) × (List S78)) (r : Bool), isM x = some r → ∀ W0 : World, PTo Try.prog W0 36 #[.agg #[.int .u8 x.1, .int .u32 x.2.1, .bool x.2.2.1, ls 1 false (encI .u8) x.2.2.2.1, ls 5 false enc78 x.2.2.2.2]] (.returned (.bool r)) := by
  intro x r h
  unfold isM at h
  intro W0
  refine PTo.of_body (fn := Try.f36) (code := cB Try.f36) Try.func36 rfl rfl ?_
  intro w0 S hS
  haveI := hS.noEx Try.prog
  refine H.sr 2 (by kernel_rfl) ?_
  refine H.sr 7 (by kernel_rfl) ?_
  refine H.seqP (by kernel_rfl) ?_
  refine H.sr 1 (by kernel_rfl) ?_
  refine H.blockI 0 (by kernel_rfl) ?_
  refine H.loopP (by kernel_rfl) ?_
  refine HL.wkc 1 46 5 4 [.int .u8 (IntKind.u8.wrap (remI .u32 x.2.1 256)), .int .u32 0, .int .u32 0, .int .u8 0, .slice none 0 0] (.slice none 0 0) (ls 1 false (encI .u8) []) (.list 1 false) (by kernel_rfl) ?_
  exact HL.ren hS [0, 1] _ _ _ (by kernel_rfl) (isM_L1_ok (0, x.1, x.2.1, x.2.2.1, x.2.2.2.1, x.2.2.2.2, (IntKind.u8.wrap (remI .u32 x.2.1 256)), 0, 0, 0, []) r h W0 w0 S hS)
def law_L5 (x : Bool) : Option (Bool) :=
  some x
theorem law_L5_ok : ∀ (x : Bool) (r : Bool), law_L5 x = some r → ∀ (W0 w0 : World) (S : Own), Std W0 w0 S 0 → PTo Try.prog W0 8 #[] (.returned (.bool true)) → H Try.prog w0 S 158 (cR (cL (cR (cL (cR (cR (cR (cR (cR (cR (cR (cB Try.f6)))))))))))) (mkS [(6, .bool x)] [] 0 []) (Kseq Try.prog w0 S 158 (cR (cR (cR (cR (cR (cR (cR (cR (cB Try.f6))))))))) (KEnd Try.prog Try.f6 (PEnd w0 S (.returned (.bool r))))) := by
  intro x r h
  unfold law_L5 at h
  intro W0 w0 S hS
  intro HLV
  haveI := hS.noEx Try.prog
  refine H.retP (by kernel_rfl) ?_
  refine Kseq_ret ?_
  obtain rfl := Option.some.inj h
  exact KEnd.ret (by kernel_rfl) (by kernel_rfl) (by kernel_rfl)
def law_L6 (x : Bool) : Option (Bool) :=
  some x
theorem law_L6_ok : ∀ (x : Bool) (r : Bool), law_L6 x = some r → ∀ (W0 w0 : World) (S : Own), Std W0 w0 S 0 → PTo Try.prog W0 8 #[] (.returned (.bool true)) → H Try.prog w0 S 158 (cR (cR (cR (cR (cR (cR (cR (cR (cR (cB Try.f6)))))))))) (mkS [(6, .bool x)] [] 0 []) (KEnd Try.prog Try.f6 (PEnd w0 S (.returned (.bool r)))) := by
  intro x r h
  unfold law_L6 at h
  intro W0 w0 S hS
  intro HLV
  haveI := hS.noEx Try.prog
  refine H.retP (by kernel_rfl) ?_
  obtain rfl := Option.some.inj h
  exact KEnd.ret (by kernel_rfl) (by kernel_rfl) (by kernel_rfl)
def law_L4 (x : (List Int)) : Option (Bool) :=
  (trDecode x) >>= fun y12 =>
  (decode x) >>= fun y13 =>
  if (!decide (y12.2.2.2.2.2 = 0)) = true then
    if y12.2.2.2.2.2 = y13.2.2.2.2.2 then
      (sameM (y12.1, y12.2.1, y12.2.2.1, y12.2.2.2.1, y12.2.2.2.2.1, 0, 0, 0, 0, [])) >>= fun y14 =>
      if y14 = true then
        law_L5 true
      else
        law_L5 false
    else
      if y13.2.2.2.2.2 = 0 then
        if y12.2.2.2.2.2 = 4 then
          (isM (y13.1, y13.2.1, y13.2.2.1, y13.2.2.2.1, y13.2.2.2.2.1)) >>= fun y15 =>
          if (!y15) = true then
            (sameM (y12.1, y12.2.1, y12.2.2.1, y12.2.2.2.1, y12.2.2.2.2.1, 0, 0, 0, 0, [])) >>= fun y16 =>
            if y16 = true then
              law_L5 true
            else
              law_L5 false
          else
            law_L5 false
        else
          law_L5 false
      else
        law_L5 false
  else
    (lawCheck (y12.1, y12.2.1, y12.2.2.1, y12.2.2.2.1, y12.2.2.2.2.1)) >>= fun y17 =>
    if y17 = 0 then
      (lawTree (y12.1, y12.2.1, y12.2.2.1, y12.2.2.2.1, y12.2.2.2.2.1)) >>= fun y18 =>
      (sameT (y18.1, y18.2.1, y18.2.2.1, y18.2.2.2.1, y18.2.2.2.2, y13.1, y13.2.1, y13.2.2.1, y13.2.2.2.1, y13.2.2.2.2.1)) >>= fun y19 =>
      if y19 = true then
        law_L6 true
      else
        law_L6 false
    else
      law_L6 false
theorem law_L4_ok : ∀ (x : (List Int)) (r : Bool), law_L4 x = some r → ∀ (W0 w0 : World) (S : Own), Std W0 w0 S 0 → PTo Try.prog W0 8 #[] (.returned (.bool true)) → H Try.prog w0 S 158 (cR (cR (cR (cR (cR (cB Try.f6)))))) (mkS [(2, ls 1 false (encI .u8) x)] [] 0 []) (KEnd Try.prog Try.f6 (PEnd w0 S (.returned (.bool r)))) := by
  intro x r h
  unfold law_L4 at h
  intro W0 w0 S hS
  intro HLV
  haveI := hS.noEx Try.prog
  refine H.sg (by kernel_rfl) ?_
  refine HO.goP 1 (by kernel_rfl) ?_
  obtain ⟨y12, hy, h⟩ := bindS h
  refine HO.callW hS [.list 1 false] (trDecode_ok x y12 hy W0) (by kernel_rfl) (by kernel_rfl) ?_
  refine HO.fin 6 (by kernel_rfl) ?_
  refine H.sg (by kernel_rfl) ?_
  refine HO.goP 1 (by kernel_rfl) ?_
  obtain ⟨y13, hy, h⟩ := bindS h
  refine HO.callW hS [.list 1 false] (decode_ok x y13 hy W0) (by kernel_rfl) (by kernel_rfl) ?_
  refine HO.fin 6 (by kernel_rfl) ?_
  refine H.seqP (by kernel_rfl) ?_
  refine H.sr 2 (by kernel_rfl) ?_
  refine H.condS (b := !decide (y12.2.2.2.2.2 = 0)) (by kernel_rfl) (by kernel_rfl) (fun hb => ?_) (fun hb => ?_)
  rotate_left
  · rw [if_neg (ne_true hb)] at h
    refine H.skipP (by kernel_rfl) ?_
    refine Kseq_norm ?_
    refine H.seqP (by kernel_rfl) ?_
    refine H.drawQ ?_
    refine HQ.goP 1 (by kernel_rfl) ?_
    obtain ⟨y17, hy, h⟩ := bindS h
    refine HQ.callW hS [.agg [.keep, .keep, .keep, .keep, .list 1 false]] (lawCheck_ok (y12.1, y12.2.1, y12.2.2.1, y12.2.2.2.1, y12.2.2.2.2.1) y17 hy W0) (by kernel_rfl) (by kernel_rfl) ?_
    refine HQ.goP 1 (by kernel_rfl) ?_
    refine HQ.boolP (decide (y17 = 0)) (by kernel_rfl) (by kernel_rfl) (fun hb => ?_) (fun hb => ?_)
    rotate_left
    · rw [if_neg (of_decide_eq_false hb)] at h
      refine HQ.goP 9 (by kernel_rfl) ?_
      refine HQ.calm (by kernel_rfl) (by kernel_rfl) (by kernel_rfl) (by kernel_rfl) ?_
      refine Kseq_norm ?_
      exact H.ren hS [] _ _ _ (by kernel_rfl) (law_L6_ok false r h W0 w0 S hS HLV)
    rw [if_pos (of_decide_eq_true hb)] at h
    refine HQ.goP 1 (by kernel_rfl) ?_
    obtain ⟨y18, hy, h⟩ := bindS h
    refine HQ.callW hS [.agg [.keep, .keep, .keep, .keep, .list 1 false]] (lawTree_ok (y12.1, y12.2.1, y12.2.2.1, y12.2.2.2.1, y12.2.2.2.2.1) y18 hy W0) (by kernel_rfl) (by kernel_rfl) ?_
    refine HQ.goP 1 (by kernel_rfl) ?_
    obtain ⟨y19, hy, h⟩ := bindS h
    refine HQ.callW hS [.agg [.keep, .keep, .keep, .list 1 false, .list 5 false], .agg [.keep, .keep, .keep, .list 1 false, .list 5 false]] (sameT_ok (y18.1, y18.2.1, y18.2.2.1, y18.2.2.2.1, y18.2.2.2.2, y13.1, y13.2.1, y13.2.2.1, y13.2.2.2.1, y13.2.2.2.2.1) y19 hy W0) (by kernel_rfl) (by kernel_rfl) ?_
    refine HQ.goP 1 (by kernel_rfl) ?_
    refine HQ.boolP y19 (by kernel_rfl) (by kernel_rfl) (fun hb => ?_) (fun hb => ?_)
    rotate_left
    · rw [if_neg (ne_true hb)] at h
      refine HQ.goP 3 (by kernel_rfl) ?_
      refine HQ.calm (by kernel_rfl) (by kernel_rfl) (by kernel_rfl) (by kernel_rfl) ?_
      refine Kseq_norm ?_
      exact H.ren hS [] _ _ _ (by kernel_rfl) (law_L6_ok false r h W0 w0 S hS HLV)
    rw [if_pos hb] at h
    refine HQ.callW hS [] HLV (by kernel_rfl) (by kernel_rfl) ?_
    refine HQ.goP 2 (by kernel_rfl) ?_
    refine HQ.calm (by kernel_rfl) (by kernel_rfl) (by kernel_rfl) (by kernel_rfl) ?_
    refine Kseq_norm ?_
    exact H.ren hS [] _ _ _ (by kernel_rfl) (law_L6_ok true r h W0 w0 S hS HLV)
  rw [if_pos hb] at h
  refine H.sg (by kernel_rfl) ?_
  refine HO.goP 3 (by kernel_rfl) ?_
  refine HO.boolP (decide (y12.2.2.2.2.2 = y13.2.2.2.2.2)) (by kernel_rfl) (by kernel_rfl) (fun hb => ?_) (fun hb => ?_)
  · rw [if_pos (of_decide_eq_true hb)] at h
    refine HO.goP 15 (by kernel_rfl) ?_
    obtain ⟨y14, hy, h⟩ := bindS h
    refine HO.callW hS [.agg [.keep, .keep, .keep, .keep, .list 1 false], .agg [.keep, .keep, .keep, .keep, .list 1 false]] (sameM_ok (y12.1, y12.2.1, y12.2.2.1, y12.2.2.2.1, y12.2.2.2.2.1, 0, 0, 0, 0, []) y14 hy W0) (by kernel_rfl) (by kernel_rfl) ?_
    refine HO.goP 1 (by kernel_rfl) ?_
    refine HO.boolP y14 (by kernel_rfl) (by kernel_rfl) (fun hb => ?_) (fun hb => ?_)
    rotate_left
    · rw [if_neg (ne_true hb)] at h
      refine HO.fin 3 (by kernel_rfl) ?_
      exact H.ren hS [] _ _ _ (by kernel_rfl) (law_L5_ok false r h W0 w0 S hS HLV)
    rw [if_pos hb] at h
    refine HO.callW hS [] HLV (by kernel_rfl) (by kernel_rfl) ?_
    refine HO.fin 2 (by kernel_rfl) ?_
    exact H.ren hS [] _ _ _ (by kernel_rfl) (law_L5_ok true r h W0 w0 S hS HLV)
  rw [if_neg (of_decide_eq_false hb)] at h
  refine HO.goP 2 (by kernel_rfl) ?_
  refine HO.boolP (decide (y13.2.2.2.2.2 = 0)) (by kernel_rfl) (by kernel_rfl) (fun hb => ?_) (fun hb => ?_)
  rotate_left
  · rw [if_neg (of_decide_eq_false hb)] at h
    refine HO.fin 18 (by kernel_rfl) ?_
    exact H.ren hS [] _ _ _ (by kernel_rfl) (law_L5_ok false r h W0 w0 S hS HLV)
  rw [if_pos (of_decide_eq_true hb)] at h
  refine HO.goP 3 (by kernel_rfl) ?_
  refine HO.boolP (decide (y12.2.2.2.2.2 = 4)) (by kernel_rfl) (by kernel_rfl) (fun hb => ?_) (fun hb => ?_)
  rotate_left
  · rw [if_neg (of_decide_eq_false hb)] at h
    refine HO.fin 14 (by kernel_rfl) ?_
    exact H.ren hS [] _ _ _ (by kernel_rfl) (law_L5_ok false r h W0 w0 S hS HLV)
  rw [if_pos (of_decide_eq_true hb)] at h
  refine HO.goP 1 (by kernel_rfl) ?_
  obtain ⟨y15, hy, h⟩ := bindS h
  refine HO.callW hS [.agg [.keep, .keep, .keep, .list 1 false, .list 5 false]] (isM_ok (y13.1, y13.2.1, y13.2.2.1, y13.2.2.2.1, y13.2.2.2.2.1) y15 hy W0) (by kernel_rfl) (by kernel_rfl) ?_
  refine HO.goP 3 (by kernel_rfl) ?_
  refine HO.boolP (!y15) (by kernel_rfl) (by kernel_rfl) (fun hb => ?_) (fun hb => ?_)
  rotate_left
  · rw [if_neg (ne_true hb)] at h
    refine HO.fin 8 (by kernel_rfl) ?_
    exact H.ren hS [] _ _ _ (by kernel_rfl) (law_L5_ok false r h W0 w0 S hS HLV)
  rw [if_pos hb] at h
  refine HO.goP 2 (by kernel_rfl) ?_
  obtain ⟨y16, hy, h⟩ := bindS h
  refine HO.callW hS [.agg [.keep, .keep, .keep, .keep, .list 1 false], .agg [.keep, .keep, .keep, .keep, .list 1 false]] (sameM_ok (y12.1, y12.2.1, y12.2.2.1, y12.2.2.2.1, y12.2.2.2.2.1, 0, 0, 0, 0, []) y16 hy W0) (by kernel_rfl) (by kernel_rfl) ?_
  refine HO.goP 1 (by kernel_rfl) ?_
  refine HO.boolP y16 (by kernel_rfl) (by kernel_rfl) (fun hb => ?_) (fun hb => ?_)
  rotate_left
  · rw [if_neg (ne_true hb)] at h
    refine HO.fin 3 (by kernel_rfl) ?_
    exact H.ren hS [] _ _ _ (by kernel_rfl) (law_L5_ok false r h W0 w0 S hS HLV)
  rw [if_pos hb] at h
  refine HO.callW hS [] HLV (by kernel_rfl) (by kernel_rfl) ?_
  refine HO.fin 2 (by kernel_rfl) ?_
  exact H.ren hS [] _ _ _ (by kernel_rfl) (law_L5_ok true r h W0 w0 S hS HLV)
def law_L3 (x : (List Int) × Bool) : Option (Bool) :=
  if x.2 = true then
    some false
  else
    law_L4 x.1
theorem law_L3_ok : ∀ (x : (List Int) × Bool) (r : Bool), law_L3 x = some r → ∀ (W0 w0 : World) (S : Own), Std W0 w0 S 0 → PTo Try.prog W0 8 #[] (.returned (.bool true)) → H Try.prog w0 S 158 (cR (cR (cR (cR (cR (cL (cR (cL (cR (cR (cR (cR (cB Try.f6))))))))))))) (mkS [(2, ls 1 false (encI .u8) x.1), (109, .bool x.2)] [] 0 []) (Kseq Try.prog w0 S 158 (cR (cR (cR (cR (cR (cB Try.f6)))))) (KEnd Try.prog Try.f6 (PEnd w0 S (.returned (.bool r))))) := by
  intro x r h
  unfold law_L3 at h
  intro W0 w0 S hS
  intro HLV
  haveI := hS.noEx Try.prog
  refine H.condS (b := x.2) (by kernel_rfl) (by kernel_rfl) (fun hb => ?_) (fun hb => ?_)
  rotate_left
  · rw [if_neg (ne_true hb)] at h
    refine H.skipP (by kernel_rfl) ?_
    refine Kseq_norm ?_
    exact H.ren hS [] _ _ _ (by kernel_rfl) (law_L4_ok x.1 r h W0 w0 S hS HLV)
  rw [if_pos hb] at h
  refine H.sr 1 (by kernel_rfl) ?_
  refine H.retP (by kernel_rfl) ?_
  refine Kseq_ret ?_
  obtain rfl := Option.some.inj h
  exact KEnd.ret (by kernel_rfl) (by kernel_rfl) (by kernel_rfl)
def law_L2 (x : Int × (List Int) × (List Int) × Int × Bool × Int × Int × Int × Int × (List Int)) : Option (Bool) :=
  if x.2.2.2.2.1 = true then
    some false
  else
    if x.2.2.2.1 = 0 then
      (lawTree (x.2.2.2.2.2.1, x.2.2.2.2.2.2.1, x.2.2.2.2.2.2.2.1, x.2.2.2.2.2.2.2.2.1, x.2.2.2.2.2.2.2.2.2)) >>= fun y4 =>
      (encodeC (y4.1, y4.2.1, y4.2.2.1, y4.2.2.2.1, y4.2.2.2.2)) >>= fun y5 =>
      (lawTree (x.2.2.2.2.2.1, x.2.2.2.2.2.2.1, x.2.2.2.2.2.2.2.1, x.2.2.2.2.2.2.2.2.1, x.2.2.2.2.2.2.2.2.2)) >>= fun y6 =>
      (encodeAs (y6.1, y6.2.1, y6.2.2.1, y6.2.2.2.1, y6.2.2.2.2, (remI .u8 x.1 3))) >>= fun y7 =>
      (trDecode x.2.2.1) >>= fun y8 =>
      (trDecode y7.1) >>= fun y9 =>
      if (!(strEq (bytesU x.2.2.1) (bytesU y5.1))) = true then
        law_L3 (x.2.1, true)
      else
        if (!decide (y7.2 = 0)) = true then
          law_L3 (x.2.1, true)
        else
          if (!decide (y8.2.2.2.2.2 = 0)) = true then
            law_L3 (x.2.1, true)
          else
            if (!decide (y9.2.2.2.2.2 = 0)) = true then
              law_L3 (x.2.1, true)
            else
              (sameM (y8.1, y8.2.1, y8.2.2.1, y8.2.2.2.1, y8.2.2.2.2.1, x.2.2.2.2.2.1, x.2.2.2.2.2.2.1, x.2.2.2.2.2.2.2.1, x.2.2.2.2.2.2.2.2.1, x.2.2.2.2.2.2.2.2.2)) >>= fun y10 =>
              if (!y10) = true then
                law_L3 (x.2.1, true)
              else
                (sameM (y9.1, y9.2.1, y9.2.2.1, y9.2.2.2.1, y9.2.2.2.2.1, x.2.2.2.2.2.1, x.2.2.2.2.2.2.1, x.2.2.2.2.2.2.2.1, x.2.2.2.2.2.2.2.2.1, x.2.2.2.2.2.2.2.2.2)) >>= fun y11 =>
                law_L3 (x.2.1, (!y11))
    else
      law_L4 x.2.1
theorem law_L2_ok : ∀ (x : Int × (List Int) × (List Int) × Int × Bool × Int × Int × Int × Int × (List Int)) (r : Bool), law_L2 x = some r → ∀ (W0 w0 : World) (S : Own), Std W0 w0 S 0 → PTo Try.prog W0 8 #[] (.returned (.bool true)) → H Try.prog w0 S 158 (cR (cL (cR (cR (cR (cB Try.f6)))))) (mkS [(1, .int .u8 x.1), (2, ls 1 false (encI .u8) x.2.1), (3, .pointer (some ⟨0, 0, none⟩)), (7, ls 1 true (encI .u8) x.2.2.1), (8, .int .i64 x.2.2.2.1), (54, .bool x.2.2.2.2.1)] [(0, .cells [.int .u8 x.2.2.2.2.2.1, .int .u32 x.2.2.2.2.2.2.1, .int .u32 x.2.2.2.2.2.2.2.1, .int .u8 x.2.2.2.2.2.2.2.2.1, ls 1 false (encI .u8) x.2.2.2.2.2.2.2.2.2] 46 5)] 1 []) (Kseq Try.prog w0 S 158 (cR (cR (cR (cR (cB Try.f6))))) (KEnd Try.prog Try.f6 (PEnd w0 S (.returned (.bool r))))) := by
  intro x r h
  unfold law_L2 at h
  intro W0 w0 S hS
  intro HLV
  haveI := hS.noEx Try.prog
  refine H.condS (b := x.2.2.2.2.1) (by kernel_rfl) (by kernel_rfl) (fun hb => ?_) (fun hb => ?_)
  · rw [if_pos hb] at h
    refine H.sr 1 (by kernel_rfl) ?_
    refine H.retP (by kernel_rfl) ?_
    refine Kseq_ret ?_
    obtain rfl := Option.some.inj h
    exact KEnd.ret (by kernel_rfl) (by kernel_rfl) (by kernel_rfl)
  rw [if_neg (ne_true hb)] at h
  refine H.skipP (by kernel_rfl) ?_
  refine Kseq_norm ?_
  refine H.seqP (by kernel_rfl) ?_
  refine H.sr 2 (by kernel_rfl) ?_
  refine H.condS (b := decide (x.2.2.2.1 = 0)) (by kernel_rfl) (by kernel_rfl) (fun hb => ?_) (fun hb => ?_)
  rotate_left
  · rw [if_neg (of_decide_eq_false hb)] at h
    refine H.skipP (by kernel_rfl) ?_
    refine Kseq_norm ?_
    exact H.ren hS [] _ _ _ (by kernel_rfl) (law_L4_ok x.2.1 r h W0 w0 S hS HLV)
  rw [if_pos (of_decide_eq_true hb)] at h
  refine H.sg (by kernel_rfl) ?_
  refine HO.goP 1 (by kernel_rfl) ?_
  obtain ⟨y4, hy, h⟩ := bindS h
  refine HO.callW hS [.agg [.keep, .keep, .keep, .keep, .list 1 false]] (lawTree_ok (x.2.2.2.2.2.1, x.2.2.2.2.2.2.1, x.2.2.2.2.2.2.2.1, x.2.2.2.2.2.2.2.2.1, x.2.2.2.2.2.2.2.2.2) y4 hy W0) (by kernel_rfl) (by kernel_rfl) ?_
  obtain ⟨y5, hy, h⟩ := bindS h
  refine HO.callW hS [.agg [.keep, .keep, .keep, .list 1 false, .list 5 false]] (encodeC_ok (y4.1, y4.2.1, y4.2.2.1, y4.2.2.2.1, y4.2.2.2.2) y5 hy W0) (by kernel_rfl) (by kernel_rfl) ?_
  refine HO.fin 5 (by kernel_rfl) ?_
  refine H.sg (by kernel_rfl) ?_
  refine HO.goP 1 (by kernel_rfl) ?_
  obtain ⟨y6, hy, h⟩ := bindS h
  refine HO.callW hS [.agg [.keep, .keep, .keep, .keep, .list 1 false]] (lawTree_ok (x.2.2.2.2.2.1, x.2.2.2.2.2.2.1, x.2.2.2.2.2.2.2.1, x.2.2.2.2.2.2.2.2.1, x.2.2.2.2.2.2.2.2.2) y6 hy W0) (by kernel_rfl) (by kernel_rfl) ?_
  refine HO.goP 2 (by kernel_rfl) ?_
  obtain ⟨y7, hy, h⟩ := bindS h
  refine HO.callW hS [.agg [.keep, .keep, .keep, .list 1 false, .list 5 false], .keep] (encodeAs_ok (y6.1, y6.2.1, y6.2.2.1, y6.2.2.2.1, y6.2.2.2.2, (remI .u8 x.1 3)) y7 hy W0) (by kernel_rfl) (by kernel_rfl) ?_
  refine HO.fin 5 (by kernel_rfl) ?_
  refine H.sg (by kernel_rfl) ?_
  refine HO.goP 1 (by kernel_rfl) ?_
  obtain ⟨y8, hy, h⟩ := bindS h
  refine HO.callW hS [.list 1 false] (trDecode_ok x.2.2.1 y8 hy W0) (by kernel_rfl) (by kernel_rfl) ?_
  refine HO.fin 6 (by kernel_rfl) ?_
  refine H.sg (by kernel_rfl) ?_
  refine HO.goP 1 (by kernel_rfl) ?_
  obtain ⟨y9, hy, h⟩ := bindS h
  refine HO.callW hS [.list 1 false] (trDecode_ok y7.1 y9 hy W0) (by kernel_rfl) (by kernel_rfl) ?_
  refine HO.fin 6 (by kernel_rfl) ?_
  refine H.sg (by kernel_rfl) ?_
  refine HO.goP 1 (by kernel_rfl) ?_
  refine HO.valA (str_aop x.2.2.1 (by kernel_rfl)) ?_
  refine HO.goP 1 (by kernel_rfl) ?_
  refine HO.valA (str_aop y5.1 (by kernel_rfl)) ?_
  refine HO.goP 1 (by kernel_rfl) ?_
  refine HO.boolP (!(strEq (bytesU x.2.2.1) (bytesU y5.1))) (by kernel_rfl) (by kernel_rfl) (fun hb => ?_) (fun hb => ?_)
  · rw [if_pos hb] at h
    refine HO.fin 23 (by kernel_rfl) ?_
    exact H.ren hS [] _ _ _ (by kernel_rfl) (law_L3_ok (x.2.1, true) r h W0 w0 S hS HLV)
  rw [if_neg (ne_true hb)] at h
  refine HO.goP 3 (by kernel_rfl) ?_
  refine HO.boolP (!decide (y7.2 = 0)) (by kernel_rfl) (by kernel_rfl) (fun hb => ?_) (fun hb => ?_)
  · rw [if_pos hb] at h
    refine HO.fin 19 (by kernel_rfl) ?_
    exact H.ren hS [] _ _ _ (by kernel_rfl) (law_L3_ok (x.2.1, true) r h W0 w0 S hS HLV)
  rw [if_neg (ne_true hb)] at h
  refine HO.goP 3 (by kernel_rfl) ?_
  refine HO.boolP (!decide (y8.2.2.2.2.2 = 0)) (by kernel_rfl) (by kernel_rfl) (fun hb => ?_) (fun hb => ?_)
  · rw [if_pos hb] at h
    refine HO.fin 15 (by kernel_rfl) ?_
    exact H.ren hS [] _ _ _ (by kernel_rfl) (law_L3_ok (x.2.1, true) r h W0 w0 S hS HLV)
  rw [if_neg (ne_true hb)] at h
  refine HO.goP 3 (by kernel_rfl) ?_
  refine HO.boolP (!decide (y9.2.2.2.2.2 = 0)) (by kernel_rfl) (by kernel_rfl) (fun hb => ?_) (fun hb => ?_)
  · rw [if_pos hb] at h
    refine HO.fin 11 (by kernel_rfl) ?_
    exact H.ren hS [] _ _ _ (by kernel_rfl) (law_L3_ok (x.2.1, true) r h W0 w0 S hS HLV)
  rw [if_neg (ne_true hb)] at h
  refine HO.goP 2 (by kernel_rfl) ?_
  obtain ⟨y10, hy, h⟩ := bindS h
  refine HO.callW hS [.agg [.keep, .keep, .keep, .keep, .list 1 false], .agg [.keep, .keep, .keep, .keep, .list 1 false]] (sameM_ok (y8.1, y8.2.1, y8.2.2.1, y8.2.2.2.1, y8.2.2.2.2.1, x.2.2.2.2.2.1, x.2.2.2.2.2.2.1, x.2.2.2.2.2.2.2.1, x.2.2.2.2.2.2.2.2.1, x.2.2.2.2.2.2.2.2.2) y10 hy W0) (by kernel_rfl) (by kernel_rfl) ?_
  refine HO.goP 2 (by kernel_rfl) ?_
  refine HO.boolP (!y10) (by kernel_rfl) (by kernel_rfl) (fun hb => ?_) (fun hb => ?_)
  · rw [if_pos hb] at h
    refine HO.fin 5 (by kernel_rfl) ?_
    exact H.ren hS [] _ _ _ (by kernel_rfl) (law_L3_ok (x.2.1, true) r h W0 w0 S hS HLV)
  rw [if_neg (ne_true hb)] at h
  refine HO.goP 2 (by kernel_rfl) ?_
  obtain ⟨y11, hy, h⟩ := bindS h
  refine HO.callW hS [.agg [.keep, .keep, .keep, .keep, .list 1 false], .agg [.keep, .keep, .keep, .keep, .list 1 false]] (sameM_ok (y9.1, y9.2.1, y9.2.2.1, y9.2.2.2.1, y9.2.2.2.2.1, x.2.2.2.2.2.1, x.2.2.2.2.2.2.1, x.2.2.2.2.2.2.2.1, x.2.2.2.2.2.2.2.2.1, x.2.2.2.2.2.2.2.2.2) y11 hy W0) (by kernel_rfl) (by kernel_rfl) ?_
  refine HO.fin 2 (by kernel_rfl) ?_
  exact H.ren hS [] _ _ _ (by kernel_rfl) (law_L3_ok (x.2.1, (!y11)) r h W0 w0 S hS HLV)
def law_L1 (x : Int × (List Int) × Bool × Int × Int × Int × Int × (List Int)) : Option (Bool) :=
  if x.2.2.1 = true then
    some true
  else
    (trEncode (x.2.2.2.1, x.2.2.2.2.1, x.2.2.2.2.2.1, x.2.2.2.2.2.2.1, x.2.2.2.2.2.2.2)) >>= fun y1 =>
    (lawCheck (x.2.2.2.1, x.2.2.2.2.1, x.2.2.2.2.2.1, x.2.2.2.2.2.2.1, x.2.2.2.2.2.2.2)) >>= fun y2 =>
    if (!decide (y1.2 = y2)) = true then
      law_L2 (x.1, x.2.1, y1.1, y1.2, true, x.2.2.2.1, x.2.2.2.2.1, x.2.2.2.2.2.1, x.2.2.2.2.2.2.1, x.2.2.2.2.2.2.2)
    else
      (trCheck (x.2.2.2.1, x.2.2.2.2.1, x.2.2.2.2.2.1, x.2.2.2.2.2.2.1, x.2.2.2.2.2.2.2)) >>= fun y3 =>
      if (!decide (y3 = y1.2)) = true then
        law_L2 (x.1, x.2.1, y1.1, y1.2, true, x.2.2.2.1, x.2.2.2.2.1, x.2.2.2.2.2.1, x.2.2.2.2.2.2.1, x.2.2.2.2.2.2.2)
      else
        if (!decide (y1.2 = 0)) = true then
          law_L2 (x.1, x.2.1, y1.1, y1.2, (decide (0 < (y1.1.length : Int))), x.2.2.2.1, x.2.2.2.2.1, x.2.2.2.2.2.1, x.2.2.2.2.2.2.1, x.2.2.2.2.2.2.2)
        else
          law_L2 (x.1, x.2.1, y1.1, y1.2, false, x.2.2.2.1, x.2.2.2.2.1, x.2.2.2.2.2.1, x.2.2.2.2.2.2.1, x.2.2.2.2.2.2.2)
theorem law_L1_ok : ∀ (x : Int × (List Int) × Bool × Int × Int × Int × Int × (List Int)) (r : Bool), law_L1 x = some r → ∀ (W0 w0 : World) (S : Own), Std W0 w0 S 0 → PTo Try.prog W0 8 #[] (.returned (.bool true)) → H Try.prog w0 S 158 (cR (cL (cR (cB Try.f6)))) (mkS [(1, .int .u8 x.1), (2, ls 1 false (encI .u8) x.2.1), (3, .pointer (some ⟨0, 0, none⟩)), (29, .bool x.2.2.1)] [(0, .cells [.int .u8 x.2.2.2.1, .int .u32 x.2.2.2.2.1, .int .u32 x.2.2.2.2.2.1, .int .u8 x.2.2.2.2.2.2.1, ls 1 false (encI .u8) x.2.2.2.2.2.2.2] 46 5)] 1 []) (Kseq Try.prog w0 S 158 (cR (cR (cB Try.f6))) (KEnd Try.prog Try.f6 (PEnd w0 S (.returned (.bool r))))) := by
  intro x r h
  unfold law_L1 at h
  intro W0 w0 S hS
  intro HLV
  haveI := hS.noEx Try.prog
  refine H.condS (b := x.2.2.1) (by kernel_rfl) (by kernel_rfl) (fun hb => ?_) (fun hb => ?_)
  · rw [if_pos hb] at h
    refine H.sg (by kernel_rfl) ?_
    refine HO.callW hS [] HLV (by kernel_rfl) (by kernel_rfl) ?_
    refine HO.fin 1 (by kernel_rfl) ?_
    refine H.retP (by kernel_rfl) ?_
    refine Kseq_ret ?_
    obtain rfl := Option.some.inj h
    exact KEnd.ret (by kernel_rfl) (by kernel_rfl) (by kernel_rfl)
  rw [if_neg (ne_true hb)] at h
  refine H.skipP (by kernel_rfl) ?_
  refine Kseq_norm ?_
  refine H.sg (by kernel_rfl) ?_
  refine HO.goP 1 (by kernel_rfl) ?_
  obtain ⟨y1, hy, h⟩ := bindS h
  refine HO.callW hS [.agg [.keep, .keep, .keep, .keep, .list 1 false]] (trEncode_ok (x.2.2.2.1, x.2.2.2.2.1, x.2.2.2.2.2.1, x.2.2.2.2.2.2.1, x.2.2.2.2.2.2.2) y1 hy W0) (by kernel_rfl) (by kernel_rfl) ?_
  refine HO.fin 5 (by kernel_rfl) ?_
  refine H.seqP (by kernel_rfl) ?_
  refine H.sg (by kernel_rfl) ?_
  refine HO.goP 2 (by kernel_rfl) ?_
  obtain ⟨y2, hy, h⟩ := bindS h
  refine HO.callW hS [.agg [.keep, .keep, .keep, .keep, .list 1 false]] (lawCheck_ok (x.2.2.2.1, x.2.2.2.2.1, x.2.2.2.2.2.1, x.2.2.2.2.2.2.1, x.2.2.2.2.2.2.2) y2 hy W0) (by kernel_rfl) (by kernel_rfl) ?_
  refine HO.goP 1 (by kernel_rfl) ?_
  refine HO.boolP (!decide (y1.2 = y2)) (by kernel_rfl) (by kernel_rfl) (fun hb => ?_) (fun hb => ?_)
  · rw [if_pos hb] at h
    refine HO.fin 14 (by kernel_rfl) ?_
    exact H.ren hS [0] _ _ _ (by kernel_rfl) (law_L2_ok (x.1, x.2.1, y1.1, y1.2, true, x.2.2.2.1, x.2.2.2.2.1, x.2.2.2.2.2.1, x.2.2.2.2.2.2.1, x.2.2.2.2.2.2.2) r h W0 w0 S hS HLV)
  rw [if_neg (ne_true hb)] at h
  refine HO.goP 1 (by kernel_rfl) ?_
  obtain ⟨y3, hy, h⟩ := bindS h
  refine HO.callW hS [.agg [.keep, .keep, .keep, .keep, .list 1 false]] (trCheck_ok (x.2.2.2.1, x.2.2.2.2.1, x.2.2.2.2.2.1, x.2.2.2.2.2.2.1, x.2.2.2.2.2.2.2) y3 hy W0) (by kernel_rfl) (by kernel_rfl) ?_
  refine HO.goP 3 (by kernel_rfl) ?_
  refine HO.boolP (!decide (y3 = y1.2)) (by kernel_rfl) (by kernel_rfl) (fun hb => ?_) (fun hb => ?_)
  · rw [if_pos hb] at h
    refine HO.fin 8 (by kernel_rfl) ?_
    exact H.ren hS [0] _ _ _ (by kernel_rfl) (law_L2_ok (x.1, x.2.1, y1.1, y1.2, true, x.2.2.2.1, x.2.2.2.2.1, x.2.2.2.2.2.1, x.2.2.2.2.2.2.1, x.2.2.2.2.2.2.2) r h W0 w0 S hS HLV)
  rw [if_neg (ne_true hb)] at h
  refine HO.goP 2 (by kernel_rfl) ?_
  refine HO.boolP (!decide (y1.2 = 0)) (by kernel_rfl) (by kernel_rfl) (fun hb => ?_) (fun hb => ?_)
  rotate_left
  · rw [if_neg (ne_true hb)] at h
    refine HO.fin 5 (by kernel_rfl) ?_
    exact H.ren hS [0] _ _ _ (by kernel_rfl) (law_L2_ok (x.1, x.2.1, y1.1, y1.2, false, x.2.2.2.1, x.2.2.2.2.1, x.2.2.2.2.2.1, x.2.2.2.2.2.2.1, x.2.2.2.2.2.2.2) r h W0 w0 S hS HLV)
  rw [if_pos hb] at h
  refine HO.goP 1 (by kernel_rfl) ?_
  refine HO.len (by kernel_rfl) (by kernel_rfl) (ls_size (encI .u8) y1.1) ?_
  refine HO.fin 3 (by kernel_rfl) ?_
  exact H.ren hS [0] _ _ _ (by kernel_rfl) (law_L2_ok (x.1, x.2.1, y1.1, y1.2, (decide (0 < (y1.1.length : Int))), x.2.2.2.1, x.2.2.2.2.1, x.2.2.2.2.2.1, x.2.2.2.2.2.2.1, x.2.2.2.2.2.2.2) r h W0 w0 S hS HLV)
def law (x : Int × Int × Int × Int × (List Int) × Int × (List Int)) : Option (Bool) :=
  if 4000 < (x.2.2.2.2.1.length : Int) then
    law_L1 (x.2.2.2.2.2.1, x.2.2.2.2.2.2, true, x.1, x.2.1, x.2.2.1, x.2.2.2.1, x.2.2.2.2.1)
  else
    law_L1 (x.2.2.2.2.2.1, x.2.2.2.2.2.2, (decide (60 < (x.2.2.2.2.2.2.length : Int))), x.1, x.2.1, x.2.2.1, x.2.2.2.1, x.2.2.2.2.1)
theorem law_ok : ∀ (x : Int × Int × Int × Int × (List Int) × Int × (List Int)) (r : Bool), law x = some r → ∀ W0 : World, PTo Try.prog W0 8 #[] (.returned (.bool true)) → PTo Try.prog W0 6 #[.agg #[.int .u8 x.1, .int .u32 x.2.1, .int .u32 x.2.2.1, .int .u8 x.2.2.2.1, ls 1 false (encI .u8) x.2.2.2.2.1], .int .u8 x.2.2.2.2.2.1, ls 1 false (encI .u8) x.2.2.2.2.2.2] (.returned (.bool r)) := by
  intro x r h
  unfold law at h
  intro W0
  intro HLV
  refine PTo.of_body (fn := Try.f6) (code := cB Try.f6) Try.func6 rfl rfl ?_
  intro w0 S hS
  haveI := hS.noEx Try.prog
  refine H.sr 2 (by kernel_rfl) ?_
  refine H.seqP (by kernel_rfl) ?_
  refine H.sg (by kernel_rfl) ?_
  refine HO.goP 2 (by kernel_rfl) ?_
  refine HO.len (by kernel_rfl) (by kernel_rfl) (ls_size (encI .u8) x.2.2.2.2.1) ?_
  refine HO.goP 1 (by kernel_rfl) ?_
  refine HO.boolP (decide (4000 < (x.2.2.2.2.1.length : Int))) (by kernel_rfl) (by kernel_rfl) (fun hb => ?_) (fun hb => ?_)
  · rw [if_pos (of_decide_eq_true hb)] at h
    refine HO.fin 4 (by kernel_rfl) ?_
    exact H.ren hS [0] _ _ _ (by kernel_rfl) (law_L1_ok (x.2.2.2.2.2.1, x.2.2.2.2.2.2, true, x.1, x.2.1, x.2.2.1, x.2.2.2.1, x.2.2.2.2.1) r h W0 w0 S hS HLV)
  rw [if_neg (of_decide_eq_false hb)] at h
  refine HO.goP 1 (by kernel_rfl) ?_
  refine HO.len (by kernel_rfl) (by kernel_rfl) (ls_size (encI .u8) x.2.2.2.2.2.2) ?_
  refine HO.fin 2 (by kernel_rfl) ?_
  exact H.ren hS [0] _ _ _ (by kernel_rfl) (law_L1_ok (x.2.2.2.2.2.1, x.2.2.2.2.2.2, (decide (60 < (x.2.2.2.2.2.2.length : Int))), x.1, x.2.1, x.2.2.1, x.2.2.2.1, x.2.2.2.2.1) r h W0 w0 S hS HLV)
end Vf
