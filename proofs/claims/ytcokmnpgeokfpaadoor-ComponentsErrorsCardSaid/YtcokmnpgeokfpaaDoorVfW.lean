import Derived.Test.YtcokmnpgeokfpaaDoorProg
import Derived.Test.YtcokmnpgeokfpaaDoorVxD
set_option linter.unusedVariables false
set_option linter.unusedSimpArgs false
set_option maxHeartbeats 4000000
namespace Vf
open Go Go.Vx Go.Proofs
structure S36 where
  mk ::
  c0 : Int
  c1 : Int
  c2 : Bool
  c3 : (List Int)
  c4 : (List S36)
  deriving Inhabited
mutual
def enc36 : S36 → Value
  | .mk c0 c1 c2 c3 c4 => .agg #[.int .u8 c0, .int .u32 c1, .bool c2, ls 1 false (encI .u8) c3, lst 5 false (enc36L c4).toArray]
def enc36L : List S36 → List Value
  | [] => []
  | a :: l => enc36 a :: enc36L l
end
theorem enc36L_eq : ∀ l : List S36, enc36L l = l.map enc36
  | [] => by rw [enc36L]; rfl
  | a :: l => by rw [enc36L, enc36L_eq l]; rfl
theorem enc36_eq (x : S36) : enc36 x = .agg #[.int .u8 x.c0, .int .u32 x.c1, .bool x.c2, ls 1 false (encI .u8) x.c3, ls 5 false enc36 x.c4] := by
  cases x
  rw [enc36]
  simp only [enc36L_eq]
  rfl
theorem enc36_ok : EncOk 5 true enc36 := by
  refine ⟨fun x => by rw [enc36_eq]; rfl, fun x c h => ?_, fun x => ⟨_, enc36_eq x⟩⟩
  rw [enc36_eq] at h
  simp only [Value.cells, List.mem_cons, List.not_mem_nil, or_false] at h
  rcases h with rfl | rfl | rfl | rfl | rfl <;> exact ⟨rfl, rfl⟩
structure S70 where
  mk ::
  c0 : Int
  c1 : Int
  c2 : Int
  c3 : Int
  c4 : Int
  c5 : (List Int)
  deriving Inhabited
def enc70 (x : S70) : Value := .agg #[.int .u8 x.c0, .int .i64 x.c1, .int .i64 x.c2, .int .i64 x.c3, .int .u8 x.c4, ls 1 false (encI .u8) x.c5]
theorem enc70_eq (x : S70) : enc70 x = .agg #[.int .u8 x.c0, .int .i64 x.c1, .int .i64 x.c2, .int .i64 x.c3, .int .u8 x.c4, ls 1 false (encI .u8) x.c5] := rfl
theorem enc70_ok : EncOk 6 true enc70 := by
  refine ⟨fun x => by rw [enc70_eq]; rfl, fun x c h => ?_, fun x => ⟨_, enc70_eq x⟩⟩
  rw [enc70_eq] at h
  simp only [Value.cells, List.mem_cons, List.not_mem_nil, or_false] at h
  rcases h with rfl | rfl | rfl | rfl | rfl | rfl <;> exact ⟨rfl, rfl⟩
def cloneB (x : List Int) : Option (List Int) := app' 1 [] x
theorem cloneB_L1 (x : List Int) : ∀ (W0 w0 : World) (S : Own), Std W0 w0 S 0 → H Tryd.prog w0 S 8 (cR (cR (cR (cB Tryd.f87)))) (mkS [(2, tl 1 0 (encI .u8) x)] [] 1 [0]) (KEnd Tryd.prog Tryd.f87 (PEnd w0 S (.returned (ls 1 false (encI .u8) x)))) := by
  intro W0 w0 S hS
  haveI := hS.noEx Tryd.prog
  refine H.retP (by kernel_rfl) ?_
  exact KEnd.retW (v := tl 1 0 (encI .u8) x) (.list 1 false) (by kernel_rfl) (by kernel_rfl) (by kernel_rfl) (by kernel_rfl)
theorem cloneB_ok : ∀ (x : List Int) (r : List Int), cloneB x = some r → ∀ W0 : World, PTo Tryd.prog W0 87 #[ls 1 false (encI .u8) x] (.returned (ls 1 false (encI .u8) r)) := by
  intro x r h
  unfold cloneB at h
  intro W0
  refine PTo.of_body (fn := Tryd.f87) (code := cB Tryd.f87) Tryd.func87 rfl rfl ?_
  intro w0 S hS
  haveI := hS.noEx Tryd.prog
  refine H.seqP (by kernel_rfl) ?_
  refine H.regP (by kernel_rfl) ?_
  refine HO.goP 1 (by kernel_rfl) ?_
  refine HO.done (by kernel_rfl) ?_
  refine Kseq_norm ?_
  refine H.seqP (by kernel_rfl) ?_
  refine H.seqP (by kernel_rfl) ?_
  refine H.regP (by kernel_rfl) ?_
  refine HO.goP 1 (by kernel_rfl) ?_
  refine HO.nilB (eq := true) (es := (x.map (encI .u8)).toArray) (by kernel_rfl) (fun b hb0 => ?_)
  cases b with
  | true =>
    have hx : x = [] := List.eq_nil_of_length_eq_zero (by simpa using hb0 rfl)
    subst hx
    have hr : r = [] := by
      have := (app'_spec h).2
      simpa using this
    subst hr
    refine HO.done (by kernel_rfl) ?_
    refine Kseq_norm ?_
    refine H.condT (by kernel_rfl) (by kernel_rfl) ?_
    refine H.seqP (by kernel_rfl) ?_
    refine H.regP (by kernel_rfl) ?_
    refine HO.goP 1 (by kernel_rfl) ?_
    refine HO.done (by kernel_rfl) ?_
    refine Kseq_norm ?_
    refine H.retP (by kernel_rfl) ?_
    refine Kseq_ret ?_
    exact KEnd.retW (v := .slice none 0 0) (.list 1 false) (by kernel_rfl) (by kernel_rfl) (by kernel_rfl) (by kernel_rfl)
  | false =>
    refine HO.done (by kernel_rfl) ?_
    refine Kseq_norm ?_
    refine H.condF (by kernel_rfl) (by kernel_rfl) ?_
    refine H.skipP (by kernel_rfl) ?_
    refine Kseq_norm ?_
    refine H.seqP (by kernel_rfl) ?_
    refine H.regP (by kernel_rfl) ?_
    refine HO.goP 2 (by kernel_rfl) ?_
    refine HO.tkz [5] 0 0 0 1 5 ([].map (encI .u8)).toArray [] (by kernel_rfl) ?_
    have hr := (app'_spec h).2
    by_cases hb : x.length = 0
    · have hr0 : r = [] := by rw [hr]; simpa using List.eq_nil_of_length_eq_zero hb
      subst hr0
      refine HO.valA (appN_aop (ag := false) [] (encI_ok .u8) h hb (by kernel_rfl)) ?_
      refine HO.goP 1 (by kernel_rfl) ?_
      refine HO.done (by kernel_rfl) ?_
      refine Kseq_norm ?_
      exact H.ren hS [1] _ _ _ (by kernel_rfl) (cloneB_L1 [] W0 w0 S hS)
    · refine HO.effA (appL_aop (ag := false) [] (encI_ok .u8) h hb (by kernel_rfl)) ?_
      refine HO.goP 1 (by kernel_rfl) ?_
      refine HO.done (by kernel_rfl) ?_
      refine Kseq_norm ?_
      exact H.ren hS [2] _ _ _ (by kernel_rfl) (cloneB_L1 r W0 w0 S hS)

def cloneS (x : List Int) : Option (List Int) := app' 1 [] x
theorem cloneS_L1 (x : List Int) : ∀ (W0 w0 : World) (S : Own), Std W0 w0 S 0 → H Tryd.prog w0 S 8 (cR (cR (cR (cB Tryd.f89)))) (mkS [(2, tl 1 0 (encI .u8) x)] [] 1 [0]) (KEnd Tryd.prog Tryd.f89 (PEnd w0 S (.returned (ls 1 false (encI .u8) x)))) := by
  intro W0 w0 S hS
  haveI := hS.noEx Tryd.prog
  refine H.retP (by kernel_rfl) ?_
  exact KEnd.retW (v := tl 1 0 (encI .u8) x) (.list 1 false) (by kernel_rfl) (by kernel_rfl) (by kernel_rfl) (by kernel_rfl)
theorem cloneS_ok : ∀ (x : List Int) (r : List Int), cloneS x = some r → ∀ W0 : World, PTo Tryd.prog W0 89 #[ls 1 false (encI .u8) x] (.returned (ls 1 false (encI .u8) r)) := by
  intro x r h
  unfold cloneS at h
  intro W0
  refine PTo.of_body (fn := Tryd.f89) (code := cB Tryd.f89) Tryd.func89 rfl rfl ?_
  intro w0 S hS
  haveI := hS.noEx Tryd.prog
  refine H.seqP (by kernel_rfl) ?_
  refine H.regP (by kernel_rfl) ?_
  refine HO.goP 1 (by kernel_rfl) ?_
  refine HO.done (by kernel_rfl) ?_
  refine Kseq_norm ?_
  refine H.seqP (by kernel_rfl) ?_
  refine H.seqP (by kernel_rfl) ?_
  refine H.regP (by kernel_rfl) ?_
  refine HO.goP 1 (by kernel_rfl) ?_
  refine HO.nilB (eq := true) (es := (x.map (encI .u8)).toArray) (by kernel_rfl) (fun b hb0 => ?_)
  cases b with
  | true =>
    have hx : x = [] := List.eq_nil_of_length_eq_zero (by simpa using hb0 rfl)
    subst hx
    have hr : r = [] := by
      have := (app'_spec h).2
      simpa using this
    subst hr
    refine HO.done (by kernel_rfl) ?_
    refine Kseq_norm ?_
    refine H.condT (by kernel_rfl) (by kernel_rfl) ?_
    refine H.seqP (by kernel_rfl) ?_
    refine H.regP (by kernel_rfl) ?_
    refine HO.goP 1 (by kernel_rfl) ?_
    refine HO.done (by kernel_rfl) ?_
    refine Kseq_norm ?_
    refine H.retP (by kernel_rfl) ?_
    refine Kseq_ret ?_
    exact KEnd.retW (v := .slice none 0 0) (.list 1 false) (by kernel_rfl) (by kernel_rfl) (by kernel_rfl) (by kernel_rfl)
  | false =>
    refine HO.done (by kernel_rfl) ?_
    refine Kseq_norm ?_
    refine H.condF (by kernel_rfl) (by kernel_rfl) ?_
    refine H.skipP (by kernel_rfl) ?_
    refine Kseq_norm ?_
    refine H.seqP (by kernel_rfl) ?_
    refine H.regP (by kernel_rfl) ?_
    refine HO.goP 2 (by kernel_rfl) ?_
    refine HO.tkz [5] 0 0 0 1 5 ([].map (encI .u8)).toArray [] (by kernel_rfl) ?_
    have hr := (app'_spec h).2
    by_cases hb : x.length = 0
    · have hr0 : r = [] := by rw [hr]; simpa using List.eq_nil_of_length_eq_zero hb
      subst hr0
      refine HO.valA (appN_aop (ag := false) [] (encI_ok .u8) h hb (by kernel_rfl)) ?_
      refine HO.goP 1 (by kernel_rfl) ?_
      refine HO.done (by kernel_rfl) ?_
      refine Kseq_norm ?_
      exact H.ren hS [1] _ _ _ (by kernel_rfl) (cloneS_L1 [] W0 w0 S hS)
    · refine HO.effA (appL_aop (ag := false) [] (encI_ok .u8) h hb (by kernel_rfl)) ?_
      refine HO.goP 1 (by kernel_rfl) ?_
      refine HO.done (by kernel_rfl) ?_
      refine Kseq_norm ?_
      exact H.ren hS [2] _ _ _ (by kernel_rfl) (cloneS_L1 r W0 w0 S hS)

def within_L1 (x : Bool) : Option (Bool) :=
  some x
theorem within_L1_ok : ∀ (x : Bool) (r : Bool), within_L1 x = some r → ∀ (W0 w0 : World) (S : Own), Std W0 w0 S 0 → H Tryd.prog w0 S 15 (cR (cR (cB Tryd.f67))) (mkS [(6, .bool x)] [] 0 []) (KEnd Tryd.prog Tryd.f67 (PEnd w0 S (.returned (.bool r)))) := by
  intro x r h
  unfold within_L1 at h
  intro W0 w0 S hS
  haveI := hS.noEx Tryd.prog
  refine H.retP (by kernel_rfl) ?_
  obtain rfl := Option.some.inj h
  exact KEnd.ret (by kernel_rfl) (by kernel_rfl) (by kernel_rfl)
def within (x : Int × Int × Int) : Option (Bool) :=
  if x.2.1 ≤ x.1 then
    within_L1 (decide (x.1 ≤ x.2.2))
  else
    within_L1 false
theorem within_ok : ∀ (x : Int × Int × Int) (r : Bool), within x = some r → ∀ W0 : World, PTo Tryd.prog W0 67 #[.int .i64 x.1, .int .i64 x.2.1, .int .i64 x.2.2] (.returned (.bool r)) := by
  intro x r h
  unfold within at h
  intro W0
  refine PTo.of_body (fn := Tryd.f67) (code := cB Tryd.f67) Tryd.func67 rfl rfl ?_
  intro w0 S hS
  haveI := hS.noEx Tryd.prog
  refine H.sr 1 (by kernel_rfl) ?_
  refine H.sg (by kernel_rfl) ?_
  refine HO.goP 3 (by kernel_rfl) ?_
  refine HO.boolP (decide (x.2.1 ≤ x.1)) (by kernel_rfl) (by kernel_rfl) (fun hb => ?_) (fun hb => ?_)
  · rw [if_pos (of_decide_eq_true hb)] at h
    refine HO.fin 5 (by kernel_rfl) ?_
    exact H.ren hS [] _ _ _ (by kernel_rfl) (within_L1_ok (decide (x.1 ≤ x.2.2)) r h W0 w0 S hS)
  rw [if_neg (of_decide_eq_false hb)] at h
  refine HO.fin 5 (by kernel_rfl) ?_
  exact H.ren hS [] _ _ _ (by kernel_rfl) (within_L1_ok false r h W0 w0 S hS)
def cpCheck_L2 (x : Bool) : Option (Int) :=
  if (!x) = true then
    some 1
  else
    some 0
theorem cpCheck_L2_ok : ∀ (x : Bool) (r : Int), cpCheck_L2 x = some r → ∀ (W0 w0 : World) (S : Own), Std W0 w0 S 0 → H Tryd.prog w0 S 81 (cR (cR (cR (cR (cB Tryd.f37))))) (mkS [(3, .bool x)] [] 0 []) (KEnd Tryd.prog Tryd.f37 (PEnd w0 S (.returned (.int .i64 r)))) := by
  intro x r h
  unfold cpCheck_L2 at h
  intro W0 w0 S hS
  haveI := hS.noEx Tryd.prog
  refine H.seqP (by kernel_rfl) ?_
  refine H.sr 2 (by kernel_rfl) ?_
  refine H.condS (b := !x) (by kernel_rfl) (by kernel_rfl) (fun hb => ?_) (fun hb => ?_)
  · rw [if_pos hb] at h
    refine H.sr 1 (by kernel_rfl) ?_
    refine H.retP (by kernel_rfl) ?_
    refine Kseq_ret ?_
    obtain rfl := Option.some.inj h
    exact KEnd.ret (by kernel_rfl) (by kernel_rfl) (by kernel_rfl)
  rw [if_neg (ne_true hb)] at h
  refine H.skipP (by kernel_rfl) ?_
  refine Kseq_norm ?_
  refine H.sr 1 (by kernel_rfl) ?_
  refine H.retP (by kernel_rfl) ?_
  obtain rfl := Option.some.inj h
  exact KEnd.ret (by kernel_rfl) (by kernel_rfl) (by kernel_rfl)
def cpCheck_L1 (x : Int × Bool × Int × Int × Int × Int × (List Int)) : Option (Int) :=
  if x.2.1 = true then
    (within (x.2.2.1, 0, 127)) >>= fun y4 =>
    if y4 = true then
      if x.2.2.2.1 = 0 then
        (within (x.2.2.2.2.1, 0, 255)) >>= fun y5 =>
        if y5 = true then
          cpCheck_L2 (decide (x.2.2.2.2.2.1 = 0))
        else
          cpCheck_L2 false
      else
        cpCheck_L2 false
    else
      cpCheck_L2 false
  else
    if x.1 = 5 then
      (within (x.2.2.1, (-1), 127)) >>= fun y6 =>
      if y6 = true then
        if (((x.2.2.2.1 : Int) == 0) && (((x.2.2.2.2.1 : Int) == 0) && ((((x.2.2.2.2.2.2.length : Int) : Int) == 0) && (true)))) = true then
          if 1 ≤ x.2.2.2.2.2.1 then
            cpCheck_L2 (decide (x.2.2.2.2.2.1 ≤ 7))
          else
            cpCheck_L2 false
        else
          cpCheck_L2 false
      else
        cpCheck_L2 false
    else
      cpCheck_L2 false
theorem cpCheck_L1_ok : ∀ (x : Int × Bool × Int × Int × Int × Int × (List Int)) (r : Int), cpCheck_L1 x = some r → ∀ (W0 w0 : World) (S : Own), Std W0 w0 S 0 → H Tryd.prog w0 S 81 (cR (cR (cR (cL (cR (cL (cR (cR (cR (cB Tryd.f37)))))))))) (mkS [(1, .pointer (some ⟨0, 0, none⟩)), (3, .bool false), (9, .int .u8 x.1), (30, .bool x.2.1)] [(0, .cells [.int .u8 x.1, .int .i64 x.2.2.1, .int .i64 x.2.2.2.1, .int .i64 x.2.2.2.2.1, .int .u8 x.2.2.2.2.2.1, ls 1 false (encI .u8) x.2.2.2.2.2.2] 70 6)] 1 []) (Kblock 0 (Kseq Tryd.prog w0 S 81 (cR (cR (cR (cR (cB Tryd.f37))))) (KEnd Tryd.prog Tryd.f37 (PEnd w0 S (.returned (.int .i64 r)))))) := by
  intro x r h
  unfold cpCheck_L1 at h
  intro W0 w0 S hS
  haveI := hS.noEx Tryd.prog
  refine H.condS (b := x.2.1) (by kernel_rfl) (by kernel_rfl) (fun hb => ?_) (fun hb => ?_)
  · rw [if_pos hb] at h
    refine H.regP (by kernel_rfl) ?_
    refine HO.goP 2 (by kernel_rfl) ?_
    obtain ⟨y4, hy, h⟩ := bindS h
    refine HO.callW hS [.keep, .keep, .keep] (within_ok (x.2.2.1, 0, 127) y4 hy W0) (by kernel_rfl) (by kernel_rfl) ?_
    refine HO.boolP y4 (by kernel_rfl) (by kernel_rfl) (fun hb => ?_) (fun hb => ?_)
    rotate_left
    · rw [if_neg (ne_true hb)] at h
      refine HO.goP 15 (by kernel_rfl) ?_
      refine HO.done (by kernel_rfl) ?_
      refine Kblock_norm ?_
      refine Kseq_norm ?_
      exact H.ren hS [] _ _ _ (by kernel_rfl) (cpCheck_L2_ok false r h W0 w0 S hS)
    rw [if_pos hb] at h
    refine HO.goP 4 (by kernel_rfl) ?_
    refine HO.boolP (decide (x.2.2.2.1 = 0)) (by kernel_rfl) (by kernel_rfl) (fun hb => ?_) (fun hb => ?_)
    rotate_left
    · rw [if_neg (of_decide_eq_false hb)] at h
      refine HO.goP 10 (by kernel_rfl) ?_
      refine HO.done (by kernel_rfl) ?_
      refine Kblock_norm ?_
      refine Kseq_norm ?_
      exact H.ren hS [] _ _ _ (by kernel_rfl) (cpCheck_L2_ok false r h W0 w0 S hS)
    rw [if_pos (of_decide_eq_true hb)] at h
    refine HO.goP 2 (by kernel_rfl) ?_
    obtain ⟨y5, hy, h⟩ := bindS h
    refine HO.callW hS [.keep, .keep, .keep] (within_ok (x.2.2.2.2.1, 0, 255) y5 hy W0) (by kernel_rfl) (by kernel_rfl) ?_
    refine HO.goP 1 (by kernel_rfl) ?_
    refine HO.boolP y5 (by kernel_rfl) (by kernel_rfl) (fun hb => ?_) (fun hb => ?_)
    · rw [if_pos hb] at h
      refine HO.goP 5 (by kernel_rfl) ?_
      refine HO.done (by kernel_rfl) ?_
      refine Kblock_norm ?_
      refine Kseq_norm ?_
      exact H.ren hS [] _ _ _ (by kernel_rfl) (cpCheck_L2_ok (decide (x.2.2.2.2.2.1 = 0)) r h W0 w0 S hS)
    rw [if_neg (ne_true hb)] at h
    refine HO.goP 5 (by kernel_rfl) ?_
    refine HO.done (by kernel_rfl) ?_
    refine Kblock_norm ?_
    refine Kseq_norm ?_
    exact H.ren hS [] _ _ _ (by kernel_rfl) (cpCheck_L2_ok false r h W0 w0 S hS)
  rw [if_neg (ne_true hb)] at h
  refine H.sr 2 (by kernel_rfl) ?_
  refine H.condS (b := decide (x.1 = 5)) (by kernel_rfl) (by kernel_rfl) (fun hb => ?_) (fun hb => ?_)
  rotate_left
  · rw [if_neg (of_decide_eq_false hb)] at h
    refine H.skipP (by kernel_rfl) ?_
    refine Kblock_norm ?_
    refine Kseq_norm ?_
    exact H.ren hS [] _ _ _ (by kernel_rfl) (cpCheck_L2_ok false r h W0 w0 S hS)
  rw [if_pos (of_decide_eq_true hb)] at h
  refine H.regP (by kernel_rfl) ?_
  refine HO.goP 2 (by kernel_rfl) ?_
  obtain ⟨y6, hy, h⟩ := bindS h
  refine HO.callW hS [.keep, .keep, .keep] (within_ok (x.2.2.1, (-1), 127) y6 hy W0) (by kernel_rfl) (by kernel_rfl) ?_
  refine HO.boolP y6 (by kernel_rfl) (by kernel_rfl) (fun hb => ?_) (fun hb => ?_)
  rotate_left
  · rw [if_neg (ne_true hb)] at h
    refine HO.goP 22 (by kernel_rfl) ?_
    refine HO.done (by kernel_rfl) ?_
    refine Kblock_norm ?_
    refine Kseq_norm ?_
    exact H.ren hS [] _ _ _ (by kernel_rfl) (cpCheck_L2_ok false r h W0 w0 S hS)
  rw [if_pos hb] at h
  refine HO.goP 6 (by kernel_rfl) ?_
  refine HO.len (by kernel_rfl) (by kernel_rfl) (ls_size (encI .u8) x.2.2.2.2.2.2) ?_
  refine HO.goP 2 (by kernel_rfl) ?_
  refine HO.valA (eqA_aop (r := (((x.2.2.2.1 : Int) == 0) && (((x.2.2.2.2.1 : Int) == 0) && ((((x.2.2.2.2.2.2.length : Int) : Int) == 0) && (true))))) false (by kernel_rfl)) ?_
  refine HO.goP 1 (by kernel_rfl) ?_
  refine HO.boolP (((x.2.2.2.1 : Int) == 0) && (((x.2.2.2.2.1 : Int) == 0) && ((((x.2.2.2.2.2.2.length : Int) : Int) == 0) && (true)))) (by kernel_rfl) (by kernel_rfl) (fun hb => ?_) (fun hb => ?_)
  rotate_left
  · rw [if_neg (ne_true hb)] at h
    refine HO.goP 10 (by kernel_rfl) ?_
    refine HO.done (by kernel_rfl) ?_
    refine Kblock_norm ?_
    refine Kseq_norm ?_
    exact H.ren hS [] _ _ _ (by kernel_rfl) (cpCheck_L2_ok false r h W0 w0 S hS)
  rw [if_pos hb] at h
  refine HO.goP 4 (by kernel_rfl) ?_
  refine HO.boolP (decide (1 ≤ x.2.2.2.2.2.1)) (by kernel_rfl) (by kernel_rfl) (fun hb => ?_) (fun hb => ?_)
  · rw [if_pos (of_decide_eq_true hb)] at h
    refine HO.goP 5 (by kernel_rfl) ?_
    refine HO.done (by kernel_rfl) ?_
    refine Kblock_norm ?_
    refine Kseq_norm ?_
    exact H.ren hS [] _ _ _ (by kernel_rfl) (cpCheck_L2_ok (decide (x.2.2.2.2.2.1 ≤ 7)) r h W0 w0 S hS)
  rw [if_neg (of_decide_eq_false hb)] at h
  refine HO.goP 5 (by kernel_rfl) ?_
  refine HO.done (by kernel_rfl) ?_
  refine Kblock_norm ?_
  refine Kseq_norm ?_
  exact H.ren hS [] _ _ _ (by kernel_rfl) (cpCheck_L2_ok false r h W0 w0 S hS)
def cpCheck (x : Int × Int × Int × Int × Int × (List Int)) : Option (Int) :=
  if 2000 < (x.2.2.2.2.2.length : Int) then
    some 3
  else
    if x.1 = 1 then
      (within (x.2.1, 0, 127)) >>= fun y1 =>
      if y1 = true then
        (within (x.2.2.1, (-1), 127)) >>= fun y2 =>
        if y2 = true then
          (within (x.2.2.2.1, 0, 255)) >>= fun y3 =>
          if y3 = true then
            cpCheck_L2 (decide (x.2.2.2.2.1 = 0))
          else
            cpCheck_L2 false
        else
          cpCheck_L2 false
      else
        cpCheck_L2 false
    else
      if x.1 = 2 then
        cpCheck_L1 (x.1, (decide (x.1 = 2)), x.2.1, x.2.2.1, x.2.2.2.1, x.2.2.2.2.1, x.2.2.2.2.2)
      else
        if x.1 = 3 then
          cpCheck_L1 (x.1, (decide (x.1 = 3)), x.2.1, x.2.2.1, x.2.2.2.1, x.2.2.2.2.1, x.2.2.2.2.2)
        else
          cpCheck_L1 (x.1, (decide (x.1 = 4)), x.2.1, x.2.2.1, x.2.2.2.1, x.2.2.2.2.1, x.2.2.2.2.2)
theorem cpCheck_ok : ∀ (x : Int × Int × Int × Int × Int × (List Int)) (r : Int), cpCheck x = some r → ∀ W0 : World, PTo Tryd.prog W0 37 #[.agg #[.int .u8 x.1, .int .i64 x.2.1, .int .i64 x.2.2.1, .int .i64 x.2.2.2.1, .int .u8 x.2.2.2.2.1, ls 1 false (encI .u8) x.2.2.2.2.2]] (.returned (.int .i64 r)) := by
  intro x r h
  unfold cpCheck at h
  intro W0
  refine PTo.of_body (fn := Tryd.f37) (code := cB Tryd.f37) Tryd.func37 rfl rfl ?_
  intro w0 S hS
  haveI := hS.noEx Tryd.prog
  refine H.sr 2 (by kernel_rfl) ?_
  refine H.seqP (by kernel_rfl) ?_
  refine H.sg (by kernel_rfl) ?_
  refine HO.goP 2 (by kernel_rfl) ?_
  refine HO.len (by kernel_rfl) (by kernel_rfl) (ls_size (encI .u8) x.2.2.2.2.2) ?_
  refine HO.fin 1 (by kernel_rfl) ?_
  refine H.condS (b := decide (2000 < (x.2.2.2.2.2.length : Int))) (by kernel_rfl) (by kernel_rfl) (fun hb => ?_) (fun hb => ?_)
  · rw [if_pos (of_decide_eq_true hb)] at h
    refine H.sr 1 (by kernel_rfl) ?_
    refine H.retP (by kernel_rfl) ?_
    refine Kseq_ret ?_
    obtain rfl := Option.some.inj h
    exact KEnd.ret (by kernel_rfl) (by kernel_rfl) (by kernel_rfl)
  rw [if_neg (of_decide_eq_false hb)] at h
  refine H.skipP (by kernel_rfl) ?_
  refine Kseq_norm ?_
  refine H.sr 1 (by kernel_rfl) ?_
  refine H.seqP (by kernel_rfl) ?_
  refine H.sr 2 (by kernel_rfl) ?_
  refine H.blockI 0 (by kernel_rfl) ?_
  refine H.sr 2 (by kernel_rfl) ?_
  refine H.condS (b := decide (x.1 = 1)) (by kernel_rfl) (by kernel_rfl) (fun hb => ?_) (fun hb => ?_)
  rotate_left
  · rw [if_neg (of_decide_eq_false hb)] at h
    refine H.seqP (by kernel_rfl) ?_
    refine H.sr 2 (by kernel_rfl) ?_
    refine H.condS (b := decide (x.1 = 2)) (by kernel_rfl) (by kernel_rfl) (fun hb => ?_) (fun hb => ?_)
    · rw [if_pos (of_decide_eq_true hb)] at h
      refine H.skipP (by kernel_rfl) ?_
      refine Kseq_norm ?_
      exact H.ren hS [0] _ _ _ (by kernel_rfl) (cpCheck_L1_ok (x.1, (decide (x.1 = 2)), x.2.1, x.2.2.1, x.2.2.2.1, x.2.2.2.2.1, x.2.2.2.2.2) r h W0 w0 S hS)
    rw [if_neg (of_decide_eq_false hb)] at h
    refine H.sr 2 (by kernel_rfl) ?_
    refine H.condS (b := decide (x.1 = 3)) (by kernel_rfl) (by kernel_rfl) (fun hb => ?_) (fun hb => ?_)
    · rw [if_pos (of_decide_eq_true hb)] at h
      refine H.skipP (by kernel_rfl) ?_
      refine Kseq_norm ?_
      exact H.ren hS [0] _ _ _ (by kernel_rfl) (cpCheck_L1_ok (x.1, (decide (x.1 = 3)), x.2.1, x.2.2.1, x.2.2.2.1, x.2.2.2.2.1, x.2.2.2.2.2) r h W0 w0 S hS)
    rw [if_neg (of_decide_eq_false hb)] at h
    refine H.regP (by kernel_rfl) ?_
    refine HO.fin 2 (by kernel_rfl) ?_
    exact H.ren hS [0] _ _ _ (by kernel_rfl) (cpCheck_L1_ok (x.1, (decide (x.1 = 4)), x.2.1, x.2.2.1, x.2.2.2.1, x.2.2.2.2.1, x.2.2.2.2.2) r h W0 w0 S hS)
  rw [if_pos (of_decide_eq_true hb)] at h
  refine H.regP (by kernel_rfl) ?_
  refine HO.goP 2 (by kernel_rfl) ?_
  obtain ⟨y1, hy, h⟩ := bindS h
  refine HO.callW hS [.keep, .keep, .keep] (within_ok (x.2.1, 0, 127) y1 hy W0) (by kernel_rfl) (by kernel_rfl) ?_
  refine HO.boolP y1 (by kernel_rfl) (by kernel_rfl) (fun hb => ?_) (fun hb => ?_)
  rotate_left
  · rw [if_neg (ne_true hb)] at h
    refine HO.goP 15 (by kernel_rfl) ?_
    refine HO.done (by kernel_rfl) ?_
    refine Kblock_norm ?_
    refine Kseq_norm ?_
    exact H.ren hS [] _ _ _ (by kernel_rfl) (cpCheck_L2_ok false r h W0 w0 S hS)
  rw [if_pos hb] at h
  refine HO.goP 2 (by kernel_rfl) ?_
  obtain ⟨y2, hy, h⟩ := bindS h
  refine HO.callW hS [.keep, .keep, .keep] (within_ok (x.2.2.1, (-1), 127) y2 hy W0) (by kernel_rfl) (by kernel_rfl) ?_
  refine HO.goP 1 (by kernel_rfl) ?_
  refine HO.boolP y2 (by kernel_rfl) (by kernel_rfl) (fun hb => ?_) (fun hb => ?_)
  rotate_left
  · rw [if_neg (ne_true hb)] at h
    refine HO.goP 10 (by kernel_rfl) ?_
    refine HO.done (by kernel_rfl) ?_
    refine Kblock_norm ?_
    refine Kseq_norm ?_
    exact H.ren hS [] _ _ _ (by kernel_rfl) (cpCheck_L2_ok false r h W0 w0 S hS)
  rw [if_pos hb] at h
  refine HO.goP 2 (by kernel_rfl) ?_
  obtain ⟨y3, hy, h⟩ := bindS h
  refine HO.callW hS [.keep, .keep, .keep] (within_ok (x.2.2.2.1, 0, 255) y3 hy W0) (by kernel_rfl) (by kernel_rfl) ?_
  refine HO.goP 1 (by kernel_rfl) ?_
  refine HO.boolP y3 (by kernel_rfl) (by kernel_rfl) (fun hb => ?_) (fun hb => ?_)
  · rw [if_pos hb] at h
    refine HO.goP 5 (by kernel_rfl) ?_
    refine HO.done (by kernel_rfl) ?_
    refine Kblock_norm ?_
    refine Kseq_norm ?_
    exact H.ren hS [] _ _ _ (by kernel_rfl) (cpCheck_L2_ok (decide (x.2.2.2.2.1 = 0)) r h W0 w0 S hS)
  rw [if_neg (ne_true hb)] at h
  refine HO.goP 5 (by kernel_rfl) ?_
  refine HO.done (by kernel_rfl) ?_
  refine Kblock_norm ?_
  refine Kseq_norm ?_
  exact H.ren hS [] _ _ _ (by kernel_rfl) (cpCheck_L2_ok false r h W0 w0 S hS)
def intC (x : Int) : Option ((List Int)) :=
  if (!decide ((shrI .i64 x 7) = 0)) = true then
    if (!decide ((shrI .i64 x 7) = (-1))) = true then
      if (!decide ((shrI .i64 x 15) = 0)) = true then
        if (!decide ((shrI .i64 x 15) = (-1))) = true then
          if (!decide ((shrI .i64 x 23) = 0)) = true then
            if (!decide ((shrI .i64 x 23) = (-1))) = true then
              if (!decide ((shrI .i64 x 31) = 0)) = true then
                if (!decide ((shrI .i64 x 31) = (-1))) = true then
                  if (!decide ((shrI .i64 x 39) = 0)) = true then
                    if (!decide ((shrI .i64 x 39) = (-1))) = true then
                      if (!decide ((shrI .i64 x 47) = 0)) = true then
                        if (!decide ((shrI .i64 x 47) = (-1))) = true then
                          if (!decide ((shrI .i64 x 55) = 0)) = true then
                            if (!decide ((shrI .i64 x 55) = (-1))) = true then
                              some [(IntKind.u8.wrap (shrI .i64 x 56)), (IntKind.u8.wrap (shrI .i64 x 48)), (IntKind.u8.wrap (shrI .i64 x 40)), (IntKind.u8.wrap (shrI .i64 x 32)), (IntKind.u8.wrap (shrI .i64 x 24)), (IntKind.u8.wrap (shrI .i64 x 16)), (IntKind.u8.wrap (shrI .i64 x 8)), (IntKind.u8.wrap (shrI .i64 x 0))]
                            else
                              some [(IntKind.u8.wrap (shrI .i64 x 48)), (IntKind.u8.wrap (shrI .i64 x 40)), (IntKind.u8.wrap (shrI .i64 x 32)), (IntKind.u8.wrap (shrI .i64 x 24)), (IntKind.u8.wrap (shrI .i64 x 16)), (IntKind.u8.wrap (shrI .i64 x 8)), (IntKind.u8.wrap (shrI .i64 x 0))]
                          else
                            some [(IntKind.u8.wrap (shrI .i64 x 48)), (IntKind.u8.wrap (shrI .i64 x 40)), (IntKind.u8.wrap (shrI .i64 x 32)), (IntKind.u8.wrap (shrI .i64 x 24)), (IntKind.u8.wrap (shrI .i64 x 16)), (IntKind.u8.wrap (shrI .i64 x 8)), (IntKind.u8.wrap (shrI .i64 x 0))]
                        else
                          some [(IntKind.u8.wrap (shrI .i64 x 40)), (IntKind.u8.wrap (shrI .i64 x 32)), (IntKind.u8.wrap (shrI .i64 x 24)), (IntKind.u8.wrap (shrI .i64 x 16)), (IntKind.u8.wrap (shrI .i64 x 8)), (IntKind.u8.wrap (shrI .i64 x 0))]
                      else
                        some [(IntKind.u8.wrap (shrI .i64 x 40)), (IntKind.u8.wrap (shrI .i64 x 32)), (IntKind.u8.wrap (shrI .i64 x 24)), (IntKind.u8.wrap (shrI .i64 x 16)), (IntKind.u8.wrap (shrI .i64 x 8)), (IntKind.u8.wrap (shrI .i64 x 0))]
                    else
                      some [(IntKind.u8.wrap (shrI .i64 x 32)), (IntKind.u8.wrap (shrI .i64 x 24)), (IntKind.u8.wrap (shrI .i64 x 16)), (IntKind.u8.wrap (shrI .i64 x 8)), (IntKind.u8.wrap (shrI .i64 x 0))]
                  else
                    some [(IntKind.u8.wrap (shrI .i64 x 32)), (IntKind.u8.wrap (shrI .i64 x 24)), (IntKind.u8.wrap (shrI .i64 x 16)), (IntKind.u8.wrap (shrI .i64 x 8)), (IntKind.u8.wrap (shrI .i64 x 0))]
                else
                  some [(IntKind.u8.wrap (shrI .i64 x 24)), (IntKind.u8.wrap (shrI .i64 x 16)), (IntKind.u8.wrap (shrI .i64 x 8)), (IntKind.u8.wrap (shrI .i64 x 0))]
              else
                some [(IntKind.u8.wrap (shrI .i64 x 24)), (IntKind.u8.wrap (shrI .i64 x 16)), (IntKind.u8.wrap (shrI .i64 x 8)), (IntKind.u8.wrap (shrI .i64 x 0))]
            else
              some [(IntKind.u8.wrap (shrI .i64 x 16)), (IntKind.u8.wrap (shrI .i64 x 8)), (IntKind.u8.wrap (shrI .i64 x 0))]
          else
            some [(IntKind.u8.wrap (shrI .i64 x 16)), (IntKind.u8.wrap (shrI .i64 x 8)), (IntKind.u8.wrap (shrI .i64 x 0))]
        else
          some [(IntKind.u8.wrap (shrI .i64 x 8)), (IntKind.u8.wrap (shrI .i64 x 0))]
      else
        some [(IntKind.u8.wrap (shrI .i64 x 8)), (IntKind.u8.wrap (shrI .i64 x 0))]
    else
      some [(IntKind.u8.wrap (shrI .i64 x 0))]
  else
    some [(IntKind.u8.wrap (shrI .i64 x 0))]
theorem intC_ok : ∀ (x : Int) (r : (List Int)), intC x = some r → ∀ W0 : World, PTo Tryd.prog W0 11 #[.int .i64 x] (.returned (ls 1 false (encI .u8) r)) := by
  intro x r h
  unfold intC at h
  intro W0
  refine PTo.of_body (fn := Tryd.f11) (code := cB Tryd.f11) Tryd.func11 rfl rfl ?_
  intro w0 S hS
  haveI := hS.noEx Tryd.prog
  refine H.sr 1 (by kernel_rfl) ?_
  refine H.sr 1 (by kernel_rfl) ?_
  refine H.seqP (by kernel_rfl) ?_
  refine H.blockI 0 (by kernel_rfl) ?_
  refine H.loopP (by kernel_rfl) ?_
  refine HL.round ?_
  refine H.seqP (by kernel_rfl) ?_
  refine H.sg (by kernel_rfl) ?_
  refine HO.goP 10 (by kernel_rfl) ?_
  refine HO.boolP (!decide ((shrI .i64 x 7) = 0)) (by kernel_rfl) (by kernel_rfl) (fun hb => ?_) (fun hb => ?_)
  rotate_left
  · rw [if_neg (ne_true hb)] at h
    refine HO.fin 7 (by kernel_rfl) ?_
    refine H.condF (by kernel_rfl) (by kernel_rfl) ?_
    refine H.exitI 0 (by kernel_rfl) ?_
    refine Kseq_exit ?_
    refine Kloop_exit ?_
    refine Kblock_hit ?_
    refine Kseq_norm ?_
    refine H.sr 3 (by kernel_rfl) ?_
    refine H.seqP (by kernel_rfl) ?_
    refine H.sr 3 (by kernel_rfl) ?_
    refine H.blockI 2 (by kernel_rfl) ?_
    refine H.loopP (by kernel_rfl) ?_
    refine HL.round ?_
    refine H.sr 1 (by kernel_rfl) ?_
    refine H.seqP (by kernel_rfl) ?_
    refine H.condT (by kernel_rfl) (by kernel_rfl) ?_
    refine H.skipP (by kernel_rfl) ?_
    refine Kseq_norm ?_
    refine H.seqP (by kernel_rfl) ?_
    refine H.blockI 3 (by kernel_rfl) ?_
    refine H.sr 2 (by kernel_rfl) ?_
    refine H.regP (by kernel_rfl) ?_
    refine HO.goP 12 (by kernel_rfl) ?_
    refine HO.done (by kernel_rfl) ?_
    refine Kblock_norm ?_
    refine Kseq_norm ?_
    refine H.regP (by kernel_rfl) ?_
    refine HO.goP 2 (by kernel_rfl) ?_
    refine HO.done (by kernel_rfl) ?_
    refine Kloop_norm ?_
    refine HL.round ?_
    refine H.sr 1 (by kernel_rfl) ?_
    refine H.seqP (by kernel_rfl) ?_
    refine H.condF (by kernel_rfl) (by kernel_rfl) ?_
    refine H.exitI 2 (by kernel_rfl) ?_
    refine Kseq_exit ?_
    refine Kloop_exit ?_
    refine Kblock_hit ?_
    refine Kseq_norm ?_
    refine H.sr 2 (by kernel_rfl) ?_
    refine H.retP (by kernel_rfl) ?_
    obtain rfl := Option.some.inj h
    exact KEnd.of (v := .slice (some ⟨0, 0, none⟩) 1 1) (by kernel_rfl) (by kernel_rfl) (PEnd.frz 0 1 1 1 5 true ([(IntKind.u8.wrap (shrI .i64 x 0))].map (encI .u8)).toArray [.int .u8 (IntKind.u8.wrap (shrI .i64 x 0))] (by kernel_rfl) (PEnd.wk (v1 := ls 1 false (encI .u8) [(IntKind.u8.wrap (shrI .i64 x 0))]) (.list 1 false) (by kernel_rfl) (PEnd.fin (by kernel_rfl))))
  rw [if_pos hb] at h
  refine HO.fin 7 (by kernel_rfl) ?_
  refine H.condS (b := !decide ((shrI .i64 x 7) = (-1))) (by kernel_rfl) (by kernel_rfl) (fun hb => ?_) (fun hb => ?_)
  rotate_left
  · rw [if_neg (ne_true hb)] at h
    refine H.exitI 0 (by kernel_rfl) ?_
    refine Kseq_exit ?_
    refine Kloop_exit ?_
    refine Kblock_hit ?_
    refine Kseq_norm ?_
    refine H.sr 3 (by kernel_rfl) ?_
    refine H.seqP (by kernel_rfl) ?_
    refine H.sr 3 (by kernel_rfl) ?_
    refine H.blockI 2 (by kernel_rfl) ?_
    refine H.loopP (by kernel_rfl) ?_
    refine HL.round ?_
    refine H.sr 1 (by kernel_rfl) ?_
    refine H.seqP (by kernel_rfl) ?_
    refine H.condT (by kernel_rfl) (by kernel_rfl) ?_
    refine H.skipP (by kernel_rfl) ?_
    refine Kseq_norm ?_
    refine H.seqP (by kernel_rfl) ?_
    refine H.blockI 3 (by kernel_rfl) ?_
    refine H.sr 2 (by kernel_rfl) ?_
    refine H.regP (by kernel_rfl) ?_
    refine HO.goP 12 (by kernel_rfl) ?_
    refine HO.done (by kernel_rfl) ?_
    refine Kblock_norm ?_
    refine Kseq_norm ?_
    refine H.regP (by kernel_rfl) ?_
    refine HO.goP 2 (by kernel_rfl) ?_
    refine HO.done (by kernel_rfl) ?_
    refine Kloop_norm ?_
    refine HL.round ?_
    refine H.sr 1 (by kernel_rfl) ?_
    refine H.seqP (by kernel_rfl) ?_
    refine H.condF (by kernel_rfl) (by kernel_rfl) ?_
    refine H.exitI 2 (by kernel_rfl) ?_
    refine Kseq_exit ?_
    refine Kloop_exit ?_
    refine Kblock_hit ?_
    refine Kseq_norm ?_
    refine H.sr 2 (by kernel_rfl) ?_
    refine H.retP (by kernel_rfl) ?_
    obtain rfl := Option.some.inj h
    exact KEnd.of (v := .slice (some ⟨0, 0, none⟩) 1 1) (by kernel_rfl) (by kernel_rfl) (PEnd.frz 0 1 1 1 5 true ([(IntKind.u8.wrap (shrI .i64 x 0))].map (encI .u8)).toArray [.int .u8 (IntKind.u8.wrap (shrI .i64 x 0))] (by kernel_rfl) (PEnd.wk (v1 := ls 1 false (encI .u8) [(IntKind.u8.wrap (shrI .i64 x 0))]) (.list 1 false) (by kernel_rfl) (PEnd.fin (by kernel_rfl))))
  rw [if_pos hb] at h
  refine H.skipP (by kernel_rfl) ?_
  refine Kseq_norm ?_
  refine H.blockI 1 (by kernel_rfl) ?_
  refine H.regP (by kernel_rfl) ?_
  refine HO.goP 3 (by kernel_rfl) ?_
  refine HO.done (by kernel_rfl) ?_
  refine Kblock_norm ?_
  refine Kloop_norm ?_
  refine HL.round ?_
  refine H.seqP (by kernel_rfl) ?_
  refine H.sg (by kernel_rfl) ?_
  refine HO.goP 10 (by kernel_rfl) ?_
  refine HO.boolP (!decide ((shrI .i64 x 15) = 0)) (by kernel_rfl) (by kernel_rfl) (fun hb => ?_) (fun hb => ?_)
  rotate_left
  · rw [if_neg (ne_true hb)] at h
    refine HO.fin 7 (by kernel_rfl) ?_
    refine H.condF (by kernel_rfl) (by kernel_rfl) ?_
    refine H.exitI 0 (by kernel_rfl) ?_
    refine Kseq_exit ?_
    refine Kloop_exit ?_
    refine Kblock_hit ?_
    refine Kseq_norm ?_
    refine H.sr 3 (by kernel_rfl) ?_
    refine H.seqP (by kernel_rfl) ?_
    refine H.sr 3 (by kernel_rfl) ?_
    refine H.blockI 2 (by kernel_rfl) ?_
    refine H.loopP (by kernel_rfl) ?_
    refine HL.round ?_
    refine H.sr 1 (by kernel_rfl) ?_
    refine H.seqP (by kernel_rfl) ?_
    refine H.condT (by kernel_rfl) (by kernel_rfl) ?_
    refine H.skipP (by kernel_rfl) ?_
    refine Kseq_norm ?_
    refine H.seqP (by kernel_rfl) ?_
    refine H.blockI 3 (by kernel_rfl) ?_
    refine H.sr 2 (by kernel_rfl) ?_
    refine H.regP (by kernel_rfl) ?_
    refine HO.goP 12 (by kernel_rfl) ?_
    refine HO.done (by kernel_rfl) ?_
    refine Kblock_norm ?_
    refine Kseq_norm ?_
    refine H.regP (by kernel_rfl) ?_
    refine HO.goP 2 (by kernel_rfl) ?_
    refine HO.done (by kernel_rfl) ?_
    refine Kloop_norm ?_
    refine HL.round ?_
    refine H.sr 1 (by kernel_rfl) ?_
    refine H.seqP (by kernel_rfl) ?_
    refine H.condT (by kernel_rfl) (by kernel_rfl) ?_
    refine H.skipP (by kernel_rfl) ?_
    refine Kseq_norm ?_
    refine H.seqP (by kernel_rfl) ?_
    refine H.blockI 3 (by kernel_rfl) ?_
    refine H.sr 2 (by kernel_rfl) ?_
    refine H.regP (by kernel_rfl) ?_
    refine HO.goP 12 (by kernel_rfl) ?_
    refine HO.done (by kernel_rfl) ?_
    refine Kblock_norm ?_
    refine Kseq_norm ?_
    refine H.regP (by kernel_rfl) ?_
    refine HO.goP 2 (by kernel_rfl) ?_
    refine HO.done (by kernel_rfl) ?_
    refine Kloop_norm ?_
    refine HL.round ?_
    refine H.sr 1 (by kernel_rfl) ?_
    refine H.seqP (by kernel_rfl) ?_
    refine H.condF (by kernel_rfl) (by kernel_rfl) ?_
    refine H.exitI 2 (by kernel_rfl) ?_
    refine Kseq_exit ?_
    refine Kloop_exit ?_
    refine Kblock_hit ?_
    refine Kseq_norm ?_
    refine H.sr 2 (by kernel_rfl) ?_
    refine H.retP (by kernel_rfl) ?_
    obtain rfl := Option.some.inj h
    exact KEnd.of (v := .slice (some ⟨0, 0, none⟩) 2 2) (by kernel_rfl) (by kernel_rfl) (PEnd.frz 0 2 2 1 5 true ([(IntKind.u8.wrap (shrI .i64 x 8)), (IntKind.u8.wrap (shrI .i64 x 0))].map (encI .u8)).toArray [.int .u8 (IntKind.u8.wrap (shrI .i64 x 8)), .int .u8 (IntKind.u8.wrap (shrI .i64 x 0))] (by kernel_rfl) (PEnd.wk (v1 := ls 1 false (encI .u8) [(IntKind.u8.wrap (shrI .i64 x 8)), (IntKind.u8.wrap (shrI .i64 x 0))]) (.list 1 false) (by kernel_rfl) (PEnd.fin (by kernel_rfl))))
  rw [if_pos hb] at h
  refine HO.fin 7 (by kernel_rfl) ?_
  refine H.condS (b := !decide ((shrI .i64 x 15) = (-1))) (by kernel_rfl) (by kernel_rfl) (fun hb => ?_) (fun hb => ?_)
  rotate_left
  · rw [if_neg (ne_true hb)] at h
    refine H.exitI 0 (by kernel_rfl) ?_
    refine Kseq_exit ?_
    refine Kloop_exit ?_
    refine Kblock_hit ?_
    refine Kseq_norm ?_
    refine H.sr 3 (by kernel_rfl) ?_
    refine H.seqP (by kernel_rfl) ?_
    refine H.sr 3 (by kernel_rfl) ?_
    refine H.blockI 2 (by kernel_rfl) ?_
    refine H.loopP (by kernel_rfl) ?_
    refine HL.round ?_
    refine H.sr 1 (by kernel_rfl) ?_
    refine H.seqP (by kernel_rfl) ?_
    refine H.condT (by kernel_rfl) (by kernel_rfl) ?_
    refine H.skipP (by kernel_rfl) ?_
    refine Kseq_norm ?_
    refine H.seqP (by kernel_rfl) ?_
    refine H.blockI 3 (by kernel_rfl) ?_
    refine H.sr 2 (by kernel_rfl) ?_
    refine H.regP (by kernel_rfl) ?_
    refine HO.goP 12 (by kernel_rfl) ?_
    refine HO.done (by kernel_rfl) ?_
    refine Kblock_norm ?_
    refine Kseq_norm ?_
    refine H.regP (by kernel_rfl) ?_
    refine HO.goP 2 (by kernel_rfl) ?_
    refine HO.done (by kernel_rfl) ?_
    refine Kloop_norm ?_
    refine HL.round ?_
    refine H.sr 1 (by kernel_rfl) ?_
    refine H.seqP (by kernel_rfl) ?_
    refine H.condT (by kernel_rfl) (by kernel_rfl) ?_
    refine H.skipP (by kernel_rfl) ?_
    refine Kseq_norm ?_
    refine H.seqP (by kernel_rfl) ?_
    refine H.blockI 3 (by kernel_rfl) ?_
    refine H.sr 2 (by kernel_rfl) ?_
    refine H.regP (by kernel_rfl) ?_
    refine HO.goP 12 (by kernel_rfl) ?_
    refine HO.done (by kernel_rfl) ?_
    refine Kblock_norm ?_
    refine Kseq_norm ?_
    refine H.regP (by kernel_rfl) ?_
    refine HO.goP 2 (by kernel_rfl) ?_
    refine HO.done (by kernel_rfl) ?_
    refine Kloop_norm ?_
    refine HL.round ?_
    refine H.sr 1 (by kernel_rfl) ?_
    refine H.seqP (by kernel_rfl) ?_
    refine H.condF (by kernel_rfl) (by kernel_rfl) ?_
    refine H.exitI 2 (by kernel_rfl) ?_
    refine Kseq_exit ?_
    refine Kloop_exit ?_
    refine Kblock_hit ?_
    refine Kseq_norm ?_
    refine H.sr 2 (by kernel_rfl) ?_
    refine H.retP (by kernel_rfl) ?_
    obtain rfl := Option.some.inj h
    exact KEnd.of (v := .slice (some ⟨0, 0, none⟩) 2 2) (by kernel_rfl) (by kernel_rfl) (PEnd.frz 0 2 2 1 5 true ([(IntKind.u8.wrap (shrI .i64 x 8)), (IntKind.u8.wrap (shrI .i64 x 0))].map (encI .u8)).toArray [.int .u8 (IntKind.u8.wrap (shrI .i64 x 8)), .int .u8 (IntKind.u8.wrap (shrI .i64 x 0))] (by kernel_rfl) (PEnd.wk (v1 := ls 1 false (encI .u8) [(IntKind.u8.wrap (shrI .i64 x 8)), (IntKind.u8.wrap (shrI .i64 x 0))]) (.list 1 false) (by kernel_rfl) (PEnd.fin (by kernel_rfl))))
  rw [if_pos hb] at h
  refine H.skipP (by kernel_rfl) ?_
  refine Kseq_norm ?_
  refine H.blockI 1 (by kernel_rfl) ?_
  refine H.regP (by kernel_rfl) ?_
  refine HO.goP 3 (by kernel_rfl) ?_
  refine HO.done (by kernel_rfl) ?_
  refine Kblock_norm ?_
  refine Kloop_norm ?_
  refine HL.round ?_
  refine H.seqP (by kernel_rfl) ?_
  refine H.sg (by kernel_rfl) ?_
  refine HO.goP 10 (by kernel_rfl) ?_
  refine HO.boolP (!decide ((shrI .i64 x 23) = 0)) (by kernel_rfl) (by kernel_rfl) (fun hb => ?_) (fun hb => ?_)
  rotate_left
  · rw [if_neg (ne_true hb)] at h
    refine HO.fin 7 (by kernel_rfl) ?_
    refine H.condF (by kernel_rfl) (by kernel_rfl) ?_
    refine H.exitI 0 (by kernel_rfl) ?_
    refine Kseq_exit ?_
    refine Kloop_exit ?_
    refine Kblock_hit ?_
    refine Kseq_norm ?_
    refine H.sr 3 (by kernel_rfl) ?_
    refine H.seqP (by kernel_rfl) ?_
    refine H.sr 3 (by kernel_rfl) ?_
    refine H.blockI 2 (by kernel_rfl) ?_
    refine H.loopP (by kernel_rfl) ?_
    refine HL.round ?_
    refine H.sr 1 (by kernel_rfl) ?_
    refine H.seqP (by kernel_rfl) ?_
    refine H.condT (by kernel_rfl) (by kernel_rfl) ?_
    refine H.skipP (by kernel_rfl) ?_
    refine Kseq_norm ?_
    refine H.seqP (by kernel_rfl) ?_
    refine H.blockI 3 (by kernel_rfl) ?_
    refine H.sr 2 (by kernel_rfl) ?_
    refine H.regP (by kernel_rfl) ?_
    refine HO.goP 12 (by kernel_rfl) ?_
    refine HO.done (by kernel_rfl) ?_
    refine Kblock_norm ?_
    refine Kseq_norm ?_
    refine H.regP (by kernel_rfl) ?_
    refine HO.goP 2 (by kernel_rfl) ?_
    refine HO.done (by kernel_rfl) ?_
    refine Kloop_norm ?_
    refine HL.round ?_
    refine H.sr 1 (by kernel_rfl) ?_
    refine H.seqP (by kernel_rfl) ?_
    refine H.condT (by kernel_rfl) (by kernel_rfl) ?_
    refine H.skipP (by kernel_rfl) ?_
    refine Kseq_norm ?_
    refine H.seqP (by kernel_rfl) ?_
    refine H.blockI 3 (by kernel_rfl) ?_
    refine H.sr 2 (by kernel_rfl) ?_
    refine H.regP (by kernel_rfl) ?_
    refine HO.goP 12 (by kernel_rfl) ?_
    refine HO.done (by kernel_rfl) ?_
    refine Kblock_norm ?_
    refine Kseq_norm ?_
    refine H.regP (by kernel_rfl) ?_
    refine HO.goP 2 (by kernel_rfl) ?_
    refine HO.done (by kernel_rfl) ?_
    refine Kloop_norm ?_
    refine HL.round ?_
    refine H.sr 1 (by kernel_rfl) ?_
    refine H.seqP (by kernel_rfl) ?_
    refine H.condT (by kernel_rfl) (by kernel_rfl) ?_
    refine H.skipP (by kernel_rfl) ?_
    refine Kseq_norm ?_
    refine H.seqP (by kernel_rfl) ?_
    refine H.blockI 3 (by kernel_rfl) ?_
    refine H.sr 2 (by kernel_rfl) ?_
    refine H.regP (by kernel_rfl) ?_
    refine HO.goP 12 (by kernel_rfl) ?_
    refine HO.done (by kernel_rfl) ?_
    refine Kblock_norm ?_
    refine Kseq_norm ?_
    refine H.regP (by kernel_rfl) ?_
    refine HO.goP 2 (by kernel_rfl) ?_
    refine HO.done (by kernel_rfl) ?_
    refine Kloop_norm ?_
    refine HL.round ?_
    refine H.sr 1 (by kernel_rfl) ?_
    refine H.seqP (by kernel_rfl) ?_
    refine H.condF (by kernel_rfl) (by kernel_rfl) ?_
    refine H.exitI 2 (by kernel_rfl) ?_
    refine Kseq_exit ?_
    refine Kloop_exit ?_
    refine Kblock_hit ?_
    refine Kseq_norm ?_
    refine H.sr 2 (by kernel_rfl) ?_
    refine H.retP (by kernel_rfl) ?_
    obtain rfl := Option.some.inj h
    exact KEnd.of (v := .slice (some ⟨0, 0, none⟩) 3 3) (by kernel_rfl) (by kernel_rfl) (PEnd.frz 0 3 3 1 5 true ([(IntKind.u8.wrap (shrI .i64 x 16)), (IntKind.u8.wrap (shrI .i64 x 8)), (IntKind.u8.wrap (shrI .i64 x 0))].map (encI .u8)).toArray [.int .u8 (IntKind.u8.wrap (shrI .i64 x 16)), .int .u8 (IntKind.u8.wrap (shrI .i64 x 8)), .int .u8 (IntKind.u8.wrap (shrI .i64 x 0))] (by kernel_rfl) (PEnd.wk (v1 := ls 1 false (encI .u8) [(IntKind.u8.wrap (shrI .i64 x 16)), (IntKind.u8.wrap (shrI .i64 x 8)), (IntKind.u8.wrap (shrI .i64 x 0))]) (.list 1 false) (by kernel_rfl) (PEnd.fin (by kernel_rfl))))
  rw [if_pos hb] at h
  refine HO.fin 7 (by kernel_rfl) ?_
  refine H.condS (b := !decide ((shrI .i64 x 23) = (-1))) (by kernel_rfl) (by kernel_rfl) (fun hb => ?_) (fun hb => ?_)
  rotate_left
  · rw [if_neg (ne_true hb)] at h
    refine H.exitI 0 (by kernel_rfl) ?_
    refine Kseq_exit ?_
    refine Kloop_exit ?_
    refine Kblock_hit ?_
    refine Kseq_norm ?_
    refine H.sr 3 (by kernel_rfl) ?_
    refine H.seqP (by kernel_rfl) ?_
    refine H.sr 3 (by kernel_rfl) ?_
    refine H.blockI 2 (by kernel_rfl) ?_
    refine H.loopP (by kernel_rfl) ?_
    refine HL.round ?_
    refine H.sr 1 (by kernel_rfl) ?_
    refine H.seqP (by kernel_rfl) ?_
    refine H.condT (by kernel_rfl) (by kernel_rfl) ?_
    refine H.skipP (by kernel_rfl) ?_
    refine Kseq_norm ?_
    refine H.seqP (by kernel_rfl) ?_
    refine H.blockI 3 (by kernel_rfl) ?_
    refine H.sr 2 (by kernel_rfl) ?_
    refine H.regP (by kernel_rfl) ?_
    refine HO.goP 12 (by kernel_rfl) ?_
    refine HO.done (by kernel_rfl) ?_
    refine Kblock_norm ?_
    refine Kseq_norm ?_
    refine H.regP (by kernel_rfl) ?_
    refine HO.goP 2 (by kernel_rfl) ?_
    refine HO.done (by kernel_rfl) ?_
    refine Kloop_norm ?_
    refine HL.round ?_
    refine H.sr 1 (by kernel_rfl) ?_
    refine H.seqP (by kernel_rfl) ?_
    refine H.condT (by kernel_rfl) (by kernel_rfl) ?_
    refine H.skipP (by kernel_rfl) ?_
    refine Kseq_norm ?_
    refine H.seqP (by kernel_rfl) ?_
    refine H.blockI 3 (by kernel_rfl) ?_
    refine H.sr 2 (by kernel_rfl) ?_
    refine H.regP (by kernel_rfl) ?_
    refine HO.goP 12 (by kernel_rfl) ?_
    refine HO.done (by kernel_rfl) ?_
    refine Kblock_norm ?_
    refine Kseq_norm ?_
    refine H.regP (by kernel_rfl) ?_
    refine HO.goP 2 (by kernel_rfl) ?_
    refine HO.done (by kernel_rfl) ?_
    refine Kloop_norm ?_
    refine HL.round ?_
    refine H.sr 1 (by kernel_rfl) ?_
    refine H.seqP (by kernel_rfl) ?_
    refine H.condT (by kernel_rfl) (by kernel_rfl) ?_
    refine H.skipP (by kernel_rfl) ?_
    refine Kseq_norm ?_
    refine H.seqP (by kernel_rfl) ?_
    refine H.blockI 3 (by kernel_rfl) ?_
    refine H.sr 2 (by kernel_rfl) ?_
    refine H.regP (by kernel_rfl) ?_
    refine HO.goP 12 (by kernel_rfl) ?_
    refine HO.done (by kernel_rfl) ?_
    refine Kblock_norm ?_
    refine Kseq_norm ?_
    refine H.regP (by kernel_rfl) ?_
    refine HO.goP 2 (by kernel_rfl) ?_
    refine HO.done (by kernel_rfl) ?_
    refine Kloop_norm ?_
    refine HL.round ?_
    refine H.sr 1 (by kernel_rfl) ?_
    refine H.seqP (by kernel_rfl) ?_
    refine H.condF (by kernel_rfl) (by kernel_rfl) ?_
    refine H.exitI 2 (by kernel_rfl) ?_
    refine Kseq_exit ?_
    refine Kloop_exit ?_
    refine Kblock_hit ?_
    refine Kseq_norm ?_
    refine H.sr 2 (by kernel_rfl) ?_
    refine H.retP (by kernel_rfl) ?_
    obtain rfl := Option.some.inj h
    exact KEnd.of (v := .slice (some ⟨0, 0, none⟩) 3 3) (by kernel_rfl) (by kernel_rfl) (PEnd.frz 0 3 3 1 5 true ([(IntKind.u8.wrap (shrI .i64 x 16)), (IntKind.u8.wrap (shrI .i64 x 8)), (IntKind.u8.wrap (shrI .i64 x 0))].map (encI .u8)).toArray [.int .u8 (IntKind.u8.wrap (shrI .i64 x 16)), .int .u8 (IntKind.u8.wrap (shrI .i64 x 8)), .int .u8 (IntKind.u8.wrap (shrI .i64 x 0))] (by kernel_rfl) (PEnd.wk (v1 := ls 1 false (encI .u8) [(IntKind.u8.wrap (shrI .i64 x 16)), (IntKind.u8.wrap (shrI .i64 x 8)), (IntKind.u8.wrap (shrI .i64 x 0))]) (.list 1 false) (by kernel_rfl) (PEnd.fin (by kernel_rfl))))
  rw [if_pos hb] at h
  refine H.skipP (by kernel_rfl) ?_
  refine Kseq_norm ?_
  refine H.blockI 1 (by kernel_rfl) ?_
  refine H.regP (by kernel_rfl) ?_
  refine HO.goP 3 (by kernel_rfl) ?_
  refine HO.done (by kernel_rfl) ?_
  refine Kblock_norm ?_
  refine Kloop_norm ?_
  refine HL.round ?_
  refine H.seqP (by kernel_rfl) ?_
  refine H.sg (by kernel_rfl) ?_
  refine HO.goP 10 (by kernel_rfl) ?_
  refine HO.boolP (!decide ((shrI .i64 x 31) = 0)) (by kernel_rfl) (by kernel_rfl) (fun hb => ?_) (fun hb => ?_)
  rotate_left
  · rw [if_neg (ne_true hb)] at h
    refine HO.fin 7 (by kernel_rfl) ?_
    refine H.condF (by kernel_rfl) (by kernel_rfl) ?_
    refine H.exitI 0 (by kernel_rfl) ?_
    refine Kseq_exit ?_
    refine Kloop_exit ?_
    refine Kblock_hit ?_
    refine Kseq_norm ?_
    refine H.sr 3 (by kernel_rfl) ?_
    refine H.seqP (by kernel_rfl) ?_
    refine H.sr 3 (by kernel_rfl) ?_
    refine H.blockI 2 (by kernel_rfl) ?_
    refine H.loopP (by kernel_rfl) ?_
    refine HL.round ?_
    refine H.sr 1 (by kernel_rfl) ?_
    refine H.seqP (by kernel_rfl) ?_
    refine H.condT (by kernel_rfl) (by kernel_rfl) ?_
    refine H.skipP (by kernel_rfl) ?_
    refine Kseq_norm ?_
    refine H.seqP (by kernel_rfl) ?_
    refine H.blockI 3 (by kernel_rfl) ?_
    refine H.sr 2 (by kernel_rfl) ?_
    refine H.regP (by kernel_rfl) ?_
    refine HO.goP 12 (by kernel_rfl) ?_
    refine HO.done (by kernel_rfl) ?_
    refine Kblock_norm ?_
    refine Kseq_norm ?_
    refine H.regP (by kernel_rfl) ?_
    refine HO.goP 2 (by kernel_rfl) ?_
    refine HO.done (by kernel_rfl) ?_
    refine Kloop_norm ?_
    refine HL.round ?_
    refine H.sr 1 (by kernel_rfl) ?_
    refine H.seqP (by kernel_rfl) ?_
    refine H.condT (by kernel_rfl) (by kernel_rfl) ?_
    refine H.skipP (by kernel_rfl) ?_
    refine Kseq_norm ?_
    refine H.seqP (by kernel_rfl) ?_
    refine H.blockI 3 (by kernel_rfl) ?_
    refine H.sr 2 (by kernel_rfl) ?_
    refine H.regP (by kernel_rfl) ?_
    refine HO.goP 12 (by kernel_rfl) ?_
    refine HO.done (by kernel_rfl) ?_
    refine Kblock_norm ?_
    refine Kseq_norm ?_
    refine H.regP (by kernel_rfl) ?_
    refine HO.goP 2 (by kernel_rfl) ?_
    refine HO.done (by kernel_rfl) ?_
    refine Kloop_norm ?_
    refine HL.round ?_
    refine H.sr 1 (by kernel_rfl) ?_
    refine H.seqP (by kernel_rfl) ?_
    refine H.condT (by kernel_rfl) (by kernel_rfl) ?_
    refine H.skipP (by kernel_rfl) ?_
    refine Kseq_norm ?_
    refine H.seqP (by kernel_rfl) ?_
    refine H.blockI 3 (by kernel_rfl) ?_
    refine H.sr 2 (by kernel_rfl) ?_
    refine H.regP (by kernel_rfl) ?_
    refine HO.goP 12 (by kernel_rfl) ?_
    refine HO.done (by kernel_rfl) ?_
    refine Kblock_norm ?_
    refine Kseq_norm ?_
    refine H.regP (by kernel_rfl) ?_
    refine HO.goP 2 (by kernel_rfl) ?_
    refine HO.done (by kernel_rfl) ?_
    refine Kloop_norm ?_
    refine HL.round ?_
    refine H.sr 1 (by kernel_rfl) ?_
    refine H.seqP (by kernel_rfl) ?_
    refine H.condT (by kernel_rfl) (by kernel_rfl) ?_
    refine H.skipP (by kernel_rfl) ?_
    refine Kseq_norm ?_
    refine H.seqP (by kernel_rfl) ?_
    refine H.blockI 3 (by kernel_rfl) ?_
    refine H.sr 2 (by kernel_rfl) ?_
    refine H.regP (by kernel_rfl) ?_
    refine HO.goP 12 (by kernel_rfl) ?_
    refine HO.done (by kernel_rfl) ?_
    refine Kblock_norm ?_
    refine Kseq_norm ?_
    refine H.regP (by kernel_rfl) ?_
    refine HO.goP 2 (by kernel_rfl) ?_
    refine HO.done (by kernel_rfl) ?_
    refine Kloop_norm ?_
    refine HL.round ?_
    refine H.sr 1 (by kernel_rfl) ?_
    refine H.seqP (by kernel_rfl) ?_
    refine H.condF (by kernel_rfl) (by kernel_rfl) ?_
    refine H.exitI 2 (by kernel_rfl) ?_
    refine Kseq_exit ?_
    refine Kloop_exit ?_
    refine Kblock_hit ?_
    refine Kseq_norm ?_
    refine H.sr 2 (by kernel_rfl) ?_
    refine H.retP (by kernel_rfl) ?_
    obtain rfl := Option.some.inj h
    exact KEnd.of (v := .slice (some ⟨0, 0, none⟩) 4 4) (by kernel_rfl) (by kernel_rfl) (PEnd.frz 0 4 4 1 5 true ([(IntKind.u8.wrap (shrI .i64 x 24)), (IntKind.u8.wrap (shrI .i64 x 16)), (IntKind.u8.wrap (shrI .i64 x 8)), (IntKind.u8.wrap (shrI .i64 x 0))].map (encI .u8)).toArray [.int .u8 (IntKind.u8.wrap (shrI .i64 x 24)), .int .u8 (IntKind.u8.wrap (shrI .i64 x 16)), .int .u8 (IntKind.u8.wrap (shrI .i64 x 8)), .int .u8 (IntKind.u8.wrap (shrI .i64 x 0))] (by kernel_rfl) (PEnd.wk (v1 := ls 1 false (encI .u8) [(IntKind.u8.wrap (shrI .i64 x 24)), (IntKind.u8.wrap (shrI .i64 x 16)), (IntKind.u8.wrap (shrI .i64 x 8)), (IntKind.u8.wrap (shrI .i64 x 0))]) (.list 1 false) (by kernel_rfl) (PEnd.fin (by kernel_rfl))))
  rw [if_pos hb] at h
  refine HO.fin 7 (by kernel_rfl) ?_
  refine H.condS (b := !decide ((shrI .i64 x 31) = (-1))) (by kernel_rfl) (by kernel_rfl) (fun hb => ?_) (fun hb => ?_)
  rotate_left
  · rw [if_neg (ne_true hb)] at h
    refine H.exitI 0 (by kernel_rfl) ?_
    refine Kseq_exit ?_
    refine Kloop_exit ?_
    refine Kblock_hit ?_
    refine Kseq_norm ?_
    refine H.sr 3 (by kernel_rfl) ?_
    refine H.seqP (by kernel_rfl) ?_
    refine H.sr 3 (by kernel_rfl) ?_
    refine H.blockI 2 (by kernel_rfl) ?_
    refine H.loopP (by kernel_rfl) ?_
    refine HL.round ?_
    refine H.sr 1 (by kernel_rfl) ?_
    refine H.seqP (by kernel_rfl) ?_
    refine H.condT (by kernel_rfl) (by kernel_rfl) ?_
    refine H.skipP (by kernel_rfl) ?_
    refine Kseq_norm ?_
    refine H.seqP (by kernel_rfl) ?_
    refine H.blockI 3 (by kernel_rfl) ?_
    refine H.sr 2 (by kernel_rfl) ?_
    refine H.regP (by kernel_rfl) ?_
    refine HO.goP 12 (by kernel_rfl) ?_
    refine HO.done (by kernel_rfl) ?_
    refine Kblock_norm ?_
    refine Kseq_norm ?_
    refine H.regP (by kernel_rfl) ?_
    refine HO.goP 2 (by kernel_rfl) ?_
    refine HO.done (by kernel_rfl) ?_
    refine Kloop_norm ?_
    refine HL.round ?_
    refine H.sr 1 (by kernel_rfl) ?_
    refine H.seqP (by kernel_rfl) ?_
    refine H.condT (by kernel_rfl) (by kernel_rfl) ?_
    refine H.skipP (by kernel_rfl) ?_
    refine Kseq_norm ?_
    refine H.seqP (by kernel_rfl) ?_
    refine H.blockI 3 (by kernel_rfl) ?_
    refine H.sr 2 (by kernel_rfl) ?_
    refine H.regP (by kernel_rfl) ?_
    refine HO.goP 12 (by kernel_rfl) ?_
    refine HO.done (by kernel_rfl) ?_
    refine Kblock_norm ?_
    refine Kseq_norm ?_
    refine H.regP (by kernel_rfl) ?_
    refine HO.goP 2 (by kernel_rfl) ?_
    refine HO.done (by kernel_rfl) ?_
    refine Kloop_norm ?_
    refine HL.round ?_
    refine H.sr 1 (by kernel_rfl) ?_
    refine H.seqP (by kernel_rfl) ?_
    refine H.condT (by kernel_rfl) (by kernel_rfl) ?_
    refine H.skipP (by kernel_rfl) ?_
    refine Kseq_norm ?_
    refine H.seqP (by kernel_rfl) ?_
    refine H.blockI 3 (by kernel_rfl) ?_
    refine H.sr 2 (by kernel_rfl) ?_
    refine H.regP (by kernel_rfl) ?_
    refine HO.goP 12 (by kernel_rfl) ?_
    refine HO.done (by kernel_rfl) ?_
    refine Kblock_norm ?_
    refine Kseq_norm ?_
    refine H.regP (by kernel_rfl) ?_
    refine HO.goP 2 (by kernel_rfl) ?_
    refine HO.done (by kernel_rfl) ?_
    refine Kloop_norm ?_
    refine HL.round ?_
    refine H.sr 1 (by kernel_rfl) ?_
    refine H.seqP (by kernel_rfl) ?_
    refine H.condT (by kernel_rfl) (by kernel_rfl) ?_
    refine H.skipP (by kernel_rfl) ?_
    refine Kseq_norm ?_
    refine H.seqP (by kernel_rfl) ?_
    refine H.blockI 3 (by kernel_rfl) ?_
    refine H.sr 2 (by kernel_rfl) ?_
    refine H.regP (by kernel_rfl) ?_
    refine HO.goP 12 (by kernel_rfl) ?_
    refine HO.done (by kernel_rfl) ?_
    refine Kblock_norm ?_
    refine Kseq_norm ?_
    refine H.regP (by kernel_rfl) ?_
    refine HO.goP 2 (by kernel_rfl) ?_
    refine HO.done (by kernel_rfl) ?_
    refine Kloop_norm ?_
    refine HL.round ?_
    refine H.sr 1 (by kernel_rfl) ?_
    refine H.seqP (by kernel_rfl) ?_
    refine H.condF (by kernel_rfl) (by kernel_rfl) ?_
    refine H.exitI 2 (by kernel_rfl) ?_
    refine Kseq_exit ?_
    refine Kloop_exit ?_
    refine Kblock_hit ?_
    refine Kseq_norm ?_
    refine H.sr 2 (by kernel_rfl) ?_
    refine H.retP (by kernel_rfl) ?_
    obtain rfl := Option.some.inj h
    exact KEnd.of (v := .slice (some ⟨0, 0, none⟩) 4 4) (by kernel_rfl) (by kernel_rfl) (PEnd.frz 0 4 4 1 5 true ([(IntKind.u8.wrap (shrI .i64 x 24)), (IntKind.u8.wrap (shrI .i64 x 16)), (IntKind.u8.wrap (shrI .i64 x 8)), (IntKind.u8.wrap (shrI .i64 x 0))].map (encI .u8)).toArray [.int .u8 (IntKind.u8.wrap (shrI .i64 x 24)), .int .u8 (IntKind.u8.wrap (shrI .i64 x 16)), .int .u8 (IntKind.u8.wrap (shrI .i64 x 8)), .int .u8 (IntKind.u8.wrap (shrI .i64 x 0))] (by kernel_rfl) (PEnd.wk (v1 := ls 1 false (encI .u8) [(IntKind.u8.wrap (shrI .i64 x 24)), (IntKind.u8.wrap (shrI .i64 x 16)), (IntKind.u8.wrap (shrI .i64 x 8)), (IntKind.u8.wrap (shrI .i64 x 0))]) (.list 1 false) (by kernel_rfl) (PEnd.fin (by kernel_rfl))))
  rw [if_pos hb] at h
  refine H.skipP (by kernel_rfl) ?_
  refine Kseq_norm ?_
  refine H.blockI 1 (by kernel_rfl) ?_
  refine H.regP (by kernel_rfl) ?_
  refine HO.goP 3 (by kernel_rfl) ?_
  refine HO.done (by kernel_rfl) ?_
  refine Kblock_norm ?_
  refine Kloop_norm ?_
  refine HL.round ?_
  refine H.seqP (by kernel_rfl) ?_
  refine H.sg (by kernel_rfl) ?_
  refine HO.goP 10 (by kernel_rfl) ?_
  refine HO.boolP (!decide ((shrI .i64 x 39) = 0)) (by kernel_rfl) (by kernel_rfl) (fun hb => ?_) (fun hb => ?_)
  rotate_left
  · rw [if_neg (ne_true hb)] at h
    refine HO.fin 7 (by kernel_rfl) ?_
    refine H.condF (by kernel_rfl) (by kernel_rfl) ?_
    refine H.exitI 0 (by kernel_rfl) ?_
    refine Kseq_exit ?_
    refine Kloop_exit ?_
    refine Kblock_hit ?_
    refine Kseq_norm ?_
    refine H.sr 3 (by kernel_rfl) ?_
    refine H.seqP (by kernel_rfl) ?_
    refine H.sr 3 (by kernel_rfl) ?_
    refine H.blockI 2 (by kernel_rfl) ?_
    refine H.loopP (by kernel_rfl) ?_
    refine HL.round ?_
    refine H.sr 1 (by kernel_rfl) ?_
    refine H.seqP (by kernel_rfl) ?_
    refine H.condT (by kernel_rfl) (by kernel_rfl) ?_
    refine H.skipP (by kernel_rfl) ?_
    refine Kseq_norm ?_
    refine H.seqP (by kernel_rfl) ?_
    refine H.blockI 3 (by kernel_rfl) ?_
    refine H.sr 2 (by kernel_rfl) ?_
    refine H.regP (by kernel_rfl) ?_
    refine HO.goP 12 (by kernel_rfl) ?_
    refine HO.done (by kernel_rfl) ?_
    refine Kblock_norm ?_
    refine Kseq_norm ?_
    refine H.regP (by kernel_rfl) ?_
    refine HO.goP 2 (by kernel_rfl) ?_
    refine HO.done (by kernel_rfl) ?_
    refine Kloop_norm ?_
    refine HL.round ?_
    refine H.sr 1 (by kernel_rfl) ?_
    refine H.seqP (by kernel_rfl) ?_
    refine H.condT (by kernel_rfl) (by kernel_rfl) ?_
    refine H.skipP (by kernel_rfl) ?_
    refine Kseq_norm ?_
    refine H.seqP (by kernel_rfl) ?_
    refine H.blockI 3 (by kernel_rfl) ?_
    refine H.sr 2 (by kernel_rfl) ?_
    refine H.regP (by kernel_rfl) ?_
    refine HO.goP 12 (by kernel_rfl) ?_
    refine HO.done (by kernel_rfl) ?_
    refine Kblock_norm ?_
    refine Kseq_norm ?_
    refine H.regP (by kernel_rfl) ?_
    refine HO.goP 2 (by kernel_rfl) ?_
    refine HO.done (by kernel_rfl) ?_
    refine Kloop_norm ?_
    refine HL.round ?_
    refine H.sr 1 (by kernel_rfl) ?_
    refine H.seqP (by kernel_rfl) ?_
    refine H.condT (by kernel_rfl) (by kernel_rfl) ?_
    refine H.skipP (by kernel_rfl) ?_
    refine Kseq_norm ?_
    refine H.seqP (by kernel_rfl) ?_
    refine H.blockI 3 (by kernel_rfl) ?_
    refine H.sr 2 (by kernel_rfl) ?_
    refine H.regP (by kernel_rfl) ?_
    refine HO.goP 12 (by kernel_rfl) ?_
    refine HO.done (by kernel_rfl) ?_
    refine Kblock_norm ?_
    refine Kseq_norm ?_
    refine H.regP (by kernel_rfl) ?_
    refine HO.goP 2 (by kernel_rfl) ?_
    refine HO.done (by kernel_rfl) ?_
    refine Kloop_norm ?_
    refine HL.round ?_
    refine H.sr 1 (by kernel_rfl) ?_
    refine H.seqP (by kernel_rfl) ?_
    refine H.condT (by kernel_rfl) (by kernel_rfl) ?_
    refine H.skipP (by kernel_rfl) ?_
    refine Kseq_norm ?_
    refine H.seqP (by kernel_rfl) ?_
    refine H.blockI 3 (by kernel_rfl) ?_
    refine H.sr 2 (by kernel_rfl) ?_
    refine H.regP (by kernel_rfl) ?_
    refine HO.goP 12 (by kernel_rfl) ?_
    refine HO.done (by kernel_rfl) ?_
    refine Kblock_norm ?_
    refine Kseq_norm ?_
    refine H.regP (by kernel_rfl) ?_
    refine HO.goP 2 (by kernel_rfl) ?_
    refine HO.done (by kernel_rfl) ?_
    refine Kloop_norm ?_
    refine HL.round ?_
    refine H.sr 1 (by kernel_rfl) ?_
    refine H.seqP (by kernel_rfl) ?_
    refine H.condT (by kernel_rfl) (by kernel_rfl) ?_
    refine H.skipP (by kernel_rfl) ?_
    refine Kseq_norm ?_
    refine H.seqP (by kernel_rfl) ?_
    refine H.blockI 3 (by kernel_rfl) ?_
    refine H.sr 2 (by kernel_rfl) ?_
    refine H.regP (by kernel_rfl) ?_
    refine HO.goP 12 (by kernel_rfl) ?_
    refine HO.done (by kernel_rfl) ?_
    refine Kblock_norm ?_
    refine Kseq_norm ?_
    refine H.regP (by kernel_rfl) ?_
    refine HO.goP 2 (by kernel_rfl) ?_
    refine HO.done (by kernel_rfl) ?_
    refine Kloop_norm ?_
    refine HL.round ?_
    refine H.sr 1 (by kernel_rfl) ?_
    refine H.seqP (by kernel_rfl) ?_
    refine H.condF (by kernel_rfl) (by kernel_rfl) ?_
    refine H.exitI 2 (by kernel_rfl) ?_
    refine Kseq_exit ?_
    refine Kloop_exit ?_
    refine Kblock_hit ?_
    refine Kseq_norm ?_
    refine H.sr 2 (by kernel_rfl) ?_
    refine H.retP (by kernel_rfl) ?_
    obtain rfl := Option.some.inj h
    exact KEnd.of (v := .slice (some ⟨0, 0, none⟩) 5 5) (by kernel_rfl) (by kernel_rfl) (PEnd.frz 0 5 5 1 5 true ([(IntKind.u8.wrap (shrI .i64 x 32)), (IntKind.u8.wrap (shrI .i64 x 24)), (IntKind.u8.wrap (shrI .i64 x 16)), (IntKind.u8.wrap (shrI .i64 x 8)), (IntKind.u8.wrap (shrI .i64 x 0))].map (encI .u8)).toArray [.int .u8 (IntKind.u8.wrap (shrI .i64 x 32)), .int .u8 (IntKind.u8.wrap (shrI .i64 x 24)), .int .u8 (IntKind.u8.wrap (shrI .i64 x 16)), .int .u8 (IntKind.u8.wrap (shrI .i64 x 8)), .int .u8 (IntKind.u8.wrap (shrI .i64 x 0))] (by kernel_rfl) (PEnd.wk (v1 := ls 1 false (encI .u8) [(IntKind.u8.wrap (shrI .i64 x 32)), (IntKind.u8.wrap (shrI .i64 x 24)), (IntKind.u8.wrap (shrI .i64 x 16)), (IntKind.u8.wrap (shrI .i64 x 8)), (IntKind.u8.wrap (shrI .i64 x 0))]) (.list 1 false) (by kernel_rfl) (PEnd.fin (by kernel_rfl))))
  rw [if_pos hb] at h
  refine HO.fin 7 (by kernel_rfl) ?_
  refine H.condS (b := !decide ((shrI .i64 x 39) = (-1))) (by kernel_rfl) (by kernel_rfl) (fun hb => ?_) (fun hb => ?_)
  rotate_left
  · rw [if_neg (ne_true hb)] at h
    refine H.exitI 0 (by kernel_rfl) ?_
    refine Kseq_exit ?_
    refine Kloop_exit ?_
    refine Kblock_hit ?_
    refine Kseq_norm ?_
    refine H.sr 3 (by kernel_rfl) ?_
    refine H.seqP (by kernel_rfl) ?_
    refine H.sr 3 (by kernel_rfl) ?_
    refine H.blockI 2 (by kernel_rfl) ?_
    refine H.loopP (by kernel_rfl) ?_
    refine HL.round ?_
    refine H.sr 1 (by kernel_rfl) ?_
    refine H.seqP (by kernel_rfl) ?_
    refine H.condT (by kernel_rfl) (by kernel_rfl) ?_
    refine H.skipP (by kernel_rfl) ?_
    refine Kseq_norm ?_
    refine H.seqP (by kernel_rfl) ?_
    refine H.blockI 3 (by kernel_rfl) ?_
    refine H.sr 2 (by kernel_rfl) ?_
    refine H.regP (by kernel_rfl) ?_
    refine HO.goP 12 (by kernel_rfl) ?_
    refine HO.done (by kernel_rfl) ?_
    refine Kblock_norm ?_
    refine Kseq_norm ?_
    refine H.regP (by kernel_rfl) ?_
    refine HO.goP 2 (by kernel_rfl) ?_
    refine HO.done (by kernel_rfl) ?_
    refine Kloop_norm ?_
    refine HL.round ?_
    refine H.sr 1 (by kernel_rfl) ?_
    refine H.seqP (by kernel_rfl) ?_
    refine H.condT (by kernel_rfl) (by kernel_rfl) ?_
    refine H.skipP (by kernel_rfl) ?_
    refine Kseq_norm ?_
    refine H.seqP (by kernel_rfl) ?_
    refine H.blockI 3 (by kernel_rfl) ?_
    refine H.sr 2 (by kernel_rfl) ?_
    refine H.regP (by kernel_rfl) ?_
    refine HO.goP 12 (by kernel_rfl) ?_
    refine HO.done (by kernel_rfl) ?_
    refine Kblock_norm ?_
    refine Kseq_norm ?_
    refine H.regP (by kernel_rfl) ?_
    refine HO.goP 2 (by kernel_rfl) ?_
    refine HO.done (by kernel_rfl) ?_
    refine Kloop_norm ?_
    refine HL.round ?_
    refine H.sr 1 (by kernel_rfl) ?_
    refine H.seqP (by kernel_rfl) ?_
    refine H.condT (by kernel_rfl) (by kernel_rfl) ?_
    refine H.skipP (by kernel_rfl) ?_
    refine Kseq_norm ?_
    refine H.seqP (by kernel_rfl) ?_
    refine H.blockI 3 (by kernel_rfl) ?_
    refine H.sr 2 (by kernel_rfl) ?_
    refine H.regP (by kernel_rfl) ?_
    refine HO.goP 12 (by kernel_rfl) ?_
    refine HO.done (by kernel_rfl) ?_
    refine Kblock_norm ?_
    refine Kseq_norm ?_
    refine H.regP (by kernel_rfl) ?_
    refine HO.goP 2 (by kernel_rfl) ?_
    refine HO.done (by kernel_rfl) ?_
    refine Kloop_norm ?_
    refine HL.round ?_
    refine H.sr 1 (by kernel_rfl) ?_
    refine H.seqP (by kernel_rfl) ?_
    refine H.condT (by kernel_rfl) (by kernel_rfl) ?_
    refine H.skipP (by kernel_rfl) ?_
    refine Kseq_norm ?_
    refine H.seqP (by kernel_rfl) ?_
    refine H.blockI 3 (by kernel_rfl) ?_
    refine H.sr 2 (by kernel_rfl) ?_
    refine H.regP (by kernel_rfl) ?_
    refine HO.goP 12 (by kernel_rfl) ?_
    refine HO.done (by kernel_rfl) ?_
    refine Kblock_norm ?_
    refine Kseq_norm ?_
    refine H.regP (by kernel_rfl) ?_
    refine HO.goP 2 (by kernel_rfl) ?_
    refine HO.done (by kernel_rfl) ?_
    refine Kloop_norm ?_
    refine HL.round ?_
    refine H.sr 1 (by kernel_rfl) ?_
    refine H.seqP (by kernel_rfl) ?_
    refine H.condT (by kernel_rfl) (by kernel_rfl) ?_
    refine H.skipP (by kernel_rfl) ?_
    refine Kseq_norm ?_
    refine H.seqP (by kernel_rfl) ?_
    refine H.blockI 3 (by kernel_rfl) ?_
    refine H.sr 2 (by kernel_rfl) ?_
    refine H.regP (by kernel_rfl) ?_
    refine HO.goP 12 (by kernel_rfl) ?_
    refine HO.done (by kernel_rfl) ?_
    refine Kblock_norm ?_
    refine Kseq_norm ?_
    refine H.regP (by kernel_rfl) ?_
    refine HO.goP 2 (by kernel_rfl) ?_
    refine HO.done (by kernel_rfl) ?_
    refine Kloop_norm ?_
    refine HL.round ?_
    refine H.sr 1 (by kernel_rfl) ?_
    refine H.seqP (by kernel_rfl) ?_
    refine H.condF (by kernel_rfl) (by kernel_rfl) ?_
    refine H.exitI 2 (by kernel_rfl) ?_
    refine Kseq_exit ?_
    refine Kloop_exit ?_
    refine Kblock_hit ?_
    refine Kseq_norm ?_
    refine H.sr 2 (by kernel_rfl) ?_
    refine H.retP (by kernel_rfl) ?_
    obtain rfl := Option.some.inj h
    exact KEnd.of (v := .slice (some ⟨0, 0, none⟩) 5 5) (by kernel_rfl) (by kernel_rfl) (PEnd.frz 0 5 5 1 5 true ([(IntKind.u8.wrap (shrI .i64 x 32)), (IntKind.u8.wrap (shrI .i64 x 24)), (IntKind.u8.wrap (shrI .i64 x 16)), (IntKind.u8.wrap (shrI .i64 x 8)), (IntKind.u8.wrap (shrI .i64 x 0))].map (encI .u8)).toArray [.int .u8 (IntKind.u8.wrap (shrI .i64 x 32)), .int .u8 (IntKind.u8.wrap (shrI .i64 x 24)), .int .u8 (IntKind.u8.wrap (shrI .i64 x 16)), .int .u8 (IntKind.u8.wrap (shrI .i64 x 8)), .int .u8 (IntKind.u8.wrap (shrI .i64 x 0))] (by kernel_rfl) (PEnd.wk (v1 := ls 1 false (encI .u8) [(IntKind.u8.wrap (shrI .i64 x 32)), (IntKind.u8.wrap (shrI .i64 x 24)), (IntKind.u8.wrap (shrI .i64 x 16)), (IntKind.u8.wrap (shrI .i64 x 8)), (IntKind.u8.wrap (shrI .i64 x 0))]) (.list 1 false) (by kernel_rfl) (PEnd.fin (by kernel_rfl))))
  rw [if_pos hb] at h
  refine H.skipP (by kernel_rfl) ?_
  refine Kseq_norm ?_
  refine H.blockI 1 (by kernel_rfl) ?_
  refine H.regP (by kernel_rfl) ?_
  refine HO.goP 3 (by kernel_rfl) ?_
  refine HO.done (by kernel_rfl) ?_
  refine Kblock_norm ?_
  refine Kloop_norm ?_
  refine HL.round ?_
  refine H.seqP (by kernel_rfl) ?_
  refine H.sg (by kernel_rfl) ?_
  refine HO.goP 10 (by kernel_rfl) ?_
  refine HO.boolP (!decide ((shrI .i64 x 47) = 0)) (by kernel_rfl) (by kernel_rfl) (fun hb => ?_) (fun hb => ?_)
  rotate_left
  · rw [if_neg (ne_true hb)] at h
    refine HO.fin 7 (by kernel_rfl) ?_
    refine H.condF (by kernel_rfl) (by kernel_rfl) ?_
    refine H.exitI 0 (by kernel_rfl) ?_
    refine Kseq_exit ?_
    refine Kloop_exit ?_
    refine Kblock_hit ?_
    refine Kseq_norm ?_
    refine H.sr 3 (by kernel_rfl) ?_
    refine H.seqP (by kernel_rfl) ?_
    refine H.sr 3 (by kernel_rfl) ?_
    refine H.blockI 2 (by kernel_rfl) ?_
    refine H.loopP (by kernel_rfl) ?_
    refine HL.round ?_
    refine H.sr 1 (by kernel_rfl) ?_
    refine H.seqP (by kernel_rfl) ?_
    refine H.condT (by kernel_rfl) (by kernel_rfl) ?_
    refine H.skipP (by kernel_rfl) ?_
    refine Kseq_norm ?_
    refine H.seqP (by kernel_rfl) ?_
    refine H.blockI 3 (by kernel_rfl) ?_
    refine H.sr 2 (by kernel_rfl) ?_
    refine H.regP (by kernel_rfl) ?_
    refine HO.goP 12 (by kernel_rfl) ?_
    refine HO.done (by kernel_rfl) ?_
    refine Kblock_norm ?_
    refine Kseq_norm ?_
    refine H.regP (by kernel_rfl) ?_
    refine HO.goP 2 (by kernel_rfl) ?_
    refine HO.done (by kernel_rfl) ?_
    refine Kloop_norm ?_
    refine HL.round ?_
    refine H.sr 1 (by kernel_rfl) ?_
    refine H.seqP (by kernel_rfl) ?_
    refine H.condT (by kernel_rfl) (by kernel_rfl) ?_
    refine H.skipP (by kernel_rfl) ?_
    refine Kseq_norm ?_
    refine H.seqP (by kernel_rfl) ?_
    refine H.blockI 3 (by kernel_rfl) ?_
    refine H.sr 2 (by kernel_rfl) ?_
    refine H.regP (by kernel_rfl) ?_
    refine HO.goP 12 (by kernel_rfl) ?_
    refine HO.done (by kernel_rfl) ?_
    refine Kblock_norm ?_
    refine Kseq_norm ?_
    refine H.regP (by kernel_rfl) ?_
    refine HO.goP 2 (by kernel_rfl) ?_
    refine HO.done (by kernel_rfl) ?_
    refine Kloop_norm ?_
    refine HL.round ?_
    refine H.sr 1 (by kernel_rfl) ?_
    refine H.seqP (by kernel_rfl) ?_
    refine H.condT (by kernel_rfl) (by kernel_rfl) ?_
    refine H.skipP (by kernel_rfl) ?_
    refine Kseq_norm ?_
    refine H.seqP (by kernel_rfl) ?_
    refine H.blockI 3 (by kernel_rfl) ?_
    refine H.sr 2 (by kernel_rfl) ?_
    refine H.regP (by kernel_rfl) ?_
    refine HO.goP 12 (by kernel_rfl) ?_
    refine HO.done (by kernel_rfl) ?_
    refine Kblock_norm ?_
    refine Kseq_norm ?_
    refine H.regP (by kernel_rfl) ?_
    refine HO.goP 2 (by kernel_rfl) ?_
    refine HO.done (by kernel_rfl) ?_
    refine Kloop_norm ?_
    refine HL.round ?_
    refine H.sr 1 (by kernel_rfl) ?_
    refine H.seqP (by kernel_rfl) ?_
    refine H.condT (by kernel_rfl) (by kernel_rfl) ?_
    refine H.skipP (by kernel_rfl) ?_
    refine Kseq_norm ?_
    refine H.seqP (by kernel_rfl) ?_
    refine H.blockI 3 (by kernel_rfl) ?_
    refine H.sr 2 (by kernel_rfl) ?_
    refine H.regP (by kernel_rfl) ?_
    refine HO.goP 12 (by kernel_rfl) ?_
    refine HO.done (by kernel_rfl) ?_
    refine Kblock_norm ?_
    refine Kseq_norm ?_
    refine H.regP (by kernel_rfl) ?_
    refine HO.goP 2 (by kernel_rfl) ?_
    refine HO.done (by kernel_rfl) ?_
    refine Kloop_norm ?_
    refine HL.round ?_
    refine H.sr 1 (by kernel_rfl) ?_
    refine H.seqP (by kernel_rfl) ?_
    refine H.condT (by kernel_rfl) (by kernel_rfl) ?_
    refine H.skipP (by kernel_rfl) ?_
    refine Kseq_norm ?_
    refine H.seqP (by kernel_rfl) ?_
    refine H.blockI 3 (by kernel_rfl) ?_
    refine H.sr 2 (by kernel_rfl) ?_
    refine H.regP (by kernel_rfl) ?_
    refine HO.goP 12 (by kernel_rfl) ?_
    refine HO.done (by kernel_rfl) ?_
    refine Kblock_norm ?_
    refine Kseq_norm ?_
    refine H.regP (by kernel_rfl) ?_
    refine HO.goP 2 (by kernel_rfl) ?_
    refine HO.done (by kernel_rfl) ?_
    refine Kloop_norm ?_
    refine HL.round ?_
    refine H.sr 1 (by kernel_rfl) ?_
    refine H.seqP (by kernel_rfl) ?_
    refine H.condT (by kernel_rfl) (by kernel_rfl) ?_
    refine H.skipP (by kernel_rfl) ?_
    refine Kseq_norm ?_
    refine H.seqP (by kernel_rfl) ?_
    refine H.blockI 3 (by kernel_rfl) ?_
    refine H.sr 2 (by kernel_rfl) ?_
    refine H.regP (by kernel_rfl) ?_
    refine HO.goP 12 (by kernel_rfl) ?_
    refine HO.done (by kernel_rfl) ?_
    refine Kblock_norm ?_
    refine Kseq_norm ?_
    refine H.regP (by kernel_rfl) ?_
    refine HO.goP 2 (by kernel_rfl) ?_
    refine HO.done (by kernel_rfl) ?_
    refine Kloop_norm ?_
    refine HL.round ?_
    refine H.sr 1 (by kernel_rfl) ?_
    refine H.seqP (by kernel_rfl) ?_
    refine H.condF (by kernel_rfl) (by kernel_rfl) ?_
    refine H.exitI 2 (by kernel_rfl) ?_
    refine Kseq_exit ?_
    refine Kloop_exit ?_
    refine Kblock_hit ?_
    refine Kseq_norm ?_
    refine H.sr 2 (by kernel_rfl) ?_
    refine H.retP (by kernel_rfl) ?_
    obtain rfl := Option.some.inj h
    exact KEnd.of (v := .slice (some ⟨0, 0, none⟩) 6 6) (by kernel_rfl) (by kernel_rfl) (PEnd.frz 0 6 6 1 5 true ([(IntKind.u8.wrap (shrI .i64 x 40)), (IntKind.u8.wrap (shrI .i64 x 32)), (IntKind.u8.wrap (shrI .i64 x 24)), (IntKind.u8.wrap (shrI .i64 x 16)), (IntKind.u8.wrap (shrI .i64 x 8)), (IntKind.u8.wrap (shrI .i64 x 0))].map (encI .u8)).toArray [.int .u8 (IntKind.u8.wrap (shrI .i64 x 40)), .int .u8 (IntKind.u8.wrap (shrI .i64 x 32)), .int .u8 (IntKind.u8.wrap (shrI .i64 x 24)), .int .u8 (IntKind.u8.wrap (shrI .i64 x 16)), .int .u8 (IntKind.u8.wrap (shrI .i64 x 8)), .int .u8 (IntKind.u8.wrap (shrI .i64 x 0))] (by kernel_rfl) (PEnd.wk (v1 := ls 1 false (encI .u8) [(IntKind.u8.wrap (shrI .i64 x 40)), (IntKind.u8.wrap (shrI .i64 x 32)), (IntKind.u8.wrap (shrI .i64 x 24)), (IntKind.u8.wrap (shrI .i64 x 16)), (IntKind.u8.wrap (shrI .i64 x 8)), (IntKind.u8.wrap (shrI .i64 x 0))]) (.list 1 false) (by kernel_rfl) (PEnd.fin (by kernel_rfl))))
  rw [if_pos hb] at h
  refine HO.fin 7 (by kernel_rfl) ?_
  refine H.condS (b := !decide ((shrI .i64 x 47) = (-1))) (by kernel_rfl) (by kernel_rfl) (fun hb => ?_) (fun hb => ?_)
  rotate_left
  · rw [if_neg (ne_true hb)] at h
    refine H.exitI 0 (by kernel_rfl) ?_
    refine Kseq_exit ?_
    refine Kloop_exit ?_
    refine Kblock_hit ?_
    refine Kseq_norm ?_
    refine H.sr 3 (by kernel_rfl) ?_
    refine H.seqP (by kernel_rfl) ?_
    refine H.sr 3 (by kernel_rfl) ?_
    refine H.blockI 2 (by kernel_rfl) ?_
    refine H.loopP (by kernel_rfl) ?_
    refine HL.round ?_
    refine H.sr 1 (by kernel_rfl) ?_
    refine H.seqP (by kernel_rfl) ?_
    refine H.condT (by kernel_rfl) (by kernel_rfl) ?_
    refine H.skipP (by kernel_rfl) ?_
    refine Kseq_norm ?_
    refine H.seqP (by kernel_rfl) ?_
    refine H.blockI 3 (by kernel_rfl) ?_
    refine H.sr 2 (by kernel_rfl) ?_
    refine H.regP (by kernel_rfl) ?_
    refine HO.goP 12 (by kernel_rfl) ?_
    refine HO.done (by kernel_rfl) ?_
    refine Kblock_norm ?_
    refine Kseq_norm ?_
    refine H.regP (by kernel_rfl) ?_
    refine HO.goP 2 (by kernel_rfl) ?_
    refine HO.done (by kernel_rfl) ?_
    refine Kloop_norm ?_
    refine HL.round ?_
    refine H.sr 1 (by kernel_rfl) ?_
    refine H.seqP (by kernel_rfl) ?_
    refine H.condT (by kernel_rfl) (by kernel_rfl) ?_
    refine H.skipP (by kernel_rfl) ?_
    refine Kseq_norm ?_
    refine H.seqP (by kernel_rfl) ?_
    refine H.blockI 3 (by kernel_rfl) ?_
    refine H.sr 2 (by kernel_rfl) ?_
    refine H.regP (by kernel_rfl) ?_
    refine HO.goP 12 (by kernel_rfl) ?_
    refine HO.done (by kernel_rfl) ?_
    refine Kblock_norm ?_
    refine Kseq_norm ?_
    refine H.regP (by kernel_rfl) ?_
    refine HO.goP 2 (by kernel_rfl) ?_
    refine HO.done (by kernel_rfl) ?_
    refine Kloop_norm ?_
    refine HL.round ?_
    refine H.sr 1 (by kernel_rfl) ?_
    refine H.seqP (by kernel_rfl) ?_
    refine H.condT (by kernel_rfl) (by kernel_rfl) ?_
    refine H.skipP (by kernel_rfl) ?_
    refine Kseq_norm ?_
    refine H.seqP (by kernel_rfl) ?_
    refine H.blockI 3 (by kernel_rfl) ?_
    refine H.sr 2 (by kernel_rfl) ?_
    refine H.regP (by kernel_rfl) ?_
    refine HO.goP 12 (by kernel_rfl) ?_
    refine HO.done (by kernel_rfl) ?_
    refine Kblock_norm ?_
    refine Kseq_norm ?_
    refine H.regP (by kernel_rfl) ?_
    refine HO.goP 2 (by kernel_rfl) ?_
    refine HO.done (by kernel_rfl) ?_
    refine Kloop_norm ?_
    refine HL.round ?_
    refine H.sr 1 (by kernel_rfl) ?_
    refine H.seqP (by kernel_rfl) ?_
    refine H.condT (by kernel_rfl) (by kernel_rfl) ?_
    refine H.skipP (by kernel_rfl) ?_
    refine Kseq_norm ?_
    refine H.seqP (by kernel_rfl) ?_
    refine H.blockI 3 (by kernel_rfl) ?_
    refine H.sr 2 (by kernel_rfl) ?_
    refine H.regP (by kernel_rfl) ?_
    refine HO.goP 12 (by kernel_rfl) ?_
    refine HO.done (by kernel_rfl) ?_
    refine Kblock_norm ?_
    refine Kseq_norm ?_
    refine H.regP (by kernel_rfl) ?_
    refine HO.goP 2 (by kernel_rfl) ?_
    refine HO.done (by kernel_rfl) ?_
    refine Kloop_norm ?_
    refine HL.round ?_
    refine H.sr 1 (by kernel_rfl) ?_
    refine H.seqP (by kernel_rfl) ?_
    refine H.condT (by kernel_rfl) (by kernel_rfl) ?_
    refine H.skipP (by kernel_rfl) ?_
    refine Kseq_norm ?_
    refine H.seqP (by kernel_rfl) ?_
    refine H.blockI 3 (by kernel_rfl) ?_
    refine H.sr 2 (by kernel_rfl) ?_
    refine H.regP (by kernel_rfl) ?_
    refine HO.goP 12 (by kernel_rfl) ?_
    refine HO.done (by kernel_rfl) ?_
    refine Kblock_norm ?_
    refine Kseq_norm ?_
    refine H.regP (by kernel_rfl) ?_
    refine HO.goP 2 (by kernel_rfl) ?_
    refine HO.done (by kernel_rfl) ?_
    refine Kloop_norm ?_
    refine HL.round ?_
    refine H.sr 1 (by kernel_rfl) ?_
    refine H.seqP (by kernel_rfl) ?_
    refine H.condT (by kernel_rfl) (by kernel_rfl) ?_
    refine H.skipP (by kernel_rfl) ?_
    refine Kseq_norm ?_
    refine H.seqP (by kernel_rfl) ?_
    refine H.blockI 3 (by kernel_rfl) ?_
    refine H.sr 2 (by kernel_rfl) ?_
    refine H.regP (by kernel_rfl) ?_
    refine HO.goP 12 (by kernel_rfl) ?_
    refine HO.done (by kernel_rfl) ?_
    refine Kblock_norm ?_
    refine Kseq_norm ?_
    refine H.regP (by kernel_rfl) ?_
    refine HO.goP 2 (by kernel_rfl) ?_
    refine HO.done (by kernel_rfl) ?_
    refine Kloop_norm ?_
    refine HL.round ?_
    refine H.sr 1 (by kernel_rfl) ?_
    refine H.seqP (by kernel_rfl) ?_
    refine H.condF (by kernel_rfl) (by kernel_rfl) ?_
    refine H.exitI 2 (by kernel_rfl) ?_
    refine Kseq_exit ?_
    refine Kloop_exit ?_
    refine Kblock_hit ?_
    refine Kseq_norm ?_
    refine H.sr 2 (by kernel_rfl) ?_
    refine H.retP (by kernel_rfl) ?_
    obtain rfl := Option.some.inj h
    exact KEnd.of (v := .slice (some ⟨0, 0, none⟩) 6 6) (by kernel_rfl) (by kernel_rfl) (PEnd.frz 0 6 6 1 5 true ([(IntKind.u8.wrap (shrI .i64 x 40)), (IntKind.u8.wrap (shrI .i64 x 32)), (IntKind.u8.wrap (shrI .i64 x 24)), (IntKind.u8.wrap (shrI .i64 x 16)), (IntKind.u8.wrap (shrI .i64 x 8)), (IntKind.u8.wrap (shrI .i64 x 0))].map (encI .u8)).toArray [.int .u8 (IntKind.u8.wrap (shrI .i64 x 40)), .int .u8 (IntKind.u8.wrap (shrI .i64 x 32)), .int .u8 (IntKind.u8.wrap (shrI .i64 x 24)), .int .u8 (IntKind.u8.wrap (shrI .i64 x 16)), .int .u8 (IntKind.u8.wrap (shrI .i64 x 8)), .int .u8 (IntKind.u8.wrap (shrI .i64 x 0))] (by kernel_rfl) (PEnd.wk (v1 := ls 1 false (encI .u8) [(IntKind.u8.wrap (shrI .i64 x 40)), (IntKind.u8.wrap (shrI .i64 x 32)), (IntKind.u8.wrap (shrI .i64 x 24)), (IntKind.u8.wrap (shrI .i64 x 16)), (IntKind.u8.wrap (shrI .i64 x 8)), (IntKind.u8.wrap (shrI .i64 x 0))]) (.list 1 false) (by kernel_rfl) (PEnd.fin (by kernel_rfl))))
  rw [if_pos hb] at h
  refine H.skipP (by kernel_rfl) ?_
  refine Kseq_norm ?_
  refine H.blockI 1 (by kernel_rfl) ?_
  refine H.regP (by kernel_rfl) ?_
  refine HO.goP 3 (by kernel_rfl) ?_
  refine HO.done (by kernel_rfl) ?_
  refine Kblock_norm ?_
  refine Kloop_norm ?_
  refine HL.round ?_
  refine H.seqP (by kernel_rfl) ?_
  refine H.sg (by kernel_rfl) ?_
  refine HO.goP 10 (by kernel_rfl) ?_
  refine HO.boolP (!decide ((shrI .i64 x 55) = 0)) (by kernel_rfl) (by kernel_rfl) (fun hb => ?_) (fun hb => ?_)
  rotate_left
  · rw [if_neg (ne_true hb)] at h
    refine HO.fin 7 (by kernel_rfl) ?_
    refine H.condF (by kernel_rfl) (by kernel_rfl) ?_
    refine H.exitI 0 (by kernel_rfl) ?_
    refine Kseq_exit ?_
    refine Kloop_exit ?_
    refine Kblock_hit ?_
    refine Kseq_norm ?_
    refine H.sr 3 (by kernel_rfl) ?_
    refine H.seqP (by kernel_rfl) ?_
    refine H.sr 3 (by kernel_rfl) ?_
    refine H.blockI 2 (by kernel_rfl) ?_
    refine H.loopP (by kernel_rfl) ?_
    refine HL.round ?_
    refine H.sr 1 (by kernel_rfl) ?_
    refine H.seqP (by kernel_rfl) ?_
    refine H.condT (by kernel_rfl) (by kernel_rfl) ?_
    refine H.skipP (by kernel_rfl) ?_
    refine Kseq_norm ?_
    refine H.seqP (by kernel_rfl) ?_
    refine H.blockI 3 (by kernel_rfl) ?_
    refine H.sr 2 (by kernel_rfl) ?_
    refine H.regP (by kernel_rfl) ?_
    refine HO.goP 12 (by kernel_rfl) ?_
    refine HO.done (by kernel_rfl) ?_
    refine Kblock_norm ?_
    refine Kseq_norm ?_
    refine H.regP (by kernel_rfl) ?_
    refine HO.goP 2 (by kernel_rfl) ?_
    refine HO.done (by kernel_rfl) ?_
    refine Kloop_norm ?_
    refine HL.round ?_
    refine H.sr 1 (by kernel_rfl) ?_
    refine H.seqP (by kernel_rfl) ?_
    refine H.condT (by kernel_rfl) (by kernel_rfl) ?_
    refine H.skipP (by kernel_rfl) ?_
    refine Kseq_norm ?_
    refine H.seqP (by kernel_rfl) ?_
    refine H.blockI 3 (by kernel_rfl) ?_
    refine H.sr 2 (by kernel_rfl) ?_
    refine H.regP (by kernel_rfl) ?_
    refine HO.goP 12 (by kernel_rfl) ?_
    refine HO.done (by kernel_rfl) ?_
    refine Kblock_norm ?_
    refine Kseq_norm ?_
    refine H.regP (by kernel_rfl) ?_
    refine HO.goP 2 (by kernel_rfl) ?_
    refine HO.done (by kernel_rfl) ?_
    refine Kloop_norm ?_
    refine HL.round ?_
    refine H.sr 1 (by kernel_rfl) ?_
    refine H.seqP (by kernel_rfl) ?_
    refine H.condT (by kernel_rfl) (by kernel_rfl) ?_
    refine H.skipP (by kernel_rfl) ?_
    refine Kseq_norm ?_
    refine H.seqP (by kernel_rfl) ?_
    refine H.blockI 3 (by kernel_rfl) ?_
    refine H.sr 2 (by kernel_rfl) ?_
    refine H.regP (by kernel_rfl) ?_
    refine HO.goP 12 (by kernel_rfl) ?_
    refine HO.done (by kernel_rfl) ?_
    refine Kblock_norm ?_
    refine Kseq_norm ?_
    refine H.regP (by kernel_rfl) ?_
    refine HO.goP 2 (by kernel_rfl) ?_
    refine HO.done (by kernel_rfl) ?_
    refine Kloop_norm ?_
    refine HL.round ?_
    refine H.sr 1 (by kernel_rfl) ?_
    refine H.seqP (by kernel_rfl) ?_
    refine H.condT (by kernel_rfl) (by kernel_rfl) ?_
    refine H.skipP (by kernel_rfl) ?_
    refine Kseq_norm ?_
    refine H.seqP (by kernel_rfl) ?_
    refine H.blockI 3 (by kernel_rfl) ?_
    refine H.sr 2 (by kernel_rfl) ?_
    refine H.regP (by kernel_rfl) ?_
    refine HO.goP 12 (by kernel_rfl) ?_
    refine HO.done (by kernel_rfl) ?_
    refine Kblock_norm ?_
    refine Kseq_norm ?_
    refine H.regP (by kernel_rfl) ?_
    refine HO.goP 2 (by kernel_rfl) ?_
    refine HO.done (by kernel_rfl) ?_
    refine Kloop_norm ?_
    refine HL.round ?_
    refine H.sr 1 (by kernel_rfl) ?_
    refine H.seqP (by kernel_rfl) ?_
    refine H.condT (by kernel_rfl) (by kernel_rfl) ?_
    refine H.skipP (by kernel_rfl) ?_
    refine Kseq_norm ?_
    refine H.seqP (by kernel_rfl) ?_
    refine H.blockI 3 (by kernel_rfl) ?_
    refine H.sr 2 (by kernel_rfl) ?_
    refine H.regP (by kernel_rfl) ?_
    refine HO.goP 12 (by kernel_rfl) ?_
    refine HO.done (by kernel_rfl) ?_
    refine Kblock_norm ?_
    refine Kseq_norm ?_
    refine H.regP (by kernel_rfl) ?_
    refine HO.goP 2 (by kernel_rfl) ?_
    refine HO.done (by kernel_rfl) ?_
    refine Kloop_norm ?_
    refine HL.round ?_
    refine H.sr 1 (by kernel_rfl) ?_
    refine H.seqP (by kernel_rfl) ?_
    refine H.condT (by kernel_rfl) (by kernel_rfl) ?_
    refine H.skipP (by kernel_rfl) ?_
    refine Kseq_norm ?_
    refine H.seqP (by kernel_rfl) ?_
    refine H.blockI 3 (by kernel_rfl) ?_
    refine H.sr 2 (by kernel_rfl) ?_
    refine H.regP (by kernel_rfl) ?_
    refine HO.goP 12 (by kernel_rfl) ?_
    refine HO.done (by kernel_rfl) ?_
    refine Kblock_norm ?_
    refine Kseq_norm ?_
    refine H.regP (by kernel_rfl) ?_
    refine HO.goP 2 (by kernel_rfl) ?_
    refine HO.done (by kernel_rfl) ?_
    refine Kloop_norm ?_
    refine HL.round ?_
    refine H.sr 1 (by kernel_rfl) ?_
    refine H.seqP (by kernel_rfl) ?_
    refine H.condT (by kernel_rfl) (by kernel_rfl) ?_
    refine H.skipP (by kernel_rfl) ?_
    refine Kseq_norm ?_
    refine H.seqP (by kernel_rfl) ?_
    refine H.blockI 3 (by kernel_rfl) ?_
    refine H.sr 2 (by kernel_rfl) ?_
    refine H.regP (by kernel_rfl) ?_
    refine HO.goP 12 (by kernel_rfl) ?_
    refine HO.done (by kernel_rfl) ?_
    refine Kblock_norm ?_
    refine Kseq_norm ?_
    refine H.regP (by kernel_rfl) ?_
    refine HO.goP 2 (by kernel_rfl) ?_
    refine HO.done (by kernel_rfl) ?_
    refine Kloop_norm ?_
    refine HL.round ?_
    refine H.sr 1 (by kernel_rfl) ?_
    refine H.seqP (by kernel_rfl) ?_
    refine H.condF (by kernel_rfl) (by kernel_rfl) ?_
    refine H.exitI 2 (by kernel_rfl) ?_
    refine Kseq_exit ?_
    refine Kloop_exit ?_
    refine Kblock_hit ?_
    refine Kseq_norm ?_
    refine H.sr 2 (by kernel_rfl) ?_
    refine H.retP (by kernel_rfl) ?_
    obtain rfl := Option.some.inj h
    exact KEnd.of (v := .slice (some ⟨0, 0, none⟩) 7 7) (by kernel_rfl) (by kernel_rfl) (PEnd.frz 0 7 7 1 5 true ([(IntKind.u8.wrap (shrI .i64 x 48)), (IntKind.u8.wrap (shrI .i64 x 40)), (IntKind.u8.wrap (shrI .i64 x 32)), (IntKind.u8.wrap (shrI .i64 x 24)), (IntKind.u8.wrap (shrI .i64 x 16)), (IntKind.u8.wrap (shrI .i64 x 8)), (IntKind.u8.wrap (shrI .i64 x 0))].map (encI .u8)).toArray [.int .u8 (IntKind.u8.wrap (shrI .i64 x 48)), .int .u8 (IntKind.u8.wrap (shrI .i64 x 40)), .int .u8 (IntKind.u8.wrap (shrI .i64 x 32)), .int .u8 (IntKind.u8.wrap (shrI .i64 x 24)), .int .u8 (IntKind.u8.wrap (shrI .i64 x 16)), .int .u8 (IntKind.u8.wrap (shrI .i64 x 8)), .int .u8 (IntKind.u8.wrap (shrI .i64 x 0))] (by kernel_rfl) (PEnd.wk (v1 := ls 1 false (encI .u8) [(IntKind.u8.wrap (shrI .i64 x 48)), (IntKind.u8.wrap (shrI .i64 x 40)), (IntKind.u8.wrap (shrI .i64 x 32)), (IntKind.u8.wrap (shrI .i64 x 24)), (IntKind.u8.wrap (shrI .i64 x 16)), (IntKind.u8.wrap (shrI .i64 x 8)), (IntKind.u8.wrap (shrI .i64 x 0))]) (.list 1 false) (by kernel_rfl) (PEnd.fin (by kernel_rfl))))
  rw [if_pos hb] at h
  refine HO.fin 7 (by kernel_rfl) ?_
  refine H.condS (b := !decide ((shrI .i64 x 55) = (-1))) (by kernel_rfl) (by kernel_rfl) (fun hb => ?_) (fun hb => ?_)
  rotate_left
  · rw [if_neg (ne_true hb)] at h
    refine H.exitI 0 (by kernel_rfl) ?_
    refine Kseq_exit ?_
    refine Kloop_exit ?_
    refine Kblock_hit ?_
    refine Kseq_norm ?_
    refine H.sr 3 (by kernel_rfl) ?_
    refine H.seqP (by kernel_rfl) ?_
    refine H.sr 3 (by kernel_rfl) ?_
    refine H.blockI 2 (by kernel_rfl) ?_
    refine H.loopP (by kernel_rfl) ?_
    refine HL.round ?_
    refine H.sr 1 (by kernel_rfl) ?_
    refine H.seqP (by kernel_rfl) ?_
    refine H.condT (by kernel_rfl) (by kernel_rfl) ?_
    refine H.skipP (by kernel_rfl) ?_
    refine Kseq_norm ?_
    refine H.seqP (by kernel_rfl) ?_
    refine H.blockI 3 (by kernel_rfl) ?_
    refine H.sr 2 (by kernel_rfl) ?_
    refine H.regP (by kernel_rfl) ?_
    refine HO.goP 12 (by kernel_rfl) ?_
    refine HO.done (by kernel_rfl) ?_
    refine Kblock_norm ?_
    refine Kseq_norm ?_
    refine H.regP (by kernel_rfl) ?_
    refine HO.goP 2 (by kernel_rfl) ?_
    refine HO.done (by kernel_rfl) ?_
    refine Kloop_norm ?_
    refine HL.round ?_
    refine H.sr 1 (by kernel_rfl) ?_
    refine H.seqP (by kernel_rfl) ?_
    refine H.condT (by kernel_rfl) (by kernel_rfl) ?_
    refine H.skipP (by kernel_rfl) ?_
    refine Kseq_norm ?_
    refine H.seqP (by kernel_rfl) ?_
    refine H.blockI 3 (by kernel_rfl) ?_
    refine H.sr 2 (by kernel_rfl) ?_
    refine H.regP (by kernel_rfl) ?_
    refine HO.goP 12 (by kernel_rfl) ?_
    refine HO.done (by kernel_rfl) ?_
    refine Kblock_norm ?_
    refine Kseq_norm ?_
    refine H.regP (by kernel_rfl) ?_
    refine HO.goP 2 (by kernel_rfl) ?_
    refine HO.done (by kernel_rfl) ?_
    refine Kloop_norm ?_
    refine HL.round ?_
    refine H.sr 1 (by kernel_rfl) ?_
    refine H.seqP (by kernel_rfl) ?_
    refine H.condT (by kernel_rfl) (by kernel_rfl) ?_
    refine H.skipP (by kernel_rfl) ?_
    refine Kseq_norm ?_
    refine H.seqP (by kernel_rfl) ?_
    refine H.blockI 3 (by kernel_rfl) ?_
    refine H.sr 2 (by kernel_rfl) ?_
    refine H.regP (by kernel_rfl) ?_
    refine HO.goP 12 (by kernel_rfl) ?_
    refine HO.done (by kernel_rfl) ?_
    refine Kblock_norm ?_
    refine Kseq_norm ?_
    refine H.regP (by kernel_rfl) ?_
    refine HO.goP 2 (by kernel_rfl) ?_
    refine HO.done (by kernel_rfl) ?_
    refine Kloop_norm ?_
    refine HL.round ?_
    refine H.sr 1 (by kernel_rfl) ?_
    refine H.seqP (by kernel_rfl) ?_
    refine H.condT (by kernel_rfl) (by kernel_rfl) ?_
    refine H.skipP (by kernel_rfl) ?_
    refine Kseq_norm ?_
    refine H.seqP (by kernel_rfl) ?_
    refine H.blockI 3 (by kernel_rfl) ?_
    refine H.sr 2 (by kernel_rfl) ?_
    refine H.regP (by kernel_rfl) ?_
    refine HO.goP 12 (by kernel_rfl) ?_
    refine HO.done (by kernel_rfl) ?_
    refine Kblock_norm ?_
    refine Kseq_norm ?_
    refine H.regP (by kernel_rfl) ?_
    refine HO.goP 2 (by kernel_rfl) ?_
    refine HO.done (by kernel_rfl) ?_
    refine Kloop_norm ?_
    refine HL.round ?_
    refine H.sr 1 (by kernel_rfl) ?_
    refine H.seqP (by kernel_rfl) ?_
    refine H.condT (by kernel_rfl) (by kernel_rfl) ?_
    refine H.skipP (by kernel_rfl) ?_
    refine Kseq_norm ?_
    refine H.seqP (by kernel_rfl) ?_
    refine H.blockI 3 (by kernel_rfl) ?_
    refine H.sr 2 (by kernel_rfl) ?_
    refine H.regP (by kernel_rfl) ?_
    refine HO.goP 12 (by kernel_rfl) ?_
    refine HO.done (by kernel_rfl) ?_
    refine Kblock_norm ?_
    refine Kseq_norm ?_
    refine H.regP (by kernel_rfl) ?_
    refine HO.goP 2 (by kernel_rfl) ?_
    refine HO.done (by kernel_rfl) ?_
    refine Kloop_norm ?_
    refine HL.round ?_
    refine H.sr 1 (by kernel_rfl) ?_
    refine H.seqP (by kernel_rfl) ?_
    refine H.condT (by kernel_rfl) (by kernel_rfl) ?_
    refine H.skipP (by kernel_rfl) ?_
    refine Kseq_norm ?_
    refine H.seqP (by kernel_rfl) ?_
    refine H.blockI 3 (by kernel_rfl) ?_
    refine H.sr 2 (by kernel_rfl) ?_
    refine H.regP (by kernel_rfl) ?_
    refine HO.goP 12 (by kernel_rfl) ?_
    refine HO.done (by kernel_rfl) ?_
    refine Kblock_norm ?_
    refine Kseq_norm ?_
    refine H.regP (by kernel_rfl) ?_
    refine HO.goP 2 (by kernel_rfl) ?_
    refine HO.done (by kernel_rfl) ?_
    refine Kloop_norm ?_
    refine HL.round ?_
    refine H.sr 1 (by kernel_rfl) ?_
    refine H.seqP (by kernel_rfl) ?_
    refine H.condT (by kernel_rfl) (by kernel_rfl) ?_
    refine H.skipP (by kernel_rfl) ?_
    refine Kseq_norm ?_
    refine H.seqP (by kernel_rfl) ?_
    refine H.blockI 3 (by kernel_rfl) ?_
    refine H.sr 2 (by kernel_rfl) ?_
    refine H.regP (by kernel_rfl) ?_
    refine HO.goP 12 (by kernel_rfl) ?_
    refine HO.done (by kernel_rfl) ?_
    refine Kblock_norm ?_
    refine Kseq_norm ?_
    refine H.regP (by kernel_rfl) ?_
    refine HO.goP 2 (by kernel_rfl) ?_
    refine HO.done (by kernel_rfl) ?_
    refine Kloop_norm ?_
    refine HL.round ?_
    refine H.sr 1 (by kernel_rfl) ?_
    refine H.seqP (by kernel_rfl) ?_
    refine H.condF (by kernel_rfl) (by kernel_rfl) ?_
    refine H.exitI 2 (by kernel_rfl) ?_
    refine Kseq_exit ?_
    refine Kloop_exit ?_
    refine Kblock_hit ?_
    refine Kseq_norm ?_
    refine H.sr 2 (by kernel_rfl) ?_
    refine H.retP (by kernel_rfl) ?_
    obtain rfl := Option.some.inj h
    exact KEnd.of (v := .slice (some ⟨0, 0, none⟩) 7 7) (by kernel_rfl) (by kernel_rfl) (PEnd.frz 0 7 7 1 5 true ([(IntKind.u8.wrap (shrI .i64 x 48)), (IntKind.u8.wrap (shrI .i64 x 40)), (IntKind.u8.wrap (shrI .i64 x 32)), (IntKind.u8.wrap (shrI .i64 x 24)), (IntKind.u8.wrap (shrI .i64 x 16)), (IntKind.u8.wrap (shrI .i64 x 8)), (IntKind.u8.wrap (shrI .i64 x 0))].map (encI .u8)).toArray [.int .u8 (IntKind.u8.wrap (shrI .i64 x 48)), .int .u8 (IntKind.u8.wrap (shrI .i64 x 40)), .int .u8 (IntKind.u8.wrap (shrI .i64 x 32)), .int .u8 (IntKind.u8.wrap (shrI .i64 x 24)), .int .u8 (IntKind.u8.wrap (shrI .i64 x 16)), .int .u8 (IntKind.u8.wrap (shrI .i64 x 8)), .int .u8 (IntKind.u8.wrap (shrI .i64 x 0))] (by kernel_rfl) (PEnd.wk (v1 := ls 1 false (encI .u8) [(IntKind.u8.wrap (shrI .i64 x 48)), (IntKind.u8.wrap (shrI .i64 x 40)), (IntKind.u8.wrap (shrI .i64 x 32)), (IntKind.u8.wrap (shrI .i64 x 24)), (IntKind.u8.wrap (shrI .i64 x 16)), (IntKind.u8.wrap (shrI .i64 x 8)), (IntKind.u8.wrap (shrI .i64 x 0))]) (.list 1 false) (by kernel_rfl) (PEnd.fin (by kernel_rfl))))
  rw [if_pos hb] at h
  refine H.skipP (by kernel_rfl) ?_
  refine Kseq_norm ?_
  refine H.blockI 1 (by kernel_rfl) ?_
  refine H.regP (by kernel_rfl) ?_
  refine HO.goP 3 (by kernel_rfl) ?_
  refine HO.done (by kernel_rfl) ?_
  refine Kblock_norm ?_
  refine Kloop_norm ?_
  refine HL.round ?_
  refine H.seqP (by kernel_rfl) ?_
  refine H.sr 18 (by kernel_rfl) ?_
  refine H.condF (by kernel_rfl) (by kernel_rfl) ?_
  refine H.exitI 0 (by kernel_rfl) ?_
  refine Kseq_exit ?_
  refine Kloop_exit ?_
  refine Kblock_hit ?_
  refine Kseq_norm ?_
  refine H.sr 3 (by kernel_rfl) ?_
  refine H.seqP (by kernel_rfl) ?_
  refine H.sr 3 (by kernel_rfl) ?_
  refine H.blockI 2 (by kernel_rfl) ?_
  refine H.loopP (by kernel_rfl) ?_
  refine HL.round ?_
  refine H.sr 1 (by kernel_rfl) ?_
  refine H.seqP (by kernel_rfl) ?_
  refine H.condT (by kernel_rfl) (by kernel_rfl) ?_
  refine H.skipP (by kernel_rfl) ?_
  refine Kseq_norm ?_
  refine H.seqP (by kernel_rfl) ?_
  refine H.blockI 3 (by kernel_rfl) ?_
  refine H.sr 2 (by kernel_rfl) ?_
  refine H.regP (by kernel_rfl) ?_
  refine HO.goP 12 (by kernel_rfl) ?_
  refine HO.done (by kernel_rfl) ?_
  refine Kblock_norm ?_
  refine Kseq_norm ?_
  refine H.regP (by kernel_rfl) ?_
  refine HO.goP 2 (by kernel_rfl) ?_
  refine HO.done (by kernel_rfl) ?_
  refine Kloop_norm ?_
  refine HL.round ?_
  refine H.sr 1 (by kernel_rfl) ?_
  refine H.seqP (by kernel_rfl) ?_
  refine H.condT (by kernel_rfl) (by kernel_rfl) ?_
  refine H.skipP (by kernel_rfl) ?_
  refine Kseq_norm ?_
  refine H.seqP (by kernel_rfl) ?_
  refine H.blockI 3 (by kernel_rfl) ?_
  refine H.sr 2 (by kernel_rfl) ?_
  refine H.regP (by kernel_rfl) ?_
  refine HO.goP 12 (by kernel_rfl) ?_
  refine HO.done (by kernel_rfl) ?_
  refine Kblock_norm ?_
  refine Kseq_norm ?_
  refine H.regP (by kernel_rfl) ?_
  refine HO.goP 2 (by kernel_rfl) ?_
  refine HO.done (by kernel_rfl) ?_
  refine Kloop_norm ?_
  refine HL.round ?_
  refine H.sr 1 (by kernel_rfl) ?_
  refine H.seqP (by kernel_rfl) ?_
  refine H.condT (by kernel_rfl) (by kernel_rfl) ?_
  refine H.skipP (by kernel_rfl) ?_
  refine Kseq_norm ?_
  refine H.seqP (by kernel_rfl) ?_
  refine H.blockI 3 (by kernel_rfl) ?_
  refine H.sr 2 (by kernel_rfl) ?_
  refine H.regP (by kernel_rfl) ?_
  refine HO.goP 12 (by kernel_rfl) ?_
  refine HO.done (by kernel_rfl) ?_
  refine Kblock_norm ?_
  refine Kseq_norm ?_
  refine H.regP (by kernel_rfl) ?_
  refine HO.goP 2 (by kernel_rfl) ?_
  refine HO.done (by kernel_rfl) ?_
  refine Kloop_norm ?_
  refine HL.round ?_
  refine H.sr 1 (by kernel_rfl) ?_
  refine H.seqP (by kernel_rfl) ?_
  refine H.condT (by kernel_rfl) (by kernel_rfl) ?_
  refine H.skipP (by kernel_rfl) ?_
  refine Kseq_norm ?_
  refine H.seqP (by kernel_rfl) ?_
  refine H.blockI 3 (by kernel_rfl) ?_
  refine H.sr 2 (by kernel_rfl) ?_
  refine H.regP (by kernel_rfl) ?_
  refine HO.goP 12 (by kernel_rfl) ?_
  refine HO.done (by kernel_rfl) ?_
  refine Kblock_norm ?_
  refine Kseq_norm ?_
  refine H.regP (by kernel_rfl) ?_
  refine HO.goP 2 (by kernel_rfl) ?_
  refine HO.done (by kernel_rfl) ?_
  refine Kloop_norm ?_
  refine HL.round ?_
  refine H.sr 1 (by kernel_rfl) ?_
  refine H.seqP (by kernel_rfl) ?_
  refine H.condT (by kernel_rfl) (by kernel_rfl) ?_
  refine H.skipP (by kernel_rfl) ?_
  refine Kseq_norm ?_
  refine H.seqP (by kernel_rfl) ?_
  refine H.blockI 3 (by kernel_rfl) ?_
  refine H.sr 2 (by kernel_rfl) ?_
  refine H.regP (by kernel_rfl) ?_
  refine HO.goP 12 (by kernel_rfl) ?_
  refine HO.done (by kernel_rfl) ?_
  refine Kblock_norm ?_
  refine Kseq_norm ?_
  refine H.regP (by kernel_rfl) ?_
  refine HO.goP 2 (by kernel_rfl) ?_
  refine HO.done (by kernel_rfl) ?_
  refine Kloop_norm ?_
  refine HL.round ?_
  refine H.sr 1 (by kernel_rfl) ?_
  refine H.seqP (by kernel_rfl) ?_
  refine H.condT (by kernel_rfl) (by kernel_rfl) ?_
  refine H.skipP (by kernel_rfl) ?_
  refine Kseq_norm ?_
  refine H.seqP (by kernel_rfl) ?_
  refine H.blockI 3 (by kernel_rfl) ?_
  refine H.sr 2 (by kernel_rfl) ?_
  refine H.regP (by kernel_rfl) ?_
  refine HO.goP 12 (by kernel_rfl) ?_
  refine HO.done (by kernel_rfl) ?_
  refine Kblock_norm ?_
  refine Kseq_norm ?_
  refine H.regP (by kernel_rfl) ?_
  refine HO.goP 2 (by kernel_rfl) ?_
  refine HO.done (by kernel_rfl) ?_
  refine Kloop_norm ?_
  refine HL.round ?_
  refine H.sr 1 (by kernel_rfl) ?_
  refine H.seqP (by kernel_rfl) ?_
  refine H.condT (by kernel_rfl) (by kernel_rfl) ?_
  refine H.skipP (by kernel_rfl) ?_
  refine Kseq_norm ?_
  refine H.seqP (by kernel_rfl) ?_
  refine H.blockI 3 (by kernel_rfl) ?_
  refine H.sr 2 (by kernel_rfl) ?_
  refine H.regP (by kernel_rfl) ?_
  refine HO.goP 12 (by kernel_rfl) ?_
  refine HO.done (by kernel_rfl) ?_
  refine Kblock_norm ?_
  refine Kseq_norm ?_
  refine H.regP (by kernel_rfl) ?_
  refine HO.goP 2 (by kernel_rfl) ?_
  refine HO.done (by kernel_rfl) ?_
  refine Kloop_norm ?_
  refine HL.round ?_
  refine H.sr 1 (by kernel_rfl) ?_
  refine H.seqP (by kernel_rfl) ?_
  refine H.condT (by kernel_rfl) (by kernel_rfl) ?_
  refine H.skipP (by kernel_rfl) ?_
  refine Kseq_norm ?_
  refine H.seqP (by kernel_rfl) ?_
  refine H.blockI 3 (by kernel_rfl) ?_
  refine H.sr 2 (by kernel_rfl) ?_
  refine H.regP (by kernel_rfl) ?_
  refine HO.goP 12 (by kernel_rfl) ?_
  refine HO.done (by kernel_rfl) ?_
  refine Kblock_norm ?_
  refine Kseq_norm ?_
  refine H.regP (by kernel_rfl) ?_
  refine HO.goP 2 (by kernel_rfl) ?_
  refine HO.done (by kernel_rfl) ?_
  refine Kloop_norm ?_
  refine HL.round ?_
  refine H.sr 1 (by kernel_rfl) ?_
  refine H.seqP (by kernel_rfl) ?_
  refine H.condF (by kernel_rfl) (by kernel_rfl) ?_
  refine H.exitI 2 (by kernel_rfl) ?_
  refine Kseq_exit ?_
  refine Kloop_exit ?_
  refine Kblock_hit ?_
  refine Kseq_norm ?_
  refine H.sr 2 (by kernel_rfl) ?_
  refine H.retP (by kernel_rfl) ?_
  obtain rfl := Option.some.inj h
  exact KEnd.of (v := .slice (some ⟨0, 0, none⟩) 8 8) (by kernel_rfl) (by kernel_rfl) (PEnd.frz 0 8 8 1 5 true ([(IntKind.u8.wrap (shrI .i64 x 56)), (IntKind.u8.wrap (shrI .i64 x 48)), (IntKind.u8.wrap (shrI .i64 x 40)), (IntKind.u8.wrap (shrI .i64 x 32)), (IntKind.u8.wrap (shrI .i64 x 24)), (IntKind.u8.wrap (shrI .i64 x 16)), (IntKind.u8.wrap (shrI .i64 x 8)), (IntKind.u8.wrap (shrI .i64 x 0))].map (encI .u8)).toArray [.int .u8 (IntKind.u8.wrap (shrI .i64 x 56)), .int .u8 (IntKind.u8.wrap (shrI .i64 x 48)), .int .u8 (IntKind.u8.wrap (shrI .i64 x 40)), .int .u8 (IntKind.u8.wrap (shrI .i64 x 32)), .int .u8 (IntKind.u8.wrap (shrI .i64 x 24)), .int .u8 (IntKind.u8.wrap (shrI .i64 x 16)), .int .u8 (IntKind.u8.wrap (shrI .i64 x 8)), .int .u8 (IntKind.u8.wrap (shrI .i64 x 0))] (by kernel_rfl) (PEnd.wk (v1 := ls 1 false (encI .u8) [(IntKind.u8.wrap (shrI .i64 x 56)), (IntKind.u8.wrap (shrI .i64 x 48)), (IntKind.u8.wrap (shrI .i64 x 40)), (IntKind.u8.wrap (shrI .i64 x 32)), (IntKind.u8.wrap (shrI .i64 x 24)), (IntKind.u8.wrap (shrI .i64 x 16)), (IntKind.u8.wrap (shrI .i64 x 8)), (IntKind.u8.wrap (shrI .i64 x 0))]) (.list 1 false) (by kernel_rfl) (PEnd.fin (by kernel_rfl))))
def numberC (x : Int × Int × Int) : Option (Int × Int × Bool × (List Int) × (List S36)) :=
  (intC x.2.2) >>= fun y1 =>
  some (x.1, x.2.1, false, y1, [])
theorem numberC_ok : ∀ (x : Int × Int × Int) (r : Int × Int × Bool × (List Int) × (List S36)), numberC x = some r → ∀ W0 : World, PTo Tryd.prog W0 90 #[.int .u8 x.1, .int .u32 x.2.1, .int .i64 x.2.2] (.returned (.agg #[.int .u8 r.1, .int .u32 r.2.1, .bool r.2.2.1, ls 1 false (encI .u8) r.2.2.2.1, ls 5 false enc36 r.2.2.2.2])) := by
  intro x r h
  unfold numberC at h
  intro W0
  refine PTo.of_body (fn := Tryd.f90) (code := cB Tryd.f90) Tryd.func90 rfl rfl ?_
  intro w0 S hS
  haveI := hS.noEx Tryd.prog
  refine H.sr 1 (by kernel_rfl) ?_
  refine H.sg (by kernel_rfl) ?_
  refine HO.goP 3 (by kernel_rfl) ?_
  obtain ⟨y1, hy, h⟩ := bindS h
  refine HO.callW hS [.keep] (intC_ok x.2.2 y1 hy W0) (by kernel_rfl) (by kernel_rfl) ?_
  refine HO.fin 2 (by kernel_rfl) ?_
  refine H.retP (by kernel_rfl) ?_
  obtain rfl := Option.some.inj h
  exact KEnd.retW (v := .agg #[.int .u8 x.1, .int .u32 x.2.1, .bool false, ls 1 false (encI .u8) y1, .slice none 0 0]) (.agg [.keep, .keep, .keep, .list 1 false, .list 5 false]) (by kernel_rfl) (by kernel_rfl) (by kernel_rfl) (by kernel_rfl)
def clipT (x : (List S36)) : Option ((List S36)) :=
  (sub' x 0 (x.length : Int)) >>= fun y1 =>
  some y1
theorem clipT_ok : ∀ (x : (List S36)) (r : (List S36)), clipT x = some r → ∀ W0 : World, PTo Tryd.prog W0 75 #[ls 5 false enc36 x] (.returned (ls 5 true enc36 r)) := by
  intro x r h
  unfold clipT at h
  intro W0
  refine PTo.of_body (fn := Tryd.f75) (code := cB Tryd.f75) Tryd.func75 rfl rfl ?_
  intro w0 S hS
  haveI := hS.noEx Tryd.prog
  refine H.sr 1 (by kernel_rfl) ?_
  refine H.sg (by kernel_rfl) ?_
  refine HO.goP 2 (by kernel_rfl) ?_
  refine HO.len (by kernel_rfl) (by kernel_rfl) (ls_size enc36 x) ?_
  refine HO.goP 1 (by kernel_rfl) ?_
  refine HO.len (by kernel_rfl) (by kernel_rfl) (ls_size enc36 x) ?_
  obtain ⟨y1, hy, h⟩ := bindS h
  refine HO.valA (sl4_aop (enc := enc36) (k := 5) (j := .i64) (j' := .i64) false hy (by kernel_rfl)) ?_
  refine HO.fin 1 (by kernel_rfl) ?_
  refine H.retP (by kernel_rfl) ?_
  obtain rfl := Option.some.inj h
  exact KEnd.retW (v := ls 5 true enc36 y1) (.list 5 true) (by kernel_rfl) (by kernel_rfl) (by kernel_rfl) (by kernel_rfl)
def clip (x : (List Int)) : Option ((List Int)) :=
  (sub' x 0 (x.length : Int)) >>= fun y1 =>
  some y1
theorem clip_ok : ∀ (x : (List Int)) (r : (List Int)), clip x = some r → ∀ W0 : World, PTo Tryd.prog W0 57 #[ls 1 false (encI .u8) x] (.returned (ls 1 true (encI .u8) r)) := by
  intro x r h
  unfold clip at h
  intro W0
  refine PTo.of_body (fn := Tryd.f57) (code := cB Tryd.f57) Tryd.func57 rfl rfl ?_
  intro w0 S hS
  haveI := hS.noEx Tryd.prog
  refine H.sr 1 (by kernel_rfl) ?_
  refine H.sg (by kernel_rfl) ?_
  refine HO.goP 2 (by kernel_rfl) ?_
  refine HO.len (by kernel_rfl) (by kernel_rfl) (ls_size (encI .u8) x) ?_
  refine HO.goP 1 (by kernel_rfl) ?_
  refine HO.len (by kernel_rfl) (by kernel_rfl) (ls_size (encI .u8) x) ?_
  obtain ⟨y1, hy, h⟩ := bindS h
  refine HO.valA (sl4_aop (enc := (encI .u8)) (k := 1) (j := .i64) (j' := .i64) false hy (by kernel_rfl)) ?_
  refine HO.fin 1 (by kernel_rfl) ?_
  refine H.retP (by kernel_rfl) ?_
  obtain rfl := Option.some.inj h
  exact KEnd.retW (v := ls 1 true (encI .u8) y1) (.list 1 true) (by kernel_rfl) (by kernel_rfl) (by kernel_rfl) (by kernel_rfl)
def cpTreeI (x : Int × Int × Int × Int × Int × (List Int)) : Option (Int × Int × Bool × (List Int) × (List S36)) :=
  if x.2.1 < 0 then
    if x.1 = 5 then
      (numberC (2, 1, (IntKind.i64.wrap x.2.2.2.2.1))) >>= fun y1 =>
      (clipT [(S36.mk 0 5 false [] []), (S36.mk y1.1 y1.2.1 y1.2.2.1 y1.2.2.2.1 y1.2.2.2.2)]) >>= fun y2 =>
      some (2, (IntKind.u32.wrap x.1), true, [], y2)
    else
      if x.1 = 1 then
        if 0 ≤ x.2.2.1 then
          (numberC (2, 0, x.2.2.1)) >>= fun y3 =>
          (numberC (0, 10, x.2.2.2.1)) >>= fun y4 =>
          (cloneS x.2.2.2.2.2) >>= fun y5 =>
          (clip y5) >>= fun y6 =>
          (clipT [(S36.mk 0 5 false [] []), (S36.mk y3.1 y3.2.1 y3.2.2.1 y3.2.2.2.1 y3.2.2.2.2), (S36.mk y4.1 y4.2.1 y4.2.2.1 y4.2.2.2.1 y4.2.2.2.2), (S36.mk 0 4 false y6 [])]) >>= fun y7 =>
          some (2, (IntKind.u32.wrap x.1), true, [], y7)
        else
          (numberC (0, 10, x.2.2.2.1)) >>= fun y8 =>
          (cloneS x.2.2.2.2.2) >>= fun y9 =>
          (clip y9) >>= fun y10 =>
          (clipT [(S36.mk 0 5 false [] []), (S36.mk y8.1 y8.2.1 y8.2.2.1 y8.2.2.2.1 y8.2.2.2.2), (S36.mk 0 4 false y10 [])]) >>= fun y11 =>
          some (2, (IntKind.u32.wrap x.1), true, [], y11)
      else
        (numberC (0, 10, x.2.2.2.1)) >>= fun y12 =>
        (cloneS x.2.2.2.2.2) >>= fun y13 =>
        (clip y13) >>= fun y14 =>
        (clipT [(S36.mk 0 5 false [] []), (S36.mk y12.1 y12.2.1 y12.2.2.1 y12.2.2.2.1 y12.2.2.2.2), (S36.mk 0 4 false y14 [])]) >>= fun y15 =>
        some (2, (IntKind.u32.wrap x.1), true, [], y15)
  else
    (numberC (0, 2, x.2.1)) >>= fun y16 =>
    if x.1 = 5 then
      (numberC (2, 1, (IntKind.i64.wrap x.2.2.2.2.1))) >>= fun y17 =>
      (clipT [(S36.mk y16.1 y16.2.1 y16.2.2.1 y16.2.2.2.1 y16.2.2.2.2), (S36.mk y17.1 y17.2.1 y17.2.2.1 y17.2.2.2.1 y17.2.2.2.2)]) >>= fun y18 =>
      some (2, (IntKind.u32.wrap x.1), true, [], y18)
    else
      if x.1 = 1 then
        if 0 ≤ x.2.2.1 then
          (numberC (2, 0, x.2.2.1)) >>= fun y19 =>
          (numberC (0, 10, x.2.2.2.1)) >>= fun y20 =>
          (cloneS x.2.2.2.2.2) >>= fun y21 =>
          (clip y21) >>= fun y22 =>
          (clipT [(S36.mk y16.1 y16.2.1 y16.2.2.1 y16.2.2.2.1 y16.2.2.2.2), (S36.mk y19.1 y19.2.1 y19.2.2.1 y19.2.2.2.1 y19.2.2.2.2), (S36.mk y20.1 y20.2.1 y20.2.2.1 y20.2.2.2.1 y20.2.2.2.2), (S36.mk 0 4 false y22 [])]) >>= fun y23 =>
          some (2, (IntKind.u32.wrap x.1), true, [], y23)
        else
          (numberC (0, 10, x.2.2.2.1)) >>= fun y24 =>
          (cloneS x.2.2.2.2.2) >>= fun y25 =>
          (clip y25) >>= fun y26 =>
          (clipT [(S36.mk y16.1 y16.2.1 y16.2.2.1 y16.2.2.2.1 y16.2.2.2.2), (S36.mk y24.1 y24.2.1 y24.2.2.1 y24.2.2.2.1 y24.2.2.2.2), (S36.mk 0 4 false y26 [])]) >>= fun y27 =>
          some (2, (IntKind.u32.wrap x.1), true, [], y27)
      else
        (numberC (0, 10, x.2.2.2.1)) >>= fun y28 =>
        (cloneS x.2.2.2.2.2) >>= fun y29 =>
        (clip y29) >>= fun y30 =>
        (clipT [(S36.mk y16.1 y16.2.1 y16.2.2.1 y16.2.2.2.1 y16.2.2.2.2), (S36.mk y28.1 y28.2.1 y28.2.2.1 y28.2.2.2.1 y28.2.2.2.2), (S36.mk 0 4 false y30 [])]) >>= fun y31 =>
        some (2, (IntKind.u32.wrap x.1), true, [], y31)
theorem cpTreeI_ok : ∀ (x : Int × Int × Int × Int × Int × (List Int)) (r : Int × Int × Bool × (List Int) × (List S36)), cpTreeI x = some r → ∀ W0 : World, PTo Tryd.prog W0 66 #[.agg #[.int .u8 x.1, .int .i64 x.2.1, .int .i64 x.2.2.1, .int .i64 x.2.2.2.1, .int .u8 x.2.2.2.2.1, ls 1 false (encI .u8) x.2.2.2.2.2]] (.returned (.agg #[.int .u8 r.1, .int .u32 r.2.1, .bool r.2.2.1, ls 1 false (encI .u8) r.2.2.2.1, ls 5 false enc36 r.2.2.2.2])) := by
  intro x r h
  unfold cpTreeI at h
  intro W0
  refine PTo.of_body (fn := Tryd.f66) (code := cB Tryd.f66) Tryd.func66 rfl rfl ?_
  intro w0 S hS
  haveI := hS.noEx Tryd.prog
  refine H.sr 2 (by kernel_rfl) ?_
  refine H.sr 6 (by kernel_rfl) ?_
  refine H.seqP (by kernel_rfl) ?_
  refine H.sr 3 (by kernel_rfl) ?_
  refine H.condS (b := decide (x.2.1 < 0)) (by kernel_rfl) (by kernel_rfl) (fun hb => ?_) (fun hb => ?_)
  rotate_left
  · rw [if_neg (of_decide_eq_false hb)] at h
    refine H.drawQ ?_
    refine HQ.goP 4 (by kernel_rfl) ?_
    obtain ⟨y16, hy, h⟩ := bindS h
    refine HQ.callW hS [.keep, .keep, .keep] (numberC_ok (0, 2, x.2.1) y16 hy W0) (by kernel_rfl) (by kernel_rfl) ?_
    refine HQ.goP 1 (by kernel_rfl) ?_
    refine HQ.goP 1 (by kernel_rfl) ?_
    refine HQ.goP 2 (by kernel_rfl) ?_
    refine HQ.done (by kernel_rfl) (by kernel_rfl) (by kernel_rfl) ?_
    refine Kseq_norm ?_
    refine H.seqP (by kernel_rfl) ?_
    refine H.sr 3 (by kernel_rfl) ?_
    refine H.condS (b := decide (x.1 = 5)) (by kernel_rfl) (by kernel_rfl) (fun hb => ?_) (fun hb => ?_)
    · rw [if_pos (of_decide_eq_true hb)] at h
      refine H.drawQ ?_
      refine HQ.goP 5 (by kernel_rfl) ?_
      obtain ⟨y17, hy, h⟩ := bindS h
      refine HQ.callW hS [.keep, .keep, .keep] (numberC_ok (2, 1, (IntKind.i64.wrap x.2.2.2.2.1)) y17 hy W0) (by kernel_rfl) (by kernel_rfl) ?_
      refine HQ.goP 1 (by kernel_rfl) ?_
      refine HQ.goP 1 (by kernel_rfl) ?_
      refine HQ.goP 2 (by kernel_rfl) ?_
      refine HQ.done (by kernel_rfl) (by kernel_rfl) (by kernel_rfl) ?_
      refine Kseq_norm ?_
      refine H.sg (by kernel_rfl) ?_
      refine HO.goP 2 (by kernel_rfl) ?_
      refine HO.frzE [35, 67] 6 2 1180591620717411303424 5 36 false ([(S36.mk y16.1 y16.2.1 y16.2.2.1 y16.2.2.2.1 y16.2.2.2.2), (S36.mk y17.1 y17.2.1 y17.2.2.1 y17.2.2.2.1 y17.2.2.2.2)].map enc36).toArray #[.agg #[.int .u8 y16.1, .int .u32 y16.2.1, .bool y16.2.2.1, ls 1 false (encI .u8) y16.2.2.2.1, ls 5 false enc36 y16.2.2.2.2], .agg #[.int .u8 y17.1, .int .u32 y17.2.1, .bool y17.2.2.1, ls 1 false (encI .u8) y17.2.2.2.1, ls 5 false enc36 y17.2.2.2.2]] [.int .u8 y16.1, .int .u32 y16.2.1, .bool y16.2.2.1, ls 1 false (encI .u8) y16.2.2.2.1, ls 5 false enc36 y16.2.2.2.2, .int .u8 y17.1, .int .u32 y17.2.1, .bool y17.2.2.1, ls 1 false (encI .u8) y17.2.2.2.1, ls 5 false enc36 y17.2.2.2.2] (by simp only [List.map_cons, List.map_nil, enc36_eq]) (by kernel_rfl) ?_
      obtain ⟨y18, hy, h⟩ := bindS h
      refine HO.callW hS [.list 5 false] (clipT_ok [(S36.mk y16.1 y16.2.1 y16.2.2.1 y16.2.2.2.1 y16.2.2.2.2), (S36.mk y17.1 y17.2.1 y17.2.2.1 y17.2.2.2.1 y17.2.2.2.2)] y18 hy W0) (by kernel_rfl) (by kernel_rfl) ?_
      refine HO.fin 2 (by kernel_rfl) ?_
      refine H.sr 2 (by kernel_rfl) ?_
      refine H.retP (by kernel_rfl) ?_
      obtain rfl := Option.some.inj h
      exact KEnd.retW (v := .agg #[.int .u8 2, .int .u32 (IntKind.u32.wrap x.1), .bool true, .slice none 0 0, ls 5 true enc36 y18]) (.agg [.keep, .keep, .keep, .list 1 false, .list 5 false]) (by kernel_rfl) (by kernel_rfl) (by kernel_rfl) (by kernel_rfl)
    rw [if_neg (of_decide_eq_false hb)] at h
    refine H.seqP (by kernel_rfl) ?_
    refine H.sg (by kernel_rfl) ?_
    refine HO.goP 3 (by kernel_rfl) ?_
    refine HO.boolP (decide (x.1 = 1)) (by kernel_rfl) (by kernel_rfl) (fun hb => ?_) (fun hb => ?_)
    rotate_left
    · rw [if_neg (of_decide_eq_false hb)] at h
      refine HO.fin 4 (by kernel_rfl) ?_
      refine H.condF (by kernel_rfl) (by kernel_rfl) ?_
      refine H.skipP (by kernel_rfl) ?_
      refine Kseq_norm ?_
      refine H.drawQ ?_
      refine HQ.goP 4 (by kernel_rfl) ?_
      obtain ⟨y28, hy, h⟩ := bindS h
      refine HQ.callW hS [.keep, .keep, .keep] (numberC_ok (0, 10, x.2.2.2.1) y28 hy W0) (by kernel_rfl) (by kernel_rfl) ?_
      refine HQ.goP 2 (by kernel_rfl) ?_
      obtain ⟨y29, hy, h⟩ := bindS h
      refine HQ.callW hS [.list 1 false] (cloneS_ok x.2.2.2.2.2 y29 hy W0) (by kernel_rfl) (by kernel_rfl) ?_
      obtain ⟨y30, hy, h⟩ := bindS h
      refine HQ.callV (v' := ls 1 false (encI .u8) y30) hS [.list 1 false] (.list 1 false) (clip_ok y29 y30 hy W0) (by kernel_rfl) (by kernel_rfl) (by kernel_rfl) ?_
      refine HQ.goP 2 (by kernel_rfl) ?_
      refine HQ.goP 1 (by kernel_rfl) ?_
      refine HQ.goP 2 (by kernel_rfl) ?_
      refine HQ.done (by kernel_rfl) (by kernel_rfl) (by kernel_rfl) ?_
      refine Kseq_norm ?_
      refine H.sg (by kernel_rfl) ?_
      refine HO.goP 2 (by kernel_rfl) ?_
      refine HO.wkc 6 36 5 14 [.int .u8 y16.1, .int .u32 y16.2.1, .bool y16.2.2.1, ls 1 false (encI .u8) y16.2.2.2.1, ls 5 false enc36 y16.2.2.2.2, .int .u8 y28.1, .int .u32 y28.2.1, .bool y28.2.2.1, ls 1 false (encI .u8) y28.2.2.2.1, ls 5 false enc36 y28.2.2.2.2, .int .u8 0, .int .u32 4, .bool false, ls 1 false (encI .u8) y30, .slice none 0 0] (.slice none 0 0) (ls 5 false enc36 []) (.list 5 false) (by kernel_rfl) ?_
      refine HO.frzE [64, 67] 6 3 1180591620717411303424 5 36 false ([(S36.mk y16.1 y16.2.1 y16.2.2.1 y16.2.2.2.1 y16.2.2.2.2), (S36.mk y28.1 y28.2.1 y28.2.2.1 y28.2.2.2.1 y28.2.2.2.2), (S36.mk 0 4 false y30 [])].map enc36).toArray #[.agg #[.int .u8 y16.1, .int .u32 y16.2.1, .bool y16.2.2.1, ls 1 false (encI .u8) y16.2.2.2.1, ls 5 false enc36 y16.2.2.2.2], .agg #[.int .u8 y28.1, .int .u32 y28.2.1, .bool y28.2.2.1, ls 1 false (encI .u8) y28.2.2.2.1, ls 5 false enc36 y28.2.2.2.2], .agg #[.int .u8 0, .int .u32 4, .bool false, ls 1 false (encI .u8) y30, ls 5 false enc36 []]] [.int .u8 y16.1, .int .u32 y16.2.1, .bool y16.2.2.1, ls 1 false (encI .u8) y16.2.2.2.1, ls 5 false enc36 y16.2.2.2.2, .int .u8 y28.1, .int .u32 y28.2.1, .bool y28.2.2.1, ls 1 false (encI .u8) y28.2.2.2.1, ls 5 false enc36 y28.2.2.2.2, .int .u8 0, .int .u32 4, .bool false, ls 1 false (encI .u8) y30, ls 5 false enc36 []] (by simp only [List.map_cons, List.map_nil, enc36_eq]) (by kernel_rfl) ?_
      obtain ⟨y31, hy, h⟩ := bindS h
      refine HO.callW hS [.list 5 false] (clipT_ok [(S36.mk y16.1 y16.2.1 y16.2.2.1 y16.2.2.2.1 y16.2.2.2.2), (S36.mk y28.1 y28.2.1 y28.2.2.1 y28.2.2.2.1 y28.2.2.2.2), (S36.mk 0 4 false y30 [])] y31 hy W0) (by kernel_rfl) (by kernel_rfl) ?_
      refine HO.fin 2 (by kernel_rfl) ?_
      refine H.sr 2 (by kernel_rfl) ?_
      refine H.retP (by kernel_rfl) ?_
      obtain rfl := Option.some.inj h
      exact KEnd.retW (v := .agg #[.int .u8 2, .int .u32 (IntKind.u32.wrap x.1), .bool true, .slice none 0 0, ls 5 true enc36 y31]) (.agg [.keep, .keep, .keep, .list 1 false, .list 5 false]) (by kernel_rfl) (by kernel_rfl) (by kernel_rfl) (by kernel_rfl)
    rw [if_pos (of_decide_eq_true hb)] at h
    refine HO.fin 4 (by kernel_rfl) ?_
    refine H.condS (b := decide (0 ≤ x.2.2.1)) (by kernel_rfl) (by kernel_rfl) (fun hb => ?_) (fun hb => ?_)
    rotate_left
    · rw [if_neg (of_decide_eq_false hb)] at h
      refine H.skipP (by kernel_rfl) ?_
      refine Kseq_norm ?_
      refine H.drawQ ?_
      refine HQ.goP 4 (by kernel_rfl) ?_
      obtain ⟨y24, hy, h⟩ := bindS h
      refine HQ.callW hS [.keep, .keep, .keep] (numberC_ok (0, 10, x.2.2.2.1) y24 hy W0) (by kernel_rfl) (by kernel_rfl) ?_
      refine HQ.goP 2 (by kernel_rfl) ?_
      obtain ⟨y25, hy, h⟩ := bindS h
      refine HQ.callW hS [.list 1 false] (cloneS_ok x.2.2.2.2.2 y25 hy W0) (by kernel_rfl) (by kernel_rfl) ?_
      obtain ⟨y26, hy, h⟩ := bindS h
      refine HQ.callV (v' := ls 1 false (encI .u8) y26) hS [.list 1 false] (.list 1 false) (clip_ok y25 y26 hy W0) (by kernel_rfl) (by kernel_rfl) (by kernel_rfl) ?_
      refine HQ.goP 2 (by kernel_rfl) ?_
      refine HQ.goP 1 (by kernel_rfl) ?_
      refine HQ.goP 2 (by kernel_rfl) ?_
      refine HQ.done (by kernel_rfl) (by kernel_rfl) (by kernel_rfl) ?_
      refine Kseq_norm ?_
      refine H.sg (by kernel_rfl) ?_
      refine HO.goP 2 (by kernel_rfl) ?_
      refine HO.wkc 6 36 5 14 [.int .u8 y16.1, .int .u32 y16.2.1, .bool y16.2.2.1, ls 1 false (encI .u8) y16.2.2.2.1, ls 5 false enc36 y16.2.2.2.2, .int .u8 y24.1, .int .u32 y24.2.1, .bool y24.2.2.1, ls 1 false (encI .u8) y24.2.2.2.1, ls 5 false enc36 y24.2.2.2.2, .int .u8 0, .int .u32 4, .bool false, ls 1 false (encI .u8) y26, .slice none 0 0] (.slice none 0 0) (ls 5 false enc36 []) (.list 5 false) (by kernel_rfl) ?_
      refine HO.frzE [64, 67] 6 3 1180591620717411303424 5 36 false ([(S36.mk y16.1 y16.2.1 y16.2.2.1 y16.2.2.2.1 y16.2.2.2.2), (S36.mk y24.1 y24.2.1 y24.2.2.1 y24.2.2.2.1 y24.2.2.2.2), (S36.mk 0 4 false y26 [])].map enc36).toArray #[.agg #[.int .u8 y16.1, .int .u32 y16.2.1, .bool y16.2.2.1, ls 1 false (encI .u8) y16.2.2.2.1, ls 5 false enc36 y16.2.2.2.2], .agg #[.int .u8 y24.1, .int .u32 y24.2.1, .bool y24.2.2.1, ls 1 false (encI .u8) y24.2.2.2.1, ls 5 false enc36 y24.2.2.2.2], .agg #[.int .u8 0, .int .u32 4, .bool false, ls 1 false (encI .u8) y26, ls 5 false enc36 []]] [.int .u8 y16.1, .int .u32 y16.2.1, .bool y16.2.2.1, ls 1 false (encI .u8) y16.2.2.2.1, ls 5 false enc36 y16.2.2.2.2, .int .u8 y24.1, .int .u32 y24.2.1, .bool y24.2.2.1, ls 1 false (encI .u8) y24.2.2.2.1, ls 5 false enc36 y24.2.2.2.2, .int .u8 0, .int .u32 4, .bool false, ls 1 false (encI .u8) y26, ls 5 false enc36 []] (by simp only [List.map_cons, List.map_nil, enc36_eq]) (by kernel_rfl) ?_
      obtain ⟨y27, hy, h⟩ := bindS h
      refine HO.callW hS [.list 5 false] (clipT_ok [(S36.mk y16.1 y16.2.1 y16.2.2.1 y16.2.2.2.1 y16.2.2.2.2), (S36.mk y24.1 y24.2.1 y24.2.2.1 y24.2.2.2.1 y24.2.2.2.2), (S36.mk 0 4 false y26 [])] y27 hy W0) (by kernel_rfl) (by kernel_rfl) ?_
      refine HO.fin 2 (by kernel_rfl) ?_
      refine H.sr 2 (by kernel_rfl) ?_
      refine H.retP (by kernel_rfl) ?_
      obtain rfl := Option.some.inj h
      exact KEnd.retW (v := .agg #[.int .u8 2, .int .u32 (IntKind.u32.wrap x.1), .bool true, .slice none 0 0, ls 5 true enc36 y27]) (.agg [.keep, .keep, .keep, .list 1 false, .list 5 false]) (by kernel_rfl) (by kernel_rfl) (by kernel_rfl) (by kernel_rfl)
    rw [if_pos (of_decide_eq_true hb)] at h
    refine H.drawQ ?_
    refine HQ.goP 4 (by kernel_rfl) ?_
    obtain ⟨y19, hy, h⟩ := bindS h
    refine HQ.callW hS [.keep, .keep, .keep] (numberC_ok (2, 0, x.2.2.1) y19 hy W0) (by kernel_rfl) (by kernel_rfl) ?_
    refine HQ.goP 1 (by kernel_rfl) ?_
    refine HQ.goP 1 (by kernel_rfl) ?_
    refine HQ.goP 2 (by kernel_rfl) ?_
    refine HQ.done (by kernel_rfl) (by kernel_rfl) (by kernel_rfl) ?_
    refine Kseq_norm ?_
    refine H.drawQ ?_
    refine HQ.goP 4 (by kernel_rfl) ?_
    obtain ⟨y20, hy, h⟩ := bindS h
    refine HQ.callW hS [.keep, .keep, .keep] (numberC_ok (0, 10, x.2.2.2.1) y20 hy W0) (by kernel_rfl) (by kernel_rfl) ?_
    refine HQ.goP 2 (by kernel_rfl) ?_
    obtain ⟨y21, hy, h⟩ := bindS h
    refine HQ.callW hS [.list 1 false] (cloneS_ok x.2.2.2.2.2 y21 hy W0) (by kernel_rfl) (by kernel_rfl) ?_
    obtain ⟨y22, hy, h⟩ := bindS h
    refine HQ.callV (v' := ls 1 false (encI .u8) y22) hS [.list 1 false] (.list 1 false) (clip_ok y21 y22 hy W0) (by kernel_rfl) (by kernel_rfl) (by kernel_rfl) ?_
    refine HQ.goP 2 (by kernel_rfl) ?_
    refine HQ.goP 1 (by kernel_rfl) ?_
    refine HQ.goP 2 (by kernel_rfl) ?_
    refine HQ.done (by kernel_rfl) (by kernel_rfl) (by kernel_rfl) ?_
    refine Kseq_norm ?_
    refine H.sg (by kernel_rfl) ?_
    refine HO.goP 2 (by kernel_rfl) ?_
    refine HO.wkc 8 36 5 19 [.int .u8 y16.1, .int .u32 y16.2.1, .bool y16.2.2.1, ls 1 false (encI .u8) y16.2.2.2.1, ls 5 false enc36 y16.2.2.2.2, .int .u8 y19.1, .int .u32 y19.2.1, .bool y19.2.2.1, ls 1 false (encI .u8) y19.2.2.2.1, ls 5 false enc36 y19.2.2.2.2, .int .u8 y20.1, .int .u32 y20.2.1, .bool y20.2.2.1, ls 1 false (encI .u8) y20.2.2.2.1, ls 5 false enc36 y20.2.2.2.2, .int .u8 0, .int .u32 4, .bool false, ls 1 false (encI .u8) y22, .slice none 0 0] (.slice none 0 0) (ls 5 false enc36 []) (.list 5 false) (by kernel_rfl) ?_
    refine HO.frzE [64, 67] 8 4 1180591620717411303424 5 36 false ([(S36.mk y16.1 y16.2.1 y16.2.2.1 y16.2.2.2.1 y16.2.2.2.2), (S36.mk y19.1 y19.2.1 y19.2.2.1 y19.2.2.2.1 y19.2.2.2.2), (S36.mk y20.1 y20.2.1 y20.2.2.1 y20.2.2.2.1 y20.2.2.2.2), (S36.mk 0 4 false y22 [])].map enc36).toArray #[.agg #[.int .u8 y16.1, .int .u32 y16.2.1, .bool y16.2.2.1, ls 1 false (encI .u8) y16.2.2.2.1, ls 5 false enc36 y16.2.2.2.2], .agg #[.int .u8 y19.1, .int .u32 y19.2.1, .bool y19.2.2.1, ls 1 false (encI .u8) y19.2.2.2.1, ls 5 false enc36 y19.2.2.2.2], .agg #[.int .u8 y20.1, .int .u32 y20.2.1, .bool y20.2.2.1, ls 1 false (encI .u8) y20.2.2.2.1, ls 5 false enc36 y20.2.2.2.2], .agg #[.int .u8 0, .int .u32 4, .bool false, ls 1 false (encI .u8) y22, ls 5 false enc36 []]] [.int .u8 y16.1, .int .u32 y16.2.1, .bool y16.2.2.1, ls 1 false (encI .u8) y16.2.2.2.1, ls 5 false enc36 y16.2.2.2.2, .int .u8 y19.1, .int .u32 y19.2.1, .bool y19.2.2.1, ls 1 false (encI .u8) y19.2.2.2.1, ls 5 false enc36 y19.2.2.2.2, .int .u8 y20.1, .int .u32 y20.2.1, .bool y20.2.2.1, ls 1 false (encI .u8) y20.2.2.2.1, ls 5 false enc36 y20.2.2.2.2, .int .u8 0, .int .u32 4, .bool false, ls 1 false (encI .u8) y22, ls 5 false enc36 []] (by simp only [List.map_cons, List.map_nil, enc36_eq]) (by kernel_rfl) ?_
    obtain ⟨y23, hy, h⟩ := bindS h
    refine HO.callW hS [.list 5 false] (clipT_ok [(S36.mk y16.1 y16.2.1 y16.2.2.1 y16.2.2.2.1 y16.2.2.2.2), (S36.mk y19.1 y19.2.1 y19.2.2.1 y19.2.2.2.1 y19.2.2.2.2), (S36.mk y20.1 y20.2.1 y20.2.2.1 y20.2.2.2.1 y20.2.2.2.2), (S36.mk 0 4 false y22 [])] y23 hy W0) (by kernel_rfl) (by kernel_rfl) ?_
    refine HO.fin 2 (by kernel_rfl) ?_
    refine H.sr 2 (by kernel_rfl) ?_
    refine H.retP (by kernel_rfl) ?_
    obtain rfl := Option.some.inj h
    exact KEnd.retW (v := .agg #[.int .u8 2, .int .u32 (IntKind.u32.wrap x.1), .bool true, .slice none 0 0, ls 5 true enc36 y23]) (.agg [.keep, .keep, .keep, .list 1 false, .list 5 false]) (by kernel_rfl) (by kernel_rfl) (by kernel_rfl) (by kernel_rfl)
  rw [if_pos (of_decide_eq_true hb)] at h
  refine H.regP (by kernel_rfl) ?_
  refine HO.goP 4 (by kernel_rfl) ?_
  refine HO.goP 1 (by kernel_rfl) ?_
  refine HO.fin 2 (by kernel_rfl) ?_
  refine H.seqP (by kernel_rfl) ?_
  refine H.sr 3 (by kernel_rfl) ?_
  refine H.condS (b := decide (x.1 = 5)) (by kernel_rfl) (by kernel_rfl) (fun hb => ?_) (fun hb => ?_)
  · rw [if_pos (of_decide_eq_true hb)] at h
    refine H.drawQ ?_
    refine HQ.goP 5 (by kernel_rfl) ?_
    obtain ⟨y1, hy, h⟩ := bindS h
    refine HQ.callW hS [.keep, .keep, .keep] (numberC_ok (2, 1, (IntKind.i64.wrap x.2.2.2.2.1)) y1 hy W0) (by kernel_rfl) (by kernel_rfl) ?_
    refine HQ.goP 1 (by kernel_rfl) ?_
    refine HQ.goP 1 (by kernel_rfl) ?_
    refine HQ.goP 2 (by kernel_rfl) ?_
    refine HQ.done (by kernel_rfl) (by kernel_rfl) (by kernel_rfl) ?_
    refine Kseq_norm ?_
    refine H.sg (by kernel_rfl) ?_
    refine HO.goP 2 (by kernel_rfl) ?_
    refine HO.wkc 6 36 5 3 [.int .u8 0, .int .u32 5, .bool false, .slice none 0 0, .slice none 0 0, .int .u8 y1.1, .int .u32 y1.2.1, .bool y1.2.2.1, ls 1 false (encI .u8) y1.2.2.2.1, ls 5 false enc36 y1.2.2.2.2] (.slice none 0 0) (ls 1 false (encI .u8) []) (.list 1 false) (by kernel_rfl) ?_
    refine HO.wkc 6 36 5 4 [.int .u8 0, .int .u32 5, .bool false, ls 1 false (encI .u8) [], .slice none 0 0, .int .u8 y1.1, .int .u32 y1.2.1, .bool y1.2.2.1, ls 1 false (encI .u8) y1.2.2.2.1, ls 5 false enc36 y1.2.2.2.2] (.slice none 0 0) (ls 5 false enc36 []) (.list 5 false) (by kernel_rfl) ?_
    refine HO.frzE [35, 67] 6 2 1180591620717411303424 5 36 false ([(S36.mk 0 5 false [] []), (S36.mk y1.1 y1.2.1 y1.2.2.1 y1.2.2.2.1 y1.2.2.2.2)].map enc36).toArray #[.agg #[.int .u8 0, .int .u32 5, .bool false, ls 1 false (encI .u8) [], ls 5 false enc36 []], .agg #[.int .u8 y1.1, .int .u32 y1.2.1, .bool y1.2.2.1, ls 1 false (encI .u8) y1.2.2.2.1, ls 5 false enc36 y1.2.2.2.2]] [.int .u8 0, .int .u32 5, .bool false, ls 1 false (encI .u8) [], ls 5 false enc36 [], .int .u8 y1.1, .int .u32 y1.2.1, .bool y1.2.2.1, ls 1 false (encI .u8) y1.2.2.2.1, ls 5 false enc36 y1.2.2.2.2] (by simp only [List.map_cons, List.map_nil, enc36_eq]) (by kernel_rfl) ?_
    obtain ⟨y2, hy, h⟩ := bindS h
    refine HO.callW hS [.list 5 false] (clipT_ok [(S36.mk 0 5 false [] []), (S36.mk y1.1 y1.2.1 y1.2.2.1 y1.2.2.2.1 y1.2.2.2.2)] y2 hy W0) (by kernel_rfl) (by kernel_rfl) ?_
    refine HO.fin 2 (by kernel_rfl) ?_
    refine H.sr 2 (by kernel_rfl) ?_
    refine H.retP (by kernel_rfl) ?_
    obtain rfl := Option.some.inj h
    exact KEnd.retW (v := .agg #[.int .u8 2, .int .u32 (IntKind.u32.wrap x.1), .bool true, .slice none 0 0, ls 5 true enc36 y2]) (.agg [.keep, .keep, .keep, .list 1 false, .list 5 false]) (by kernel_rfl) (by kernel_rfl) (by kernel_rfl) (by kernel_rfl)
  rw [if_neg (of_decide_eq_false hb)] at h
  refine H.seqP (by kernel_rfl) ?_
  refine H.sg (by kernel_rfl) ?_
  refine HO.goP 3 (by kernel_rfl) ?_
  refine HO.boolP (decide (x.1 = 1)) (by kernel_rfl) (by kernel_rfl) (fun hb => ?_) (fun hb => ?_)
  rotate_left
  · rw [if_neg (of_decide_eq_false hb)] at h
    refine HO.fin 4 (by kernel_rfl) ?_
    refine H.condF (by kernel_rfl) (by kernel_rfl) ?_
    refine H.skipP (by kernel_rfl) ?_
    refine Kseq_norm ?_
    refine H.drawQ ?_
    refine HQ.goP 4 (by kernel_rfl) ?_
    obtain ⟨y12, hy, h⟩ := bindS h
    refine HQ.callW hS [.keep, .keep, .keep] (numberC_ok (0, 10, x.2.2.2.1) y12 hy W0) (by kernel_rfl) (by kernel_rfl) ?_
    refine HQ.goP 2 (by kernel_rfl) ?_
    obtain ⟨y13, hy, h⟩ := bindS h
    refine HQ.callW hS [.list 1 false] (cloneS_ok x.2.2.2.2.2 y13 hy W0) (by kernel_rfl) (by kernel_rfl) ?_
    obtain ⟨y14, hy, h⟩ := bindS h
    refine HQ.callV (v' := ls 1 false (encI .u8) y14) hS [.list 1 false] (.list 1 false) (clip_ok y13 y14 hy W0) (by kernel_rfl) (by kernel_rfl) (by kernel_rfl) ?_
    refine HQ.goP 2 (by kernel_rfl) ?_
    refine HQ.goP 1 (by kernel_rfl) ?_
    refine HQ.goP 2 (by kernel_rfl) ?_
    refine HQ.done (by kernel_rfl) (by kernel_rfl) (by kernel_rfl) ?_
    refine Kseq_norm ?_
    refine H.sg (by kernel_rfl) ?_
    refine HO.goP 2 (by kernel_rfl) ?_
    refine HO.wkc 6 36 5 3 [.int .u8 0, .int .u32 5, .bool false, .slice none 0 0, .slice none 0 0, .int .u8 y12.1, .int .u32 y12.2.1, .bool y12.2.2.1, ls 1 false (encI .u8) y12.2.2.2.1, ls 5 false enc36 y12.2.2.2.2, .int .u8 0, .int .u32 4, .bool false, ls 1 false (encI .u8) y14, .slice none 0 0] (.slice none 0 0) (ls 1 false (encI .u8) []) (.list 1 false) (by kernel_rfl) ?_
    refine HO.wkc 6 36 5 4 [.int .u8 0, .int .u32 5, .bool false, ls 1 false (encI .u8) [], .slice none 0 0, .int .u8 y12.1, .int .u32 y12.2.1, .bool y12.2.2.1, ls 1 false (encI .u8) y12.2.2.2.1, ls 5 false enc36 y12.2.2.2.2, .int .u8 0, .int .u32 4, .bool false, ls 1 false (encI .u8) y14, .slice none 0 0] (.slice none 0 0) (ls 5 false enc36 []) (.list 5 false) (by kernel_rfl) ?_
    refine HO.wkc 6 36 5 14 [.int .u8 0, .int .u32 5, .bool false, ls 1 false (encI .u8) [], ls 5 false enc36 [], .int .u8 y12.1, .int .u32 y12.2.1, .bool y12.2.2.1, ls 1 false (encI .u8) y12.2.2.2.1, ls 5 false enc36 y12.2.2.2.2, .int .u8 0, .int .u32 4, .bool false, ls 1 false (encI .u8) y14, .slice none 0 0] (.slice none 0 0) (ls 5 false enc36 []) (.list 5 false) (by kernel_rfl) ?_
    refine HO.frzE [64, 67] 6 3 1180591620717411303424 5 36 false ([(S36.mk 0 5 false [] []), (S36.mk y12.1 y12.2.1 y12.2.2.1 y12.2.2.2.1 y12.2.2.2.2), (S36.mk 0 4 false y14 [])].map enc36).toArray #[.agg #[.int .u8 0, .int .u32 5, .bool false, ls 1 false (encI .u8) [], ls 5 false enc36 []], .agg #[.int .u8 y12.1, .int .u32 y12.2.1, .bool y12.2.2.1, ls 1 false (encI .u8) y12.2.2.2.1, ls 5 false enc36 y12.2.2.2.2], .agg #[.int .u8 0, .int .u32 4, .bool false, ls 1 false (encI .u8) y14, ls 5 false enc36 []]] [.int .u8 0, .int .u32 5, .bool false, ls 1 false (encI .u8) [], ls 5 false enc36 [], .int .u8 y12.1, .int .u32 y12.2.1, .bool y12.2.2.1, ls 1 false (encI .u8) y12.2.2.2.1, ls 5 false enc36 y12.2.2.2.2, .int .u8 0, .int .u32 4, .bool false, ls 1 false (encI .u8) y14, ls 5 false enc36 []] (by simp only [List.map_cons, List.map_nil, enc36_eq]) (by kernel_rfl) ?_
    obtain ⟨y15, hy, h⟩ := bindS h
    refine HO.callW hS [.list 5 false] (clipT_ok [(S36.mk 0 5 false [] []), (S36.mk y12.1 y12.2.1 y12.2.2.1 y12.2.2.2.1 y12.2.2.2.2), (S36.mk 0 4 false y14 [])] y15 hy W0) (by kernel_rfl) (by kernel_rfl) ?_
    refine HO.fin 2 (by kernel_rfl) ?_
    refine H.sr 2 (by kernel_rfl) ?_
    refine H.retP (by kernel_rfl) ?_
    obtain rfl := Option.some.inj h
    exact KEnd.retW (v := .agg #[.int .u8 2, .int .u32 (IntKind.u32.wrap x.1), .bool true, .slice none 0 0, ls 5 true enc36 y15]) (.agg [.keep, .keep, .keep, .list 1 false, .list 5 false]) (by kernel_rfl) (by kernel_rfl) (by kernel_rfl) (by kernel_rfl)
  rw [if_pos (of_decide_eq_true hb)] at h
  refine HO.fin 4 (by kernel_rfl) ?_
  refine H.condS (b := decide (0 ≤ x.2.2.1)) (by kernel_rfl) (by kernel_rfl) (fun hb => ?_) (fun hb => ?_)
  rotate_left
  · rw [if_neg (of_decide_eq_false hb)] at h
    refine H.skipP (by kernel_rfl) ?_
    refine Kseq_norm ?_
    refine H.drawQ ?_
    refine HQ.goP 4 (by kernel_rfl) ?_
    obtain ⟨y8, hy, h⟩ := bindS h
    refine HQ.callW hS [.keep, .keep, .keep] (numberC_ok (0, 10, x.2.2.2.1) y8 hy W0) (by kernel_rfl) (by kernel_rfl) ?_
    refine HQ.goP 2 (by kernel_rfl) ?_
    obtain ⟨y9, hy, h⟩ := bindS h
    refine HQ.callW hS [.list 1 false] (cloneS_ok x.2.2.2.2.2 y9 hy W0) (by kernel_rfl) (by kernel_rfl) ?_
    obtain ⟨y10, hy, h⟩ := bindS h
    refine HQ.callV (v' := ls 1 false (encI .u8) y10) hS [.list 1 false] (.list 1 false) (clip_ok y9 y10 hy W0) (by kernel_rfl) (by kernel_rfl) (by kernel_rfl) ?_
    refine HQ.goP 2 (by kernel_rfl) ?_
    refine HQ.goP 1 (by kernel_rfl) ?_
    refine HQ.goP 2 (by kernel_rfl) ?_
    refine HQ.done (by kernel_rfl) (by kernel_rfl) (by kernel_rfl) ?_
    refine Kseq_norm ?_
    refine H.sg (by kernel_rfl) ?_
    refine HO.goP 2 (by kernel_rfl) ?_
    refine HO.wkc 6 36 5 3 [.int .u8 0, .int .u32 5, .bool false, .slice none 0 0, .slice none 0 0, .int .u8 y8.1, .int .u32 y8.2.1, .bool y8.2.2.1, ls 1 false (encI .u8) y8.2.2.2.1, ls 5 false enc36 y8.2.2.2.2, .int .u8 0, .int .u32 4, .bool false, ls 1 false (encI .u8) y10, .slice none 0 0] (.slice none 0 0) (ls 1 false (encI .u8) []) (.list 1 false) (by kernel_rfl) ?_
    refine HO.wkc 6 36 5 4 [.int .u8 0, .int .u32 5, .bool false, ls 1 false (encI .u8) [], .slice none 0 0, .int .u8 y8.1, .int .u32 y8.2.1, .bool y8.2.2.1, ls 1 false (encI .u8) y8.2.2.2.1, ls 5 false enc36 y8.2.2.2.2, .int .u8 0, .int .u32 4, .bool false, ls 1 false (encI .u8) y10, .slice none 0 0] (.slice none 0 0) (ls 5 false enc36 []) (.list 5 false) (by kernel_rfl) ?_
    refine HO.wkc 6 36 5 14 [.int .u8 0, .int .u32 5, .bool false, ls 1 false (encI .u8) [], ls 5 false enc36 [], .int .u8 y8.1, .int .u32 y8.2.1, .bool y8.2.2.1, ls 1 false (encI .u8) y8.2.2.2.1, ls 5 false enc36 y8.2.2.2.2, .int .u8 0, .int .u32 4, .bool false, ls 1 false (encI .u8) y10, .slice none 0 0] (.slice none 0 0) (ls 5 false enc36 []) (.list 5 false) (by kernel_rfl) ?_
    refine HO.frzE [64, 67] 6 3 1180591620717411303424 5 36 false ([(S36.mk 0 5 false [] []), (S36.mk y8.1 y8.2.1 y8.2.2.1 y8.2.2.2.1 y8.2.2.2.2), (S36.mk 0 4 false y10 [])].map enc36).toArray #[.agg #[.int .u8 0, .int .u32 5, .bool false, ls 1 false (encI .u8) [], ls 5 false enc36 []], .agg #[.int .u8 y8.1, .int .u32 y8.2.1, .bool y8.2.2.1, ls 1 false (encI .u8) y8.2.2.2.1, ls 5 false enc36 y8.2.2.2.2], .agg #[.int .u8 0, .int .u32 4, .bool false, ls 1 false (encI .u8) y10, ls 5 false enc36 []]] [.int .u8 0, .int .u32 5, .bool false, ls 1 false (encI .u8) [], ls 5 false enc36 [], .int .u8 y8.1, .int .u32 y8.2.1, .bool y8.2.2.1, ls 1 false (encI .u8) y8.2.2.2.1, ls 5 false enc36 y8.2.2.2.2, .int .u8 0, .int .u32 4, .bool false, ls 1 false (encI .u8) y10, ls 5 false enc36 []] (by simp only [List.map_cons, List.map_nil, enc36_eq]) (by kernel_rfl) ?_
    obtain ⟨y11, hy, h⟩ := bindS h
    refine HO.callW hS [.list 5 false] (clipT_ok [(S36.mk 0 5 false [] []), (S36.mk y8.1 y8.2.1 y8.2.2.1 y8.2.2.2.1 y8.2.2.2.2), (S36.mk 0 4 false y10 [])] y11 hy W0) (by kernel_rfl) (by kernel_rfl) ?_
    refine HO.fin 2 (by kernel_rfl) ?_
    refine H.sr 2 (by kernel_rfl) ?_
    refine H.retP (by kernel_rfl) ?_
    obtain rfl := Option.some.inj h
    exact KEnd.retW (v := .agg #[.int .u8 2, .int .u32 (IntKind.u32.wrap x.1), .bool true, .slice none 0 0, ls 5 true enc36 y11]) (.agg [.keep, .keep, .keep, .list 1 false, .list 5 false]) (by kernel_rfl) (by kernel_rfl) (by kernel_rfl) (by kernel_rfl)
  rw [if_pos (of_decide_eq_true hb)] at h
  refine H.drawQ ?_
  refine HQ.goP 4 (by kernel_rfl) ?_
  obtain ⟨y3, hy, h⟩ := bindS h
  refine HQ.callW hS [.keep, .keep, .keep] (numberC_ok (2, 0, x.2.2.1) y3 hy W0) (by kernel_rfl) (by kernel_rfl) ?_
  refine HQ.goP 1 (by kernel_rfl) ?_
  refine HQ.goP 1 (by kernel_rfl) ?_
  refine HQ.goP 2 (by kernel_rfl) ?_
  refine HQ.done (by kernel_rfl) (by kernel_rfl) (by kernel_rfl) ?_
  refine Kseq_norm ?_
  refine H.drawQ ?_
  refine HQ.goP 4 (by kernel_rfl) ?_
  obtain ⟨y4, hy, h⟩ := bindS h
  refine HQ.callW hS [.keep, .keep, .keep] (numberC_ok (0, 10, x.2.2.2.1) y4 hy W0) (by kernel_rfl) (by kernel_rfl) ?_
  refine HQ.goP 2 (by kernel_rfl) ?_
  obtain ⟨y5, hy, h⟩ := bindS h
  refine HQ.callW hS [.list 1 false] (cloneS_ok x.2.2.2.2.2 y5 hy W0) (by kernel_rfl) (by kernel_rfl) ?_
  obtain ⟨y6, hy, h⟩ := bindS h
  refine HQ.callV (v' := ls 1 false (encI .u8) y6) hS [.list 1 false] (.list 1 false) (clip_ok y5 y6 hy W0) (by kernel_rfl) (by kernel_rfl) (by kernel_rfl) ?_
  refine HQ.goP 2 (by kernel_rfl) ?_
  refine HQ.goP 1 (by kernel_rfl) ?_
  refine HQ.goP 2 (by kernel_rfl) ?_
  refine HQ.done (by kernel_rfl) (by kernel_rfl) (by kernel_rfl) ?_
  refine Kseq_norm ?_
  refine H.sg (by kernel_rfl) ?_
  refine HO.goP 2 (by kernel_rfl) ?_
  refine HO.wkc 8 36 5 3 [.int .u8 0, .int .u32 5, .bool false, .slice none 0 0, .slice none 0 0, .int .u8 y3.1, .int .u32 y3.2.1, .bool y3.2.2.1, ls 1 false (encI .u8) y3.2.2.2.1, ls 5 false enc36 y3.2.2.2.2, .int .u8 y4.1, .int .u32 y4.2.1, .bool y4.2.2.1, ls 1 false (encI .u8) y4.2.2.2.1, ls 5 false enc36 y4.2.2.2.2, .int .u8 0, .int .u32 4, .bool false, ls 1 false (encI .u8) y6, .slice none 0 0] (.slice none 0 0) (ls 1 false (encI .u8) []) (.list 1 false) (by kernel_rfl) ?_
  refine HO.wkc 8 36 5 4 [.int .u8 0, .int .u32 5, .bool false, ls 1 false (encI .u8) [], .slice none 0 0, .int .u8 y3.1, .int .u32 y3.2.1, .bool y3.2.2.1, ls 1 false (encI .u8) y3.2.2.2.1, ls 5 false enc36 y3.2.2.2.2, .int .u8 y4.1, .int .u32 y4.2.1, .bool y4.2.2.1, ls 1 false (encI .u8) y4.2.2.2.1, ls 5 false enc36 y4.2.2.2.2, .int .u8 0, .int .u32 4, .bool false, ls 1 false (encI .u8) y6, .slice none 0 0] (.slice none 0 0) (ls 5 false enc36 []) (.list 5 false) (by kernel_rfl) ?_
  refine HO.wkc 8 36 5 19 [.int .u8 0, .int .u32 5, .bool false, ls 1 false (encI .u8) [], ls 5 false enc36 [], .int .u8 y3.1, .int .u32 y3.2.1, .bool y3.2.2.1, ls 1 false (encI .u8) y3.2.2.2.1, ls 5 false enc36 y3.2.2.2.2, .int .u8 y4.1, .int .u32 y4.2.1, .bool y4.2.2.1, ls 1 false (encI .u8) y4.2.2.2.1, ls 5 false enc36 y4.2.2.2.2, .int .u8 0, .int .u32 4, .bool false, ls 1 false (encI .u8) y6, .slice none 0 0] (.slice none 0 0) (ls 5 false enc36 []) (.list 5 false) (by kernel_rfl) ?_
  refine HO.frzE [64, 67] 8 4 1180591620717411303424 5 36 false ([(S36.mk 0 5 false [] []), (S36.mk y3.1 y3.2.1 y3.2.2.1 y3.2.2.2.1 y3.2.2.2.2), (S36.mk y4.1 y4.2.1 y4.2.2.1 y4.2.2.2.1 y4.2.2.2.2), (S36.mk 0 4 false y6 [])].map enc36).toArray #[.agg #[.int .u8 0, .int .u32 5, .bool false, ls 1 false (encI .u8) [], ls 5 false enc36 []], .agg #[.int .u8 y3.1, .int .u32 y3.2.1, .bool y3.2.2.1, ls 1 false (encI .u8) y3.2.2.2.1, ls 5 false enc36 y3.2.2.2.2], .agg #[.int .u8 y4.1, .int .u32 y4.2.1, .bool y4.2.2.1, ls 1 false (encI .u8) y4.2.2.2.1, ls 5 false enc36 y4.2.2.2.2], .agg #[.int .u8 0, .int .u32 4, .bool false, ls 1 false (encI .u8) y6, ls 5 false enc36 []]] [.int .u8 0, .int .u32 5, .bool false, ls 1 false (encI .u8) [], ls 5 false enc36 [], .int .u8 y3.1, .int .u32 y3.2.1, .bool y3.2.2.1, ls 1 false (encI .u8) y3.2.2.2.1, ls 5 false enc36 y3.2.2.2.2, .int .u8 y4.1, .int .u32 y4.2.1, .bool y4.2.2.1, ls 1 false (encI .u8) y4.2.2.2.1, ls 5 false enc36 y4.2.2.2.2, .int .u8 0, .int .u32 4, .bool false, ls 1 false (encI .u8) y6, ls 5 false enc36 []] (by simp only [List.map_cons, List.map_nil, enc36_eq]) (by kernel_rfl) ?_
  obtain ⟨y7, hy, h⟩ := bindS h
  refine HO.callW hS [.list 5 false] (clipT_ok [(S36.mk 0 5 false [] []), (S36.mk y3.1 y3.2.1 y3.2.2.1 y3.2.2.2.1 y3.2.2.2.2), (S36.mk y4.1 y4.2.1 y4.2.2.1 y4.2.2.2.1 y4.2.2.2.2), (S36.mk 0 4 false y6 [])] y7 hy W0) (by kernel_rfl) (by kernel_rfl) ?_
  refine HO.fin 2 (by kernel_rfl) ?_
  refine H.sr 2 (by kernel_rfl) ?_
  refine H.retP (by kernel_rfl) ?_
  obtain rfl := Option.some.inj h
  exact KEnd.retW (v := .agg #[.int .u8 2, .int .u32 (IntKind.u32.wrap x.1), .bool true, .slice none 0 0, ls 5 true enc36 y7]) (.agg [.keep, .keep, .keep, .list 1 false, .list 5 false]) (by kernel_rfl) (by kernel_rfl) (by kernel_rfl) (by kernel_rfl)
def cpTree (x : Int × Int × Int × Int × Int × (List Int)) : Option (Int × Int × Bool × (List Int) × (List S36) × Int) :=
  (cpCheck (x.1, x.2.1, x.2.2.1, x.2.2.2.1, x.2.2.2.2.1, x.2.2.2.2.2)) >>= fun y1 =>
  if (!decide (y1 = 0)) = true then
    some (0, 0, false, [], [], y1)
  else
    (cpTreeI (x.1, x.2.1, x.2.2.1, x.2.2.2.1, x.2.2.2.2.1, x.2.2.2.2.2)) >>= fun y2 =>
    some (y2.1, y2.2.1, y2.2.2.1, y2.2.2.2.1, y2.2.2.2.2, 0)
theorem cpTree_ok : ∀ (x : Int × Int × Int × Int × Int × (List Int)) (r : Int × Int × Bool × (List Int) × (List S36) × Int), cpTree x = some r → ∀ W0 : World, PTo Tryd.prog W0 33 #[.agg #[.int .u8 x.1, .int .i64 x.2.1, .int .i64 x.2.2.1, .int .i64 x.2.2.2.1, .int .u8 x.2.2.2.2.1, ls 1 false (encI .u8) x.2.2.2.2.2]] (.returned (.tuple #[.agg #[.int .u8 r.1, .int .u32 r.2.1, .bool r.2.2.1, ls 1 false (encI .u8) r.2.2.2.1, ls 5 false enc36 r.2.2.2.2.1], .int .i64 r.2.2.2.2.2])) := by
  intro x r h
  unfold cpTree at h
  intro W0
  refine PTo.of_body (fn := Tryd.f33) (code := cB Tryd.f33) Tryd.func33 rfl rfl ?_
  intro w0 S hS
  haveI := hS.noEx Tryd.prog
  refine H.sr 3 (by kernel_rfl) ?_
  refine H.seqP (by kernel_rfl) ?_
  refine H.sg (by kernel_rfl) ?_
  refine HO.goP 1 (by kernel_rfl) ?_
  obtain ⟨y1, hy, h⟩ := bindS h
  refine HO.callW hS [.agg [.keep, .keep, .keep, .keep, .keep, .list 1 false]] (cpCheck_ok (x.1, x.2.1, x.2.2.1, x.2.2.2.1, x.2.2.2.2.1, x.2.2.2.2.2) y1 hy W0) (by kernel_rfl) (by kernel_rfl) ?_
  refine HO.fin 1 (by kernel_rfl) ?_
  refine H.sr 2 (by kernel_rfl) ?_
  refine H.condS (b := !decide (y1 = 0)) (by kernel_rfl) (by kernel_rfl) (fun hb => ?_) (fun hb => ?_)
  · rw [if_pos hb] at h
    refine H.sr 4 (by kernel_rfl) ?_
    refine H.retP (by kernel_rfl) ?_
    refine Kseq_ret ?_
    obtain rfl := Option.some.inj h
    exact KEnd.retW (v := .tuple #[.agg #[.int .u8 0, .int .u32 0, .bool false, .slice none 0 0, .slice none 0 0], .int .i64 y1]) (.tuple [.agg [.keep, .keep, .keep, .list 1 false, .list 5 false], .keep]) (by kernel_rfl) (by kernel_rfl) (by kernel_rfl) (by kernel_rfl)
  rw [if_neg (ne_true hb)] at h
  refine H.skipP (by kernel_rfl) ?_
  refine Kseq_norm ?_
  refine H.sg (by kernel_rfl) ?_
  refine HO.goP 1 (by kernel_rfl) ?_
  obtain ⟨y2, hy, h⟩ := bindS h
  refine HO.callW hS [.agg [.keep, .keep, .keep, .keep, .keep, .list 1 false]] (cpTreeI_ok (x.1, x.2.1, x.2.2.1, x.2.2.2.1, x.2.2.2.2.1, x.2.2.2.2.2) y2 hy W0) (by kernel_rfl) (by kernel_rfl) ?_
  refine HO.fin 2 (by kernel_rfl) ?_
  refine H.retP (by kernel_rfl) ?_
  obtain rfl := Option.some.inj h
  exact KEnd.retW (v := .tuple #[.agg #[.int .u8 y2.1, .int .u32 y2.2.1, .bool y2.2.2.1, ls 1 false (encI .u8) y2.2.2.2.1, ls 5 false enc36 y2.2.2.2.2], .int .i64 0]) (.tuple [.agg [.keep, .keep, .keep, .list 1 false, .list 5 false], .keep]) (by kernel_rfl) (by kernel_rfl) (by kernel_rfl) (by kernel_rfl)
mutual
def measure_L2 (x : Int × (List S36) × Int × Int × Int) : Option (Bool × Int) :=
  if x.2.2.2.1 < x.2.2.1 then
    (at' x.2.1 x.2.2.2.1) >>= fun y1 =>
    (measure (y1.c0, y1.c1, y1.c2, y1.c3, y1.c4, (IntKind.i64.wrap (x.1 + 1)), x.2.2.2.2)) >>= fun y2 =>
    if (!y2.1) = true then
      some (false, y2.2)
    else
      measure_L2 (x.1, x.2.1, x.2.2.1, (IntKind.i64.wrap (x.2.2.2.1 + 1)), y2.2)
  else
    some (true, x.2.2.2.2)
partial_fixpoint
def measure (x : Int × Int × Bool × (List Int) × (List S36) × Int × Int) : Option (Bool × Int) :=
  if 16 < x.2.2.2.2.2.1 then
    measure_L1 (x.2.2.2.2.2.1, true, (IntKind.i64.wrap (x.2.2.2.2.2.2 + 1)), x.1, x.2.1, x.2.2.1, x.2.2.2.1, x.2.2.2.2.1)
  else
    measure_L1 (x.2.2.2.2.2.1, (decide (1024 < (IntKind.i64.wrap (x.2.2.2.2.2.2 + 1)))), (IntKind.i64.wrap (x.2.2.2.2.2.2 + 1)), x.1, x.2.1, x.2.2.1, x.2.2.2.1, x.2.2.2.2.1)
partial_fixpoint
def measure_L1 (x : Int × Bool × Int × Int × Int × Bool × (List Int) × (List S36)) : Option (Bool × Int) :=
  if x.2.1 = true then
    some (false, x.2.2.1)
  else
    measure_L2 (x.1, x.2.2.2.2.2.2.2, (x.2.2.2.2.2.2.2.length : Int), 0, x.2.2.1)
partial_fixpoint
end
theorem measure_L2_grp : (∀ (x : Int × (List S36) × Int × Int × Int) (r : Bool × Int), measure_L2 x = some r → ∀ (W0 w0 : World) (S : Own), Std W0 w0 S 1 → HL Tryd.prog w0 S 36 (cL (cL (cR (cL (cR (cR (cR (cB Tryd.f53)))))))) (mkS [(1, .int .i64 x.1), (2, .pointer (some ⟨0, 0, none⟩)), (23, ls 5 false enc36 x.2.1), (24, .int .i64 x.2.2.1), (25, .int .i64 x.2.2.2.1)] [(0, .cells [.int .i64 x.2.2.2.2] 3 1)] 1 []) (Kblock 0 (Kseq Tryd.prog w0 S 36 (cR (cR (cR (cR (cB Tryd.f53))))) (KEnd Tryd.prog Tryd.f53 (FEnd w0 S (.returned (.bool r.1)) (mkW 1 [] [(0, .cells [.int .i64 r.2] 3 1)])))))) ∧
  (∀ (x : Int × Int × Bool × (List Int) × (List S36) × Int × Int) (r : Bool × Int), measure x = some r → ∀ W0 : World, FTo Tryd.prog W0 53 #[.agg #[.int .u8 x.1, .int .u32 x.2.1, .bool x.2.2.1, ls 1 false (encI .u8) x.2.2.2.1, ls 5 false enc36 x.2.2.2.2.1], .int .i64 x.2.2.2.2.2.1, .pointer (some ⟨0, 0, none⟩)] (mkW 1 [] [(0, .cells [.int .i64 x.2.2.2.2.2.2] 3 1)]) (.returned (.bool r.1)) (mkW 1 [] [(0, .cells [.int .i64 r.2] 3 1)])) ∧
  (∀ (x : Int × Bool × Int × Int × Int × Bool × (List Int) × (List S36)) (r : Bool × Int), measure_L1 x = some r → ∀ (W0 w0 : World) (S : Own), Std W0 w0 S 1 → H Tryd.prog w0 S 36 (cR (cL (cR (cR (cB Tryd.f53))))) (mkS [(1, .int .i64 x.1), (2, .pointer (some ⟨0, 0, none⟩)), (3, .pointer (some ⟨1, 0, none⟩)), (21, .bool x.2.1)] [(0, .cells [.int .i64 x.2.2.1] 3 1), (1, .cells [.int .u8 x.2.2.2.1, .int .u32 x.2.2.2.2.1, .bool x.2.2.2.2.2.1, ls 1 false (encI .u8) x.2.2.2.2.2.2.1, ls 5 false enc36 x.2.2.2.2.2.2.2] 36 5)] 2 []) (Kseq Tryd.prog w0 S 36 (cR (cR (cR (cB Tryd.f53)))) (KEnd Tryd.prog Tryd.f53 (FEnd w0 S (.returned (.bool r.1)) (mkW 1 [] [(0, .cells [.int .i64 r.2] 3 1)]))))) := by
  refine measure_L2.mutual_partial_correctness (fun (x : Int × (List S36) × Int × Int × Int) (r : Bool × Int) => ∀ (W0 w0 : World) (S : Own), Std W0 w0 S 1 → HL Tryd.prog w0 S 36 (cL (cL (cR (cL (cR (cR (cR (cB Tryd.f53)))))))) (mkS [(1, .int .i64 x.1), (2, .pointer (some ⟨0, 0, none⟩)), (23, ls 5 false enc36 x.2.1), (24, .int .i64 x.2.2.1), (25, .int .i64 x.2.2.2.1)] [(0, .cells [.int .i64 x.2.2.2.2] 3 1)] 1 []) (Kblock 0 (Kseq Tryd.prog w0 S 36 (cR (cR (cR (cR (cB Tryd.f53))))) (KEnd Tryd.prog Tryd.f53 (FEnd w0 S (.returned (.bool r.1)) (mkW 1 [] [(0, .cells [.int .i64 r.2] 3 1)])))))) (fun (x : Int × Int × Bool × (List Int) × (List S36) × Int × Int) (r : Bool × Int) => ∀ W0 : World, FTo Tryd.prog W0 53 #[.agg #[.int .u8 x.1, .int .u32 x.2.1, .bool x.2.2.1, ls 1 false (encI .u8) x.2.2.2.1, ls 5 false enc36 x.2.2.2.2.1], .int .i64 x.2.2.2.2.2.1, .pointer (some ⟨0, 0, none⟩)] (mkW 1 [] [(0, .cells [.int .i64 x.2.2.2.2.2.2] 3 1)]) (.returned (.bool r.1)) (mkW 1 [] [(0, .cells [.int .i64 r.2] 3 1)])) (fun (x : Int × Bool × Int × Int × Int × Bool × (List Int) × (List S36)) (r : Bool × Int) => ∀ (W0 w0 : World) (S : Own), Std W0 w0 S 1 → H Tryd.prog w0 S 36 (cR (cL (cR (cR (cB Tryd.f53))))) (mkS [(1, .int .i64 x.1), (2, .pointer (some ⟨0, 0, none⟩)), (3, .pointer (some ⟨1, 0, none⟩)), (21, .bool x.2.1)] [(0, .cells [.int .i64 x.2.2.1] 3 1), (1, .cells [.int .u8 x.2.2.2.1, .int .u32 x.2.2.2.2.1, .bool x.2.2.2.2.2.1, ls 1 false (encI .u8) x.2.2.2.2.2.2.1, ls 5 false enc36 x.2.2.2.2.2.2.2] 36 5)] 2 []) (Kseq Tryd.prog w0 S 36 (cR (cR (cR (cB Tryd.f53)))) (KEnd Tryd.prog Tryd.f53 (FEnd w0 S (.returned (.bool r.1)) (mkW 1 [] [(0, .cells [.int .i64 r.2] 3 1)]))))) ?_ ?_ ?_
  · intro g_measure_L2 g_measure ih_measure_L2 ih_measure x r h
    intro W0 w0 S hS
    haveI := hS.noEx Tryd.prog
    refine HL.round ?_
    refine H.sr 1 (by kernel_rfl) ?_
    refine H.seqP (by kernel_rfl) ?_
    refine H.condS (b := decide (x.2.2.2.1 < x.2.2.1)) (by kernel_rfl) (by kernel_rfl) (fun hb => ?_) (fun hb => ?_)
    rotate_left
    · rw [if_neg (of_decide_eq_false hb)] at h
      refine H.exitI 0 (by kernel_rfl) ?_
      refine Kseq_exit ?_
      refine Kloop_exit ?_
      refine Kblock_hit ?_
      refine Kseq_norm ?_
      refine H.sr 1 (by kernel_rfl) ?_
      refine H.retP (by kernel_rfl) ?_
      obtain rfl := Option.some.inj h
      exact KEnd.of (v := .bool true) (by kernel_rfl) (by kernel_rfl) (FEnd.ren hS [0] _ _ (by kernel_rfl))
    rw [if_pos (of_decide_eq_true hb)] at h
    refine H.skipP (by kernel_rfl) ?_
    refine Kseq_norm ?_
    refine H.seqP (by kernel_rfl) ?_
    refine H.blockI 1 (by kernel_rfl) ?_
    refine H.sg (by kernel_rfl) ?_
    obtain ⟨y1, hy, h⟩ := bindS h
    refine HO.idx (.agg #[.int .u8 y1.c0, .int .u32 y1.c1, .bool y1.c2, ls 1 false (encI .u8) y1.c3, ls 5 false enc36 y1.c4]) hy (enc36_eq y1) (by kernel_rfl) ?_
    refine HO.fin 3 (by kernel_rfl) ?_
    refine H.sg (by kernel_rfl) ?_
    refine HO.goP 4 (by kernel_rfl) ?_
    obtain ⟨y2, hy, h⟩ := bindS h
    refine HO.callFW hS (.bool y2.1) 2 [] [(0, .cells [.int .i64 y2.2] 3 1), (1, .cells [.int .u8 y1.c0, .int .u32 y1.c1, .bool y1.c2, ls 1 false (encI .u8) y1.c3, ls 5 false enc36 y1.c4] 36 5)] [0] [.agg [.keep, .keep, .keep, .list 1 false, .list 5 false], .keep, .keep] (ih_measure (y1.c0, y1.c1, y1.c2, y1.c3, y1.c4, (IntKind.i64.wrap (x.1 + 1)), x.2.2.2.2) y2 hy W0) (by kernel_rfl) (by kernel_rfl) ?_
    refine HO.fin 1 (by kernel_rfl) ?_
    refine H.condS (b := !y2.1) (by kernel_rfl) (by kernel_rfl) (fun hb => ?_) (fun hb => ?_)
    rotate_left
    · rw [if_neg (ne_true hb)] at h
      refine H.skipP (by kernel_rfl) ?_
      refine Kblock_norm ?_
      refine Kseq_norm ?_
      refine H.regP (by kernel_rfl) ?_
      refine HO.goP 2 (by kernel_rfl) ?_
      refine HO.done (by kernel_rfl) ?_
      refine Kloop_norm ?_
      exact HL.ren hS [0] _ _ _ (by kernel_rfl) (ih_measure_L2 (x.1, x.2.1, x.2.2.1, (IntKind.i64.wrap (x.2.2.2.1 + 1)), y2.2) r h W0 w0 S hS)
    rw [if_pos hb] at h
    refine H.sr 1 (by kernel_rfl) ?_
    refine H.retP (by kernel_rfl) ?_
    refine Kblock_ret ?_
    refine Kseq_ret ?_
    refine Kloop_ret ?_
    refine Kblock_ret ?_
    refine Kseq_ret ?_
    obtain rfl := Option.some.inj h
    exact KEnd.of (v := .bool false) (by kernel_rfl) (by kernel_rfl) (FEnd.ren hS [0] _ _ (by kernel_rfl))
  · intro g_measure_L1 ih_measure_L1 x r h
    intro W0
    refine FTo.of_body (fn := Tryd.f53) (code := cB Tryd.f53) Tryd.func53 rfl rfl ?_
    intro w0 S hS
    haveI := hS.noEx Tryd.prog
    refine H.sr 2 (by kernel_rfl) ?_
    refine H.sr 6 (by kernel_rfl) ?_
    refine H.seqP (by kernel_rfl) ?_
    refine H.sg (by kernel_rfl) ?_
    refine HO.goP 2 (by kernel_rfl) ?_
    refine HO.boolP (decide (16 < x.2.2.2.2.2.1)) (by kernel_rfl) (by kernel_rfl) (fun hb => ?_) (fun hb => ?_)
    · rw [if_pos (of_decide_eq_true hb)] at h
      refine HO.fin 5 (by kernel_rfl) ?_
      exact H.ren hS [0, 1] _ _ _ (by kernel_rfl) (ih_measure_L1 (x.2.2.2.2.2.1, true, (IntKind.i64.wrap (x.2.2.2.2.2.2 + 1)), x.1, x.2.1, x.2.2.1, x.2.2.2.1, x.2.2.2.2.1) r h W0 w0 S hS)
    rw [if_neg (of_decide_eq_false hb)] at h
    refine HO.fin 5 (by kernel_rfl) ?_
    exact H.ren hS [0, 1] _ _ _ (by kernel_rfl) (ih_measure_L1 (x.2.2.2.2.2.1, (decide (1024 < (IntKind.i64.wrap (x.2.2.2.2.2.2 + 1)))), (IntKind.i64.wrap (x.2.2.2.2.2.2 + 1)), x.1, x.2.1, x.2.2.1, x.2.2.2.1, x.2.2.2.2.1) r h W0 w0 S hS)
  · intro g_measure_L2 ih_measure_L2 x r h
    intro W0 w0 S hS
    haveI := hS.noEx Tryd.prog
    refine H.condS (b := x.2.1) (by kernel_rfl) (by kernel_rfl) (fun hb => ?_) (fun hb => ?_)
    · rw [if_pos hb] at h
      refine H.sr 1 (by kernel_rfl) ?_
      refine H.retP (by kernel_rfl) ?_
      refine Kseq_ret ?_
      obtain rfl := Option.some.inj h
      exact KEnd.of (v := .bool false) (by kernel_rfl) (by kernel_rfl) (FEnd.ren hS [0] _ _ (by kernel_rfl))
    rw [if_neg (ne_true hb)] at h
    refine H.skipP (by kernel_rfl) ?_
    refine Kseq_norm ?_
    refine H.seqP (by kernel_rfl) ?_
    refine H.sg (by kernel_rfl) ?_
    refine HO.goP 2 (by kernel_rfl) ?_
    refine HO.len (by kernel_rfl) (by kernel_rfl) (ls_size enc36 x.2.2.2.2.2.2.2) ?_
    refine HO.fin 1 (by kernel_rfl) ?_
    refine H.blockI 0 (by kernel_rfl) ?_
    refine H.loopP (by kernel_rfl) ?_
    exact HL.ren hS [0] _ _ _ (by kernel_rfl) (ih_measure_L2 (x.1, x.2.2.2.2.2.2.2, (x.2.2.2.2.2.2.2.length : Int), 0, x.2.2.1) r h W0 w0 S hS)
theorem measure_L2_ok : ∀ (x : Int × (List S36) × Int × Int × Int) (r : Bool × Int), measure_L2 x = some r → ∀ (W0 w0 : World) (S : Own), Std W0 w0 S 1 → HL Tryd.prog w0 S 36 (cL (cL (cR (cL (cR (cR (cR (cB Tryd.f53)))))))) (mkS [(1, .int .i64 x.1), (2, .pointer (some ⟨0, 0, none⟩)), (23, ls 5 false enc36 x.2.1), (24, .int .i64 x.2.2.1), (25, .int .i64 x.2.2.2.1)] [(0, .cells [.int .i64 x.2.2.2.2] 3 1)] 1 []) (Kblock 0 (Kseq Tryd.prog w0 S 36 (cR (cR (cR (cR (cB Tryd.f53))))) (KEnd Tryd.prog Tryd.f53 (FEnd w0 S (.returned (.bool r.1)) (mkW 1 [] [(0, .cells [.int .i64 r.2] 3 1)]))))) := measure_L2_grp.1
theorem measure_ok : ∀ (x : Int × Int × Bool × (List Int) × (List S36) × Int × Int) (r : Bool × Int), measure x = some r → ∀ W0 : World, FTo Tryd.prog W0 53 #[.agg #[.int .u8 x.1, .int .u32 x.2.1, .bool x.2.2.1, ls 1 false (encI .u8) x.2.2.2.1, ls 5 false enc36 x.2.2.2.2.1], .int .i64 x.2.2.2.2.2.1, .pointer (some ⟨0, 0, none⟩)] (mkW 1 [] [(0, .cells [.int .i64 x.2.2.2.2.2.2] 3 1)]) (.returned (.bool r.1)) (mkW 1 [] [(0, .cells [.int .i64 r.2] 3 1)]) := measure_L2_grp.2.1
theorem measure_L1_ok : ∀ (x : Int × Bool × Int × Int × Int × Bool × (List Int) × (List S36)) (r : Bool × Int), measure_L1 x = some r → ∀ (W0 w0 : World) (S : Own), Std W0 w0 S 1 → H Tryd.prog w0 S 36 (cR (cL (cR (cR (cB Tryd.f53))))) (mkS [(1, .int .i64 x.1), (2, .pointer (some ⟨0, 0, none⟩)), (3, .pointer (some ⟨1, 0, none⟩)), (21, .bool x.2.1)] [(0, .cells [.int .i64 x.2.2.1] 3 1), (1, .cells [.int .u8 x.2.2.2.1, .int .u32 x.2.2.2.2.1, .bool x.2.2.2.2.2.1, ls 1 false (encI .u8) x.2.2.2.2.2.2.1, ls 5 false enc36 x.2.2.2.2.2.2.2] 36 5)] 2 []) (Kseq Tryd.prog w0 S 36 (cR (cR (cR (cB Tryd.f53)))) (KEnd Tryd.prog Tryd.f53 (FEnd w0 S (.returned (.bool r.1)) (mkW 1 [] [(0, .cells [.int .i64 r.2] 3 1)])))) := measure_L2_grp.2.2
mutual
def indexF_L1 (x : (List S36) × Int × Int) : Option (Int) :=
  if x.2.2 < x.2.1 then
    (at' x.1 x.2.2) >>= fun y1 =>
    (plainF (y1.c0, y1.c1, y1.c2, y1.c3, y1.c4)) >>= fun y2 =>
    if y2 = true then
      some x.2.2
    else
      indexF_L1 (x.1, x.2.1, (IntKind.i64.wrap (x.2.2 + 1)))
  else
    some (-1)
partial_fixpoint
def plainF (x : Int × Int × Bool × (List Int) × (List S36)) : Option (Bool) :=
  (plain (x.1, x.2.1, x.2.2.1, x.2.2.2.1, x.2.2.2.2)) >>= fun y1 =>
  some (!y1)
partial_fixpoint
def plain (x : Int × Int × Bool × (List Int) × (List S36)) : Option (Bool) :=
  if 3 < x.1 then
    plain_L1 (true, x.1, x.2.1, x.2.2.1, x.2.2.2.1, x.2.2.2.2)
  else
    if 2097151 < x.2.1 then
      plain_L1 (true, x.1, x.2.1, x.2.2.1, x.2.2.2.1, x.2.2.2.2)
    else
      if x.1 = 0 then
        plain_L1 ((decide (x.2.1 = 0)), x.1, x.2.1, x.2.2.1, x.2.2.2.1, x.2.2.2.2)
      else
        plain_L1 (false, x.1, x.2.1, x.2.2.1, x.2.2.2.1, x.2.2.2.2)
partial_fixpoint
def plain_L1 (x : Bool × Int × Int × Bool × (List Int) × (List S36)) : Option (Bool) :=
  if x.1 = true then
    some false
  else
    if x.2.2.2.1 = true then
      if 0 < (x.2.2.2.2.1.length : Int) then
        plain_L2 (true, x.2.1, x.2.2.1, x.2.2.2.1, x.2.2.2.2.1, x.2.2.2.2.2)
      else
        if (!x.2.2.2.1) = true then
          plain_L2 ((decide (0 < (x.2.2.2.2.2.length : Int))), x.2.1, x.2.2.1, x.2.2.2.1, x.2.2.2.2.1, x.2.2.2.2.2)
        else
          plain_L2 (false, x.2.1, x.2.2.1, x.2.2.2.1, x.2.2.2.2.1, x.2.2.2.2.2)
    else
      if (!x.2.2.2.1) = true then
        plain_L2 ((decide (0 < (x.2.2.2.2.2.length : Int))), x.2.1, x.2.2.1, x.2.2.2.1, x.2.2.2.2.1, x.2.2.2.2.2)
      else
        plain_L2 (false, x.2.1, x.2.2.1, x.2.2.2.1, x.2.2.2.2.1, x.2.2.2.2.2)
partial_fixpoint
def plain_L2 (x : Bool × Int × Int × Bool × (List Int) × (List S36)) : Option (Bool) :=
  if x.1 = true then
    some false
  else
    (containsF x.2.2.2.2.2) >>= fun y1 =>
    some (!y1)
partial_fixpoint
def containsF (x : (List S36)) : Option (Bool) :=
  (indexF x) >>= fun y1 =>
  some (decide (0 ≤ y1))
partial_fixpoint
def indexF (x : (List S36)) : Option (Int) :=
  indexF_L1 (x, (x.length : Int), 0)
partial_fixpoint
end
theorem indexF_L1_grp : (∀ (x : (List S36) × Int × Int) (r : Int), indexF_L1 x = some r → ∀ (W0 w0 : World) (S : Own), Std W0 w0 S 0 → HL Tryd.prog w0 S 19 (cL (cL (cR (cL (cR (cB Tryd.f61)))))) (mkS [(0, ls 5 false enc36 x.1), (1, .func (.func 78) #[] #[]), (7, .int .i64 x.2.1), (8, .int .i64 x.2.2)] [] 0 []) (Kblock 0 (Kseq Tryd.prog w0 S 19 (cR (cR (cB Tryd.f61))) (KEnd Tryd.prog Tryd.f61 (PEnd w0 S (.returned (.int .i64 r))))))) ∧
  (∀ (x : Int × Int × Bool × (List Int) × (List S36)) (r : Bool), plainF x = some r → ∀ W0 : World, PTo Tryd.prog W0 78 #[.agg #[.int .u8 x.1, .int .u32 x.2.1, .bool x.2.2.1, ls 1 false (encI .u8) x.2.2.2.1, ls 5 false enc36 x.2.2.2.2]] (.returned (.bool r))) ∧
  (∀ (x : Int × Int × Bool × (List Int) × (List S36)) (r : Bool), plain x = some r → ∀ W0 : World, PTo Tryd.prog W0 54 #[.agg #[.int .u8 x.1, .int .u32 x.2.1, .bool x.2.2.1, ls 1 false (encI .u8) x.2.2.2.1, ls 5 false enc36 x.2.2.2.2]] (.returned (.bool r))) ∧
  (∀ (x : Bool × Int × Int × Bool × (List Int) × (List S36)) (r : Bool), plain_L1 x = some r → ∀ (W0 w0 : World) (S : Own), Std W0 w0 S 0 → H Tryd.prog w0 S 44 (cR (cL (cR (cB Tryd.f54)))) (mkS [(1, .pointer (some ⟨0, 0, none⟩)), (20, .bool x.1)] [(0, .cells [.int .u8 x.2.1, .int .u32 x.2.2.1, .bool x.2.2.2.1, ls 1 false (encI .u8) x.2.2.2.2.1, ls 5 false enc36 x.2.2.2.2.2] 36 5)] 1 []) (Kseq Tryd.prog w0 S 44 (cR (cR (cB Tryd.f54))) (KEnd Tryd.prog Tryd.f54 (PEnd w0 S (.returned (.bool r)))))) ∧
  (∀ (x : Bool × Int × Int × Bool × (List Int) × (List S36)) (r : Bool), plain_L2 x = some r → ∀ (W0 w0 : World) (S : Own), Std W0 w0 S 0 → H Tryd.prog w0 S 44 (cR (cL (cR (cR (cB Tryd.f54))))) (mkS [(1, .pointer (some ⟨0, 0, none⟩)), (39, .bool x.1)] [(0, .cells [.int .u8 x.2.1, .int .u32 x.2.2.1, .bool x.2.2.2.1, ls 1 false (encI .u8) x.2.2.2.2.1, ls 5 false enc36 x.2.2.2.2.2] 36 5)] 1 []) (Kseq Tryd.prog w0 S 44 (cR (cR (cR (cB Tryd.f54)))) (KEnd Tryd.prog Tryd.f54 (PEnd w0 S (.returned (.bool r)))))) ∧
  (∀ (x : (List S36)) (r : Bool), containsF x = some r → ∀ W0 : World, PTo Tryd.prog W0 77 #[ls 5 false enc36 x, .func (.func 78) #[] #[]] (.returned (.bool r))) ∧
  (∀ (x : (List S36)) (r : Int), indexF x = some r → ∀ W0 : World, PTo Tryd.prog W0 61 #[ls 5 false enc36 x, .func (.func 78) #[] #[]] (.returned (.int .i64 r))) := by
  refine indexF_L1.mutual_partial_correctness (fun (x : (List S36) × Int × Int) (r : Int) => ∀ (W0 w0 : World) (S : Own), Std W0 w0 S 0 → HL Tryd.prog w0 S 19 (cL (cL (cR (cL (cR (cB Tryd.f61)))))) (mkS [(0, ls 5 false enc36 x.1), (1, .func (.func 78) #[] #[]), (7, .int .i64 x.2.1), (8, .int .i64 x.2.2)] [] 0 []) (Kblock 0 (Kseq Tryd.prog w0 S 19 (cR (cR (cB Tryd.f61))) (KEnd Tryd.prog Tryd.f61 (PEnd w0 S (.returned (.int .i64 r))))))) (fun (x : Int × Int × Bool × (List Int) × (List S36)) (r : Bool) => ∀ W0 : World, PTo Tryd.prog W0 78 #[.agg #[.int .u8 x.1, .int .u32 x.2.1, .bool x.2.2.1, ls 1 false (encI .u8) x.2.2.2.1, ls 5 false enc36 x.2.2.2.2]] (.returned (.bool r))) (fun (x : Int × Int × Bool × (List Int) × (List S36)) (r : Bool) => ∀ W0 : World, PTo Tryd.prog W0 54 #[.agg #[.int .u8 x.1, .int .u32 x.2.1, .bool x.2.2.1, ls 1 false (encI .u8) x.2.2.2.1, ls 5 false enc36 x.2.2.2.2]] (.returned (.bool r))) (fun (x : Bool × Int × Int × Bool × (List Int) × (List S36)) (r : Bool) => ∀ (W0 w0 : World) (S : Own), Std W0 w0 S 0 → H Tryd.prog w0 S 44 (cR (cL (cR (cB Tryd.f54)))) (mkS [(1, .pointer (some ⟨0, 0, none⟩)), (20, .bool x.1)] [(0, .cells [.int .u8 x.2.1, .int .u32 x.2.2.1, .bool x.2.2.2.1, ls 1 false (encI .u8) x.2.2.2.2.1, ls 5 false enc36 x.2.2.2.2.2] 36 5)] 1 []) (Kseq Tryd.prog w0 S 44 (cR (cR (cB Tryd.f54))) (KEnd Tryd.prog Tryd.f54 (PEnd w0 S (.returned (.bool r)))))) (fun (x : Bool × Int × Int × Bool × (List Int) × (List S36)) (r : Bool) => ∀ (W0 w0 : World) (S : Own), Std W0 w0 S 0 → H Tryd.prog w0 S 44 (cR (cL (cR (cR (cB Tryd.f54))))) (mkS [(1, .pointer (some ⟨0, 0, none⟩)), (39, .bool x.1)] [(0, .cells [.int .u8 x.2.1, .int .u32 x.2.2.1, .bool x.2.2.2.1, ls 1 false (encI .u8) x.2.2.2.2.1, ls 5 false enc36 x.2.2.2.2.2] 36 5)] 1 []) (Kseq Tryd.prog w0 S 44 (cR (cR (cR (cB Tryd.f54)))) (KEnd Tryd.prog Tryd.f54 (PEnd w0 S (.returned (.bool r)))))) (fun (x : (List S36)) (r : Bool) => ∀ W0 : World, PTo Tryd.prog W0 77 #[ls 5 false enc36 x, .func (.func 78) #[] #[]] (.returned (.bool r))) (fun (x : (List S36)) (r : Int) => ∀ W0 : World, PTo Tryd.prog W0 61 #[ls 5 false enc36 x, .func (.func 78) #[] #[]] (.returned (.int .i64 r))) ?_ ?_ ?_ ?_ ?_ ?_ ?_
  · intro g_indexF_L1 g_plainF ih_indexF_L1 ih_plainF x r h
    intro W0 w0 S hS
    haveI := hS.noEx Tryd.prog
    refine HL.round ?_
    refine H.sr 1 (by kernel_rfl) ?_
    refine H.seqP (by kernel_rfl) ?_
    refine H.condS (b := decide (x.2.2 < x.2.1)) (by kernel_rfl) (by kernel_rfl) (fun hb => ?_) (fun hb => ?_)
    rotate_left
    · rw [if_neg (of_decide_eq_false hb)] at h
      refine H.exitI 0 (by kernel_rfl) ?_
      refine Kseq_exit ?_
      refine Kloop_exit ?_
      refine Kblock_hit ?_
      refine Kseq_norm ?_
      refine H.sr 1 (by kernel_rfl) ?_
      refine H.retP (by kernel_rfl) ?_
      obtain rfl := Option.some.inj h
      exact KEnd.ret (by kernel_rfl) (by kernel_rfl) (by kernel_rfl)
    rw [if_pos (of_decide_eq_true hb)] at h
    refine H.skipP (by kernel_rfl) ?_
    refine Kseq_norm ?_
    refine H.seqP (by kernel_rfl) ?_
    refine H.blockI 1 (by kernel_rfl) ?_
    refine H.sr 2 (by kernel_rfl) ?_
    refine H.sg (by kernel_rfl) ?_
    refine HO.goP 3 (by kernel_rfl) ?_
    obtain ⟨y1, hy, h⟩ := bindS h
    refine HO.idx (.agg #[.int .u8 y1.c0, .int .u32 y1.c1, .bool y1.c2, ls 1 false (encI .u8) y1.c3, ls 5 false enc36 y1.c4]) hy (enc36_eq y1) (by kernel_rfl) ?_
    refine HO.goP 1 (by kernel_rfl) ?_
    obtain ⟨y2, hy, h⟩ := bindS h
    refine HO.callW hS [.agg [.keep, .keep, .keep, .list 1 false, .list 5 false]] (ih_plainF (y1.c0, y1.c1, y1.c2, y1.c3, y1.c4) y2 hy W0) (by kernel_rfl) (by kernel_rfl) ?_
    refine HO.fin 0 (by kernel_rfl) ?_
    refine H.condS (b := y2) (by kernel_rfl) (by kernel_rfl) (fun hb => ?_) (fun hb => ?_)
    rotate_left
    · rw [if_neg (ne_true hb)] at h
      refine H.skipP (by kernel_rfl) ?_
      refine Kblock_norm ?_
      refine Kseq_norm ?_
      refine H.regP (by kernel_rfl) ?_
      refine HO.goP 2 (by kernel_rfl) ?_
      refine HO.done (by kernel_rfl) ?_
      refine Kloop_norm ?_
      exact HL.ren hS [] _ _ _ (by kernel_rfl) (ih_indexF_L1 (x.1, x.2.1, (IntKind.i64.wrap (x.2.2 + 1))) r h W0 w0 S hS)
    rw [if_pos hb] at h
    refine H.sr 2 (by kernel_rfl) ?_
    refine H.retP (by kernel_rfl) ?_
    refine Kblock_ret ?_
    refine Kseq_ret ?_
    refine Kloop_ret ?_
    refine Kblock_ret ?_
    refine Kseq_ret ?_
    obtain rfl := Option.some.inj h
    exact KEnd.ret (by kernel_rfl) (by kernel_rfl) (by kernel_rfl)
  · intro g_plain ih_plain x r h
    intro W0
    refine PTo.of_body (fn := Tryd.f78) (code := cB Tryd.f78) Tryd.func78 rfl rfl ?_
    intro w0 S hS
    haveI := hS.noEx Tryd.prog
    refine H.sr 2 (by kernel_rfl) ?_
    refine H.sg (by kernel_rfl) ?_
    refine HO.goP 1 (by kernel_rfl) ?_
    obtain ⟨y1, hy, h⟩ := bindS h
    refine HO.callW hS [.agg [.keep, .keep, .keep, .list 1 false, .list 5 false]] (ih_plain (x.1, x.2.1, x.2.2.1, x.2.2.2.1, x.2.2.2.2) y1 hy W0) (by kernel_rfl) (by kernel_rfl) ?_
    refine HO.fin 2 (by kernel_rfl) ?_
    refine H.retP (by kernel_rfl) ?_
    obtain rfl := Option.some.inj h
    exact KEnd.ret (by kernel_rfl) (by kernel_rfl) (by kernel_rfl)
  · intro g_plain_L1 ih_plain_L1 x r h
    intro W0
    refine PTo.of_body (fn := Tryd.f54) (code := cB Tryd.f54) Tryd.func54 rfl rfl ?_
    intro w0 S hS
    haveI := hS.noEx Tryd.prog
    refine H.sr 2 (by kernel_rfl) ?_
    refine H.seqP (by kernel_rfl) ?_
    refine H.sg (by kernel_rfl) ?_
    refine HO.goP 3 (by kernel_rfl) ?_
    refine HO.boolP (decide (3 < x.1)) (by kernel_rfl) (by kernel_rfl) (fun hb => ?_) (fun hb => ?_)
    · rw [if_pos (of_decide_eq_true hb)] at h
      refine HO.fin 14 (by kernel_rfl) ?_
      exact H.ren hS [0] _ _ _ (by kernel_rfl) (ih_plain_L1 (true, x.1, x.2.1, x.2.2.1, x.2.2.2.1, x.2.2.2.2) r h W0 w0 S hS)
    rw [if_neg (of_decide_eq_false hb)] at h
    refine HO.goP 4 (by kernel_rfl) ?_
    refine HO.boolP (decide (2097151 < x.2.1)) (by kernel_rfl) (by kernel_rfl) (fun hb => ?_) (fun hb => ?_)
    · rw [if_pos (of_decide_eq_true hb)] at h
      refine HO.fin 9 (by kernel_rfl) ?_
      exact H.ren hS [0] _ _ _ (by kernel_rfl) (ih_plain_L1 (true, x.1, x.2.1, x.2.2.1, x.2.2.2.1, x.2.2.2.2) r h W0 w0 S hS)
    rw [if_neg (of_decide_eq_false hb)] at h
    refine HO.goP 3 (by kernel_rfl) ?_
    refine HO.boolP (decide (x.1 = 0)) (by kernel_rfl) (by kernel_rfl) (fun hb => ?_) (fun hb => ?_)
    · rw [if_pos (of_decide_eq_true hb)] at h
      refine HO.fin 5 (by kernel_rfl) ?_
      exact H.ren hS [0] _ _ _ (by kernel_rfl) (ih_plain_L1 ((decide (x.2.1 = 0)), x.1, x.2.1, x.2.2.1, x.2.2.2.1, x.2.2.2.2) r h W0 w0 S hS)
    rw [if_neg (of_decide_eq_false hb)] at h
    refine HO.fin 5 (by kernel_rfl) ?_
    exact H.ren hS [0] _ _ _ (by kernel_rfl) (ih_plain_L1 (false, x.1, x.2.1, x.2.2.1, x.2.2.2.1, x.2.2.2.2) r h W0 w0 S hS)
  · intro g_plain_L2 ih_plain_L2 x r h
    intro W0 w0 S hS
    haveI := hS.noEx Tryd.prog
    refine H.condS (b := x.1) (by kernel_rfl) (by kernel_rfl) (fun hb => ?_) (fun hb => ?_)
    · rw [if_pos hb] at h
      refine H.sr 1 (by kernel_rfl) ?_
      refine H.retP (by kernel_rfl) ?_
      refine Kseq_ret ?_
      obtain rfl := Option.some.inj h
      exact KEnd.ret (by kernel_rfl) (by kernel_rfl) (by kernel_rfl)
    rw [if_neg (ne_true hb)] at h
    refine H.skipP (by kernel_rfl) ?_
    refine Kseq_norm ?_
    refine H.seqP (by kernel_rfl) ?_
    refine H.sg (by kernel_rfl) ?_
    refine HO.goP 2 (by kernel_rfl) ?_
    refine HO.boolP x.2.2.2.1 (by kernel_rfl) (by kernel_rfl) (fun hb => ?_) (fun hb => ?_)
    rotate_left
    · rw [if_neg (ne_true hb)] at h
      refine HO.goP 9 (by kernel_rfl) ?_
      refine HO.boolP (!x.2.2.2.1) (by kernel_rfl) (by kernel_rfl) (fun hb => ?_) (fun hb => ?_)
      rotate_left
      · rw [if_neg (ne_true hb)] at h
        refine HO.fin 6 (by kernel_rfl) ?_
        exact H.ren hS [0] _ _ _ (by kernel_rfl) (ih_plain_L2 (false, x.2.1, x.2.2.1, x.2.2.2.1, x.2.2.2.2.1, x.2.2.2.2.2) r h W0 w0 S hS)
      rw [if_pos hb] at h
      refine HO.goP 2 (by kernel_rfl) ?_
      refine HO.len (by kernel_rfl) (by kernel_rfl) (ls_size enc36 x.2.2.2.2.2) ?_
      refine HO.fin 3 (by kernel_rfl) ?_
      exact H.ren hS [0] _ _ _ (by kernel_rfl) (ih_plain_L2 ((decide (0 < (x.2.2.2.2.2.length : Int))), x.2.1, x.2.2.1, x.2.2.2.1, x.2.2.2.2.1, x.2.2.2.2.2) r h W0 w0 S hS)
    rw [if_pos hb] at h
    refine HO.goP 2 (by kernel_rfl) ?_
    refine HO.len (by kernel_rfl) (by kernel_rfl) (ls_size (encI .u8) x.2.2.2.2.1) ?_
    refine HO.goP 2 (by kernel_rfl) ?_
    refine HO.boolP (decide (0 < (x.2.2.2.2.1.length : Int))) (by kernel_rfl) (by kernel_rfl) (fun hb => ?_) (fun hb => ?_)
    · rw [if_pos (of_decide_eq_true hb)] at h
      refine HO.fin 10 (by kernel_rfl) ?_
      exact H.ren hS [0] _ _ _ (by kernel_rfl) (ih_plain_L2 (true, x.2.1, x.2.2.1, x.2.2.2.1, x.2.2.2.2.1, x.2.2.2.2.2) r h W0 w0 S hS)
    rw [if_neg (of_decide_eq_false hb)] at h
    refine HO.goP 3 (by kernel_rfl) ?_
    refine HO.boolP (!x.2.2.2.1) (by kernel_rfl) (by kernel_rfl) (fun hb => ?_) (fun hb => ?_)
    rotate_left
    · rw [if_neg (ne_true hb)] at h
      refine HO.fin 6 (by kernel_rfl) ?_
      exact H.ren hS [0] _ _ _ (by kernel_rfl) (ih_plain_L2 (false, x.2.1, x.2.2.1, x.2.2.2.1, x.2.2.2.2.1, x.2.2.2.2.2) r h W0 w0 S hS)
    rw [if_pos hb] at h
    refine HO.goP 2 (by kernel_rfl) ?_
    refine HO.len (by kernel_rfl) (by kernel_rfl) (ls_size enc36 x.2.2.2.2.2) ?_
    refine HO.fin 3 (by kernel_rfl) ?_
    exact H.ren hS [0] _ _ _ (by kernel_rfl) (ih_plain_L2 ((decide (0 < (x.2.2.2.2.2.length : Int))), x.2.1, x.2.2.1, x.2.2.2.1, x.2.2.2.2.1, x.2.2.2.2.2) r h W0 w0 S hS)
  · intro g_containsF ih_containsF x r h
    intro W0 w0 S hS
    haveI := hS.noEx Tryd.prog
    refine H.condS (b := x.1) (by kernel_rfl) (by kernel_rfl) (fun hb => ?_) (fun hb => ?_)
    · rw [if_pos hb] at h
      refine H.sr 1 (by kernel_rfl) ?_
      refine H.retP (by kernel_rfl) ?_
      refine Kseq_ret ?_
      obtain rfl := Option.some.inj h
      exact KEnd.ret (by kernel_rfl) (by kernel_rfl) (by kernel_rfl)
    rw [if_neg (ne_true hb)] at h
    refine H.skipP (by kernel_rfl) ?_
    refine Kseq_norm ?_
    refine H.sg (by kernel_rfl) ?_
    refine HO.goP 2 (by kernel_rfl) ?_
    obtain ⟨y1, hy, h⟩ := bindS h
    refine HO.callW hS [.list 5 false, .keep] (ih_containsF x.2.2.2.2.2 y1 hy W0) (by kernel_rfl) (by kernel_rfl) ?_
    refine HO.fin 2 (by kernel_rfl) ?_
    refine H.retP (by kernel_rfl) ?_
    obtain rfl := Option.some.inj h
    exact KEnd.ret (by kernel_rfl) (by kernel_rfl) (by kernel_rfl)
  · intro g_indexF ih_indexF x r h
    intro W0
    refine PTo.of_body (fn := Tryd.f77) (code := cB Tryd.f77) Tryd.func77 rfl rfl ?_
    intro w0 S hS
    haveI := hS.noEx Tryd.prog
    refine H.sr 1 (by kernel_rfl) ?_
    refine H.sg (by kernel_rfl) ?_
    refine HO.goP 2 (by kernel_rfl) ?_
    obtain ⟨y1, hy, h⟩ := bindS h
    refine HO.callW hS [.list 5 false, .keep] (ih_indexF x y1 hy W0) (by kernel_rfl) (by kernel_rfl) ?_
    refine HO.fin 2 (by kernel_rfl) ?_
    refine H.retP (by kernel_rfl) ?_
    obtain rfl := Option.some.inj h
    exact KEnd.ret (by kernel_rfl) (by kernel_rfl) (by kernel_rfl)
  · intro g_indexF_L1 ih_indexF_L1 x r h
    intro W0
    refine PTo.of_body (fn := Tryd.f61) (code := cB Tryd.f61) Tryd.func61 rfl rfl ?_
    intro w0 S hS
    haveI := hS.noEx Tryd.prog
    refine H.sr 1 (by kernel_rfl) ?_
    refine H.seqP (by kernel_rfl) ?_
    refine H.sg (by kernel_rfl) ?_
    refine HO.goP 1 (by kernel_rfl) ?_
    refine HO.len (by kernel_rfl) (by kernel_rfl) (ls_size enc36 x) ?_
    refine HO.fin 1 (by kernel_rfl) ?_
    refine H.blockI 0 (by kernel_rfl) ?_
    refine H.loopP (by kernel_rfl) ?_
    exact HL.ren hS [] _ _ _ (by kernel_rfl) (ih_indexF_L1 (x, (x.length : Int), 0) r h W0 w0 S hS)
theorem indexF_L1_ok : ∀ (x : (List S36) × Int × Int) (r : Int), indexF_L1 x = some r → ∀ (W0 w0 : World) (S : Own), Std W0 w0 S 0 → HL Tryd.prog w0 S 19 (cL (cL (cR (cL (cR (cB Tryd.f61)))))) (mkS [(0, ls 5 false enc36 x.1), (1, .func (.func 78) #[] #[]), (7, .int .i64 x.2.1), (8, .int .i64 x.2.2)] [] 0 []) (Kblock 0 (Kseq Tryd.prog w0 S 19 (cR (cR (cB Tryd.f61))) (KEnd Tryd.prog Tryd.f61 (PEnd w0 S (.returned (.int .i64 r)))))) := indexF_L1_grp.1
theorem plainF_ok : ∀ (x : Int × Int × Bool × (List Int) × (List S36)) (r : Bool), plainF x = some r → ∀ W0 : World, PTo Tryd.prog W0 78 #[.agg #[.int .u8 x.1, .int .u32 x.2.1, .bool x.2.2.1, ls 1 false (encI .u8) x.2.2.2.1, ls 5 false enc36 x.2.2.2.2]] (.returned (.bool r)) := indexF_L1_grp.2.1
theorem plain_ok : ∀ (x : Int × Int × Bool × (List Int) × (List S36)) (r : Bool), plain x = some r → ∀ W0 : World, PTo Tryd.prog W0 54 #[.agg #[.int .u8 x.1, .int .u32 x.2.1, .bool x.2.2.1, ls 1 false (encI .u8) x.2.2.2.1, ls 5 false enc36 x.2.2.2.2]] (.returned (.bool r)) := indexF_L1_grp.2.2.1
theorem plain_L1_ok : ∀ (x : Bool × Int × Int × Bool × (List Int) × (List S36)) (r : Bool), plain_L1 x = some r → ∀ (W0 w0 : World) (S : Own), Std W0 w0 S 0 → H Tryd.prog w0 S 44 (cR (cL (cR (cB Tryd.f54)))) (mkS [(1, .pointer (some ⟨0, 0, none⟩)), (20, .bool x.1)] [(0, .cells [.int .u8 x.2.1, .int .u32 x.2.2.1, .bool x.2.2.2.1, ls 1 false (encI .u8) x.2.2.2.2.1, ls 5 false enc36 x.2.2.2.2.2] 36 5)] 1 []) (Kseq Tryd.prog w0 S 44 (cR (cR (cB Tryd.f54))) (KEnd Tryd.prog Tryd.f54 (PEnd w0 S (.returned (.bool r))))) := indexF_L1_grp.2.2.2.1
theorem plain_L2_ok : ∀ (x : Bool × Int × Int × Bool × (List Int) × (List S36)) (r : Bool), plain_L2 x = some r → ∀ (W0 w0 : World) (S : Own), Std W0 w0 S 0 → H Tryd.prog w0 S 44 (cR (cL (cR (cR (cB Tryd.f54))))) (mkS [(1, .pointer (some ⟨0, 0, none⟩)), (39, .bool x.1)] [(0, .cells [.int .u8 x.2.1, .int .u32 x.2.2.1, .bool x.2.2.2.1, ls 1 false (encI .u8) x.2.2.2.2.1, ls 5 false enc36 x.2.2.2.2.2] 36 5)] 1 []) (Kseq Tryd.prog w0 S 44 (cR (cR (cR (cB Tryd.f54)))) (KEnd Tryd.prog Tryd.f54 (PEnd w0 S (.returned (.bool r))))) := indexF_L1_grp.2.2.2.2.1
theorem containsF_ok : ∀ (x : (List S36)) (r : Bool), containsF x = some r → ∀ W0 : World, PTo Tryd.prog W0 77 #[ls 5 false enc36 x, .func (.func 78) #[] #[]] (.returned (.bool r)) := indexF_L1_grp.2.2.2.2.2.1
theorem indexF_ok : ∀ (x : (List S36)) (r : Int), indexF x = some r → ∀ W0 : World, PTo Tryd.prog W0 61 #[ls 5 false enc36 x, .func (.func 78) #[] #[]] (.returned (.int .i64 r)) := indexF_L1_grp.2.2.2.2.2.2
def check (x : Int × Int × Bool × (List Int) × (List S36)) : Option (Int) :=
  (measure (x.1, x.2.1, x.2.2.1, x.2.2.2.1, x.2.2.2.2, 1, 0)) >>= fun y1 =>
  if (!y1.1) = true then
    some 3
  else
    (plain (x.1, x.2.1, x.2.2.1, x.2.2.2.1, x.2.2.2.2)) >>= fun y2 =>
    if (!y2) = true then
      some 1
    else
      some 0
theorem check_ok : ∀ (x : Int × Int × Bool × (List Int) × (List S36)) (r : Int), check x = some r → ∀ W0 : World, PTo Tryd.prog W0 21 #[.agg #[.int .u8 x.1, .int .u32 x.2.1, .bool x.2.2.1, ls 1 false (encI .u8) x.2.2.2.1, ls 5 false enc36 x.2.2.2.2]] (.returned (.int .i64 r)) := by
  intro x r h
  unfold check at h
  intro W0
  refine PTo.of_body (fn := Tryd.f21) (code := cB Tryd.f21) Tryd.func21 rfl rfl ?_
  intro w0 S hS
  haveI := hS.noEx Tryd.prog
  refine H.sr 2 (by kernel_rfl) ?_
  refine H.sr 2 (by kernel_rfl) ?_
  refine H.seqP (by kernel_rfl) ?_
  refine H.blockI 0 (by kernel_rfl) ?_
  refine H.sg (by kernel_rfl) ?_
  refine HO.goP 1 (by kernel_rfl) ?_
  obtain ⟨y1, hy, h⟩ := bindS h
  refine HO.callFW hS (.bool y1.1) 2 [] [(0, .cells [.int .u8 x.1, .int .u32 x.2.1, .bool x.2.2.1, ls 1 false (encI .u8) x.2.2.2.1, ls 5 false enc36 x.2.2.2.2] 36 5), (1, .cells [.int .i64 y1.2] 3 1)] [1] [.agg [.keep, .keep, .keep, .list 1 false, .list 5 false], .keep, .keep] (measure_ok (x.1, x.2.1, x.2.2.1, x.2.2.2.1, x.2.2.2.2, 1, 0) y1 hy W0) (by kernel_rfl) (by kernel_rfl) ?_
  refine HO.fin 2 (by kernel_rfl) ?_
  refine H.condS (b := !y1.1) (by kernel_rfl) (by kernel_rfl) (fun hb => ?_) (fun hb => ?_)
  · rw [if_pos hb] at h
    refine H.sr 1 (by kernel_rfl) ?_
    refine H.retP (by kernel_rfl) ?_
    refine Kblock_ret ?_
    refine Kseq_ret ?_
    obtain rfl := Option.some.inj h
    exact KEnd.ret (by kernel_rfl) (by kernel_rfl) (by kernel_rfl)
  rw [if_neg (ne_true hb)] at h
  refine H.sg (by kernel_rfl) ?_
  refine HO.goP 1 (by kernel_rfl) ?_
  obtain ⟨y2, hy, h⟩ := bindS h
  refine HO.callW hS [.agg [.keep, .keep, .keep, .list 1 false, .list 5 false]] (plain_ok (x.1, x.2.1, x.2.2.1, x.2.2.2.1, x.2.2.2.2) y2 hy W0) (by kernel_rfl) (by kernel_rfl) ?_
  refine HO.fin 2 (by kernel_rfl) ?_
  refine H.condS (b := !y2) (by kernel_rfl) (by kernel_rfl) (fun hb => ?_) (fun hb => ?_)
  · rw [if_pos hb] at h
    refine H.sr 1 (by kernel_rfl) ?_
    refine H.retP (by kernel_rfl) ?_
    refine Kblock_ret ?_
    refine Kseq_ret ?_
    obtain rfl := Option.some.inj h
    exact KEnd.ret (by kernel_rfl) (by kernel_rfl) (by kernel_rfl)
  rw [if_neg (ne_true hb)] at h
  refine H.skipP (by kernel_rfl) ?_
  refine Kblock_norm ?_
  refine Kseq_norm ?_
  refine H.sr 1 (by kernel_rfl) ?_
  refine H.retP (by kernel_rfl) ?_
  obtain rfl := Option.some.inj h
  exact KEnd.ret (by kernel_rfl) (by kernel_rfl) (by kernel_rfl)
def identifier_L3 (x : (List Int) × Int × Int × Int × Bool × (List Int) × (List S36)) : Option ((List Int)) :=
  if 0 < x.2.1 then
    (shr' .u32 x.2.2.2.1 x.2.1) >>= fun y4 =>
    (app' 1 x.1 [(bOr .u8 (IntKind.u8.wrap y4) 128)]) >>= fun y5 =>
    identifier_L3 (y5, (IntKind.i64.wrap (x.2.1 - 7)), x.2.2.1, x.2.2.2.1, x.2.2.2.2.1, x.2.2.2.2.2.1, x.2.2.2.2.2.2)
  else
    (app' 1 x.1 [(IntKind.u8.wrap (bAnd .u32 x.2.2.2.1 127))]) >>= fun y6 =>
    some y6
partial_fixpoint
theorem identifier_L3_ok : ∀ (x : (List Int) × Int × Int × Int × Bool × (List Int) × (List S36)) (r : (List Int)), identifier_L3 x = some r → ∀ (W0 w0 : World) (S : Own), Std W0 w0 S 0 → HL Tryd.prog w0 S 58 (cL (cL (cL (cR (cR (cR (cR (cR (cR (cR (cB Tryd.f80))))))))))) (mkS [(0, tl 1 0 (encI .u8) x.1), (3, .pointer (some ⟨1, 0, none⟩)), (6, .int .i64 x.2.1)] [(1, .cells [.int .u8 x.2.2.1, .int .u32 x.2.2.2.1, .bool x.2.2.2.2.1, ls 1 false (encI .u8) x.2.2.2.2.2.1, ls 5 false enc36 x.2.2.2.2.2.2] 36 5)] 2 [0]) (Kblock 2 (Kseq Tryd.prog w0 S 58 (cR (cR (cR (cR (cR (cR (cR (cR (cB Tryd.f80))))))))) (KEnd Tryd.prog Tryd.f80 (FEnd w0 S (.returned (tl 1 0 (encI .u8) r)) (mkW 1 [0] []))))) := by
  refine identifier_L3.partial_correctness (fun (x : (List Int) × Int × Int × Int × Bool × (List Int) × (List S36)) (r : (List Int)) => ∀ (W0 w0 : World) (S : Own), Std W0 w0 S 0 → HL Tryd.prog w0 S 58 (cL (cL (cL (cR (cR (cR (cR (cR (cR (cR (cB Tryd.f80))))))))))) (mkS [(0, tl 1 0 (encI .u8) x.1), (3, .pointer (some ⟨1, 0, none⟩)), (6, .int .i64 x.2.1)] [(1, .cells [.int .u8 x.2.2.1, .int .u32 x.2.2.2.1, .bool x.2.2.2.2.1, ls 1 false (encI .u8) x.2.2.2.2.2.1, ls 5 false enc36 x.2.2.2.2.2.2] 36 5)] 2 [0]) (Kblock 2 (Kseq Tryd.prog w0 S 58 (cR (cR (cR (cR (cR (cR (cR (cR (cB Tryd.f80))))))))) (KEnd Tryd.prog Tryd.f80 (FEnd w0 S (.returned (tl 1 0 (encI .u8) r)) (mkW 1 [0] [])))))) ?_
  intro self ih_identifier_L3 x r h
  intro W0 w0 S hS
  haveI := hS.noEx Tryd.prog
  refine HL.round ?_
  refine H.seqP (by kernel_rfl) ?_
  refine H.sr 2 (by kernel_rfl) ?_
  refine H.condS (b := decide (0 < x.2.1)) (by kernel_rfl) (by kernel_rfl) (fun hb => ?_) (fun hb => ?_)
  rotate_left
  · rw [if_neg (of_decide_eq_false hb)] at h
    refine H.exitI 2 (by kernel_rfl) ?_
    refine Kseq_exit ?_
    refine Kloop_exit ?_
    refine Kblock_hit ?_
    refine Kseq_norm ?_
    refine H.sg (by kernel_rfl) ?_
    refine HO.goP 6 (by kernel_rfl) ?_
    obtain ⟨y6, hy, h⟩ := bindS h
    refine HO.effA (app1_aop (enc := (encI .u8)) (k := 1) false 1 [.int .u8 (IntKind.u8.wrap (bAnd .u32 x.2.2.2.1 127))] [] hy (by kernel_rfl) (by kernel_rfl) (by kernel_rfl)) ?_
    refine HO.fin 1 (by kernel_rfl) ?_
    refine H.retP (by kernel_rfl) ?_
    obtain rfl := Option.some.inj h
    exact KEnd.of (v := tl 1 3 (encI .u8) y6) (by kernel_rfl) (by kernel_rfl) (FEnd.ren hS [3] _ _ (by kernel_rfl))
  rw [if_pos (of_decide_eq_true hb)] at h
  refine H.skipP (by kernel_rfl) ?_
  refine Kseq_norm ?_
  refine H.seqP (by kernel_rfl) ?_
  refine H.blockI 3 (by kernel_rfl) ?_
  refine H.regP (by kernel_rfl) ?_
  refine HO.goP 4 (by kernel_rfl) ?_
  obtain ⟨y4, hy, h⟩ := bindS h
  refine HO.valA (shr_aop hy (by kernel_rfl)) ?_
  refine HO.goP 3 (by kernel_rfl) ?_
  obtain ⟨y5, hy, h⟩ := bindS h
  refine HO.effA (app1_aop (enc := (encI .u8)) (k := 1) false 1 [.int .u8 (bOr .u8 (IntKind.u8.wrap y4) 128)] [] hy (by kernel_rfl) (by kernel_rfl) (by kernel_rfl)) ?_
  refine HO.goP 1 (by kernel_rfl) ?_
  refine HO.done (by kernel_rfl) ?_
  refine Kblock_norm ?_
  refine Kseq_norm ?_
  refine H.regP (by kernel_rfl) ?_
  refine HO.goP 3 (by kernel_rfl) ?_
  refine HO.done (by kernel_rfl) ?_
  refine Kloop_norm ?_
  exact HL.ren hS [3, 1] _ _ _ (by kernel_rfl) (ih_identifier_L3 (y5, (IntKind.i64.wrap (x.2.1 - 7)), x.2.2.1, x.2.2.2.1, x.2.2.2.2.1, x.2.2.2.2.2.1, x.2.2.2.2.2.2) r h W0 w0 S hS)
def identifier_L2 (x : (List Int) × Int × Int × Int × Bool × (List Int) × (List S36)) : Option ((List Int)) :=
  (shr' .u32 x.2.2.2.1 (IntKind.i64.wrap (x.2.1 + 7))) >>= fun y3 =>
  if 0 < y3 then
    identifier_L2 (x.1, (IntKind.i64.wrap (x.2.1 + 7)), x.2.2.1, x.2.2.2.1, x.2.2.2.2.1, x.2.2.2.2.2.1, x.2.2.2.2.2.2)
  else
    identifier_L3 (x.1, x.2.1, x.2.2.1, x.2.2.2.1, x.2.2.2.2.1, x.2.2.2.2.2.1, x.2.2.2.2.2.2)
partial_fixpoint
theorem identifier_L2_ok : ∀ (x : (List Int) × Int × Int × Int × Bool × (List Int) × (List S36)) (r : (List Int)), identifier_L2 x = some r → ∀ (W0 w0 : World) (S : Own), Std W0 w0 S 0 → HL Tryd.prog w0 S 58 (cL (cL (cL (cR (cR (cR (cR (cR (cR (cB Tryd.f80)))))))))) (mkS [(0, tl 1 0 (encI .u8) x.1), (3, .pointer (some ⟨1, 0, none⟩)), (6, .int .i64 x.2.1)] [(1, .cells [.int .u8 x.2.2.1, .int .u32 x.2.2.2.1, .bool x.2.2.2.2.1, ls 1 false (encI .u8) x.2.2.2.2.2.1, ls 5 false enc36 x.2.2.2.2.2.2] 36 5)] 2 [0]) (Kblock 0 (Kseq Tryd.prog w0 S 58 (cR (cR (cR (cR (cR (cR (cR (cB Tryd.f80)))))))) (KEnd Tryd.prog Tryd.f80 (FEnd w0 S (.returned (tl 1 0 (encI .u8) r)) (mkW 1 [0] []))))) := by
  refine identifier_L2.partial_correctness (fun (x : (List Int) × Int × Int × Int × Bool × (List Int) × (List S36)) (r : (List Int)) => ∀ (W0 w0 : World) (S : Own), Std W0 w0 S 0 → HL Tryd.prog w0 S 58 (cL (cL (cL (cR (cR (cR (cR (cR (cR (cB Tryd.f80)))))))))) (mkS [(0, tl 1 0 (encI .u8) x.1), (3, .pointer (some ⟨1, 0, none⟩)), (6, .int .i64 x.2.1)] [(1, .cells [.int .u8 x.2.2.1, .int .u32 x.2.2.2.1, .bool x.2.2.2.2.1, ls 1 false (encI .u8) x.2.2.2.2.2.1, ls 5 false enc36 x.2.2.2.2.2.2] 36 5)] 2 [0]) (Kblock 0 (Kseq Tryd.prog w0 S 58 (cR (cR (cR (cR (cR (cR (cR (cB Tryd.f80)))))))) (KEnd Tryd.prog Tryd.f80 (FEnd w0 S (.returned (tl 1 0 (encI .u8) r)) (mkW 1 [0] [])))))) ?_
  intro self ih_identifier_L2 x r h
  intro W0 w0 S hS
  haveI := hS.noEx Tryd.prog
  refine HL.round ?_
  refine H.seqP (by kernel_rfl) ?_
  refine H.sg (by kernel_rfl) ?_
  refine HO.goP 4 (by kernel_rfl) ?_
  obtain ⟨y3, hy, h⟩ := bindS h
  refine HO.valA (shr_aop hy (by kernel_rfl)) ?_
  refine HO.fin 1 (by kernel_rfl) ?_
  refine H.condS (b := decide (0 < y3)) (by kernel_rfl) (by kernel_rfl) (fun hb => ?_) (fun hb => ?_)
  · rw [if_pos (of_decide_eq_true hb)] at h
    refine H.skipP (by kernel_rfl) ?_
    refine Kseq_norm ?_
    refine H.blockI 1 (by kernel_rfl) ?_
    refine H.regP (by kernel_rfl) ?_
    refine HO.goP 3 (by kernel_rfl) ?_
    refine HO.done (by kernel_rfl) ?_
    refine Kblock_norm ?_
    refine Kloop_norm ?_
    exact HL.ren hS [0, 1] _ _ _ (by kernel_rfl) (ih_identifier_L2 (x.1, (IntKind.i64.wrap (x.2.1 + 7)), x.2.2.1, x.2.2.2.1, x.2.2.2.2.1, x.2.2.2.2.2.1, x.2.2.2.2.2.2) r h W0 w0 S hS)
  rw [if_neg (of_decide_eq_false hb)] at h
  refine H.exitI 0 (by kernel_rfl) ?_
  refine Kseq_exit ?_
  refine Kloop_exit ?_
  refine Kblock_hit ?_
  refine Kseq_norm ?_
  refine H.seqP (by kernel_rfl) ?_
  refine H.blockI 2 (by kernel_rfl) ?_
  refine H.loopP (by kernel_rfl) ?_
  exact HL.ren hS [0, 1] _ _ _ (by kernel_rfl) (identifier_L3_ok (x.1, x.2.1, x.2.2.1, x.2.2.2.1, x.2.2.2.2.1, x.2.2.2.2.2.1, x.2.2.2.2.2.2) r h W0 w0 S hS)
def identifier_L1 (x : Int × Int × Int × Bool × (List Int) × (List S36)) : Option ((List Int)) :=
  if x.2.2.1 < 31 then
    (app' 1 [] [(bOr .u8 x.1 (IntKind.u8.wrap x.2.2.1))]) >>= fun y1 =>
    some y1
  else
    (app' 1 [] [(bOr .u8 x.1 31)]) >>= fun y2 =>
    identifier_L2 (y2, 0, x.2.1, x.2.2.1, x.2.2.2.1, x.2.2.2.2.1, x.2.2.2.2.2)
theorem identifier_L1_ok : ∀ (x : Int × Int × Int × Bool × (List Int) × (List S36)) (r : (List Int)), identifier_L1 x = some r → ∀ (W0 w0 : World) (S : Own), Std W0 w0 S 0 → H Tryd.prog w0 S 58 (cR (cR (cR (cB Tryd.f80)))) (mkS [(0, .slice none 0 0), (3, .pointer (some ⟨0, 0, none⟩)), (5, .int .u8 x.1)] [(0, .cells [.int .u8 x.2.1, .int .u32 x.2.2.1, .bool x.2.2.2.1, ls 1 false (encI .u8) x.2.2.2.2.1, ls 5 false enc36 x.2.2.2.2.2] 36 5)] 1 []) (KEnd Tryd.prog Tryd.f80 (FEnd w0 S (.returned (tl 1 0 (encI .u8) r)) (mkW 1 [0] []))) := by
  intro x r h
  unfold identifier_L1 at h
  intro W0 w0 S hS
  haveI := hS.noEx Tryd.prog
  refine H.seqP (by kernel_rfl) ?_
  refine H.sr 3 (by kernel_rfl) ?_
  refine H.condS (b := decide (x.2.2.1 < 31)) (by kernel_rfl) (by kernel_rfl) (fun hb => ?_) (fun hb => ?_)
  · rw [if_pos (of_decide_eq_true hb)] at h
    refine H.sg (by kernel_rfl) ?_
    refine HO.goP 7 (by kernel_rfl) ?_
    refine HO.tok 17 1 (es := #[]) (by kernel_rfl) ?_
    obtain ⟨y1, hy, h⟩ := bindS h
    refine HO.effA (app1_aop (enc := (encI .u8)) (k := 1) false 1 [.int .u8 (bOr .u8 x.1 (IntKind.u8.wrap x.2.2.1))] [] hy (by kernel_rfl) (by kernel_rfl) (by kernel_rfl)) ?_
    refine HO.fin 1 (by kernel_rfl) ?_
    refine H.retP (by kernel_rfl) ?_
    refine Kseq_ret ?_
    obtain rfl := Option.some.inj h
    exact KEnd.of (v := tl 1 3 (encI .u8) y1) (by kernel_rfl) (by kernel_rfl) (FEnd.ren hS [3] _ _ (by kernel_rfl))
  rw [if_neg (of_decide_eq_false hb)] at h
  refine H.skipP (by kernel_rfl) ?_
  refine Kseq_norm ?_
  refine H.sg (by kernel_rfl) ?_
  refine HO.goP 4 (by kernel_rfl) ?_
  refine HO.tok 25 1 (es := #[]) (by kernel_rfl) ?_
  obtain ⟨y2, hy, h⟩ := bindS h
  refine HO.effA (app1_aop (enc := (encI .u8)) (k := 1) false 1 [.int .u8 (bOr .u8 x.1 31)] [] hy (by kernel_rfl) (by kernel_rfl) (by kernel_rfl)) ?_
  refine HO.fin 1 (by kernel_rfl) ?_
  refine H.sr 1 (by kernel_rfl) ?_
  refine H.seqP (by kernel_rfl) ?_
  refine H.blockI 0 (by kernel_rfl) ?_
  refine H.loopP (by kernel_rfl) ?_
  exact HL.ren hS [3, 0] _ _ _ (by kernel_rfl) (identifier_L2_ok (y2, 0, x.2.1, x.2.2.1, x.2.2.2.1, x.2.2.2.2.1, x.2.2.2.2.2) r h W0 w0 S hS)
def identifier (x : Int × Int × Bool × (List Int) × (List S36)) : Option ((List Int)) :=
  if x.2.2.1 = true then
    identifier_L1 ((bOr .u8 (shlI .u8 x.1 6) 32), x.1, x.2.1, x.2.2.1, x.2.2.2.1, x.2.2.2.2)
  else
    identifier_L1 ((shlI .u8 x.1 6), x.1, x.2.1, x.2.2.1, x.2.2.2.1, x.2.2.2.2)
theorem identifier_ok : ∀ (x : Int × Int × Bool × (List Int) × (List S36)) (r : (List Int)), identifier x = some r → ∀ W0 : World, FTo Tryd.prog W0 80 #[.slice none 0 0, .agg #[.int .u8 x.1, .int .u32 x.2.1, .bool x.2.2.1, ls 1 false (encI .u8) x.2.2.2.1, ls 5 false enc36 x.2.2.2.2]] (mkW 0 [] []) (.returned (tl 1 0 (encI .u8) r)) (mkW 1 [0] []) := by
  intro x r h
  unfold identifier at h
  intro W0
  refine FTo.of_body (fn := Tryd.f80) (code := cB Tryd.f80) Tryd.func80 rfl rfl ?_
  intro w0 S hS
  haveI := hS.noEx Tryd.prog
  refine H.sr 2 (by kernel_rfl) ?_
  refine H.sr 4 (by kernel_rfl) ?_
  refine H.seqP (by kernel_rfl) ?_
  refine H.sr 2 (by kernel_rfl) ?_
  refine H.condS (b := x.2.2.1) (by kernel_rfl) (by kernel_rfl) (fun hb => ?_) (fun hb => ?_)
  rotate_left
  · rw [if_neg (ne_true hb)] at h
    refine H.skipP (by kernel_rfl) ?_
    refine Kseq_norm ?_
    exact H.ren hS [0] _ _ _ (by kernel_rfl) (identifier_L1_ok ((shlI .u8 x.1 6), x.1, x.2.1, x.2.2.1, x.2.2.2.1, x.2.2.2.2) r h W0 w0 S hS)
  rw [if_pos hb] at h
  refine H.regP (by kernel_rfl) ?_
  refine HO.fin 3 (by kernel_rfl) ?_
  exact H.ren hS [0] _ _ _ (by kernel_rfl) (identifier_L1_ok ((bOr .u8 (shlI .u8 x.1 6) 32), x.1, x.2.1, x.2.2.1, x.2.2.2.1, x.2.2.2.2) r h W0 w0 S hS)
def size_L3 (x : (List Int) × Int × Int) : Option ((List Int)) :=
  if 0 ≤ x.2.2 then
    (shr' .i64 x.2.1 (IntKind.i64.wrap (8 * x.2.2))) >>= fun y4 =>
    (app' 1 x.1 [(IntKind.u8.wrap y4)]) >>= fun y5 =>
    size_L3 (y5, x.2.1, (IntKind.i64.wrap (x.2.2 - 1)))
  else
    some x.1
partial_fixpoint
theorem size_L3_ok : ∀ (x : (List Int) × Int × Int) (r : (List Int)), size_L3 x = some r → ∀ (W0 w0 : World) (S : Own), Std W0 w0 S 1 → HL Tryd.prog w0 S 47 (cL (cL (cR (cL (cR (cR (cR (cR (cR (cB Tryd.f79)))))))))) (mkS [(0, tl 1 1 (encI .u8) x.1), (1, .int .i64 x.2.1), (7, .int .i64 x.2.2)] [] 2 [1]) (Kblock 3 (Kseq Tryd.prog w0 S 47 (cR (cR (cR (cR (cR (cR (cB Tryd.f79))))))) (KEnd Tryd.prog Tryd.f79 (FEnd w0 S (.returned (tl 1 1 (encI .u8) r)) (mkW 2 [1] []))))) := by
  refine size_L3.partial_correctness (fun (x : (List Int) × Int × Int) (r : (List Int)) => ∀ (W0 w0 : World) (S : Own), Std W0 w0 S 1 → HL Tryd.prog w0 S 47 (cL (cL (cR (cL (cR (cR (cR (cR (cR (cB Tryd.f79)))))))))) (mkS [(0, tl 1 1 (encI .u8) x.1), (1, .int .i64 x.2.1), (7, .int .i64 x.2.2)] [] 2 [1]) (Kblock 3 (Kseq Tryd.prog w0 S 47 (cR (cR (cR (cR (cR (cR (cB Tryd.f79))))))) (KEnd Tryd.prog Tryd.f79 (FEnd w0 S (.returned (tl 1 1 (encI .u8) r)) (mkW 2 [1] [])))))) ?_
  intro self ih_size_L3 x r h
  intro W0 w0 S hS
  haveI := hS.noEx Tryd.prog
  refine HL.round ?_
  refine H.seqP (by kernel_rfl) ?_
  refine H.sr 2 (by kernel_rfl) ?_
  refine H.condS (b := decide (0 ≤ x.2.2)) (by kernel_rfl) (by kernel_rfl) (fun hb => ?_) (fun hb => ?_)
  rotate_left
  · rw [if_neg (of_decide_eq_false hb)] at h
    refine H.exitI 3 (by kernel_rfl) ?_
    refine Kseq_exit ?_
    refine Kloop_exit ?_
    refine Kblock_hit ?_
    refine Kseq_norm ?_
    refine H.sr 2 (by kernel_rfl) ?_
    refine H.retP (by kernel_rfl) ?_
    obtain rfl := Option.some.inj h
    exact KEnd.of (v := tl 1 1 (encI .u8) x.1) (by kernel_rfl) (by kernel_rfl) (FEnd.ren hS [0, 1] _ _ (by kernel_rfl))
  rw [if_pos (of_decide_eq_true hb)] at h
  refine H.skipP (by kernel_rfl) ?_
  refine Kseq_norm ?_
  refine H.seqP (by kernel_rfl) ?_
  refine H.blockI 4 (by kernel_rfl) ?_
  refine H.regP (by kernel_rfl) ?_
  refine HO.goP 4 (by kernel_rfl) ?_
  obtain ⟨y4, hy, h⟩ := bindS h
  refine HO.valA (shr_aop hy (by kernel_rfl)) ?_
  refine HO.goP 2 (by kernel_rfl) ?_
  obtain ⟨y5, hy, h⟩ := bindS h
  refine HO.effA (app1_aop (enc := (encI .u8)) (k := 1) false 1 [.int .u8 (IntKind.u8.wrap y4)] [] hy (by kernel_rfl) (by kernel_rfl) (by kernel_rfl)) ?_
  refine HO.goP 1 (by kernel_rfl) ?_
  refine HO.done (by kernel_rfl) ?_
  refine Kblock_norm ?_
  refine Kseq_norm ?_
  refine H.regP (by kernel_rfl) ?_
  refine HO.goP 3 (by kernel_rfl) ?_
  refine HO.done (by kernel_rfl) ?_
  refine Kloop_norm ?_
  exact HL.ren hS [0, 3] _ _ _ (by kernel_rfl) (ih_size_L3 (y5, x.2.1, (IntKind.i64.wrap (x.2.2 - 1))) r h W0 w0 S hS)
def size_L2 (x : (List Int) × Int × Int) : Option ((List Int)) :=
  (app' 1 x.1 [(IntKind.u8.wrap (128 + (IntKind.u8.wrap x.2.2)))]) >>= fun y3 =>
  size_L3 (y3, x.2.1, (IntKind.i64.wrap (x.2.2 - 1)))
theorem size_L2_ok : ∀ (x : (List Int) × Int × Int) (r : (List Int)), size_L2 x = some r → ∀ (W0 w0 : World) (S : Own), Std W0 w0 S 1 → H Tryd.prog w0 S 47 (cR (cR (cR (cR (cB Tryd.f79))))) (mkS [(0, tl 1 0 (encI .u8) x.1), (1, .int .i64 x.2.1), (7, .int .i64 x.2.2)] [] 1 [0]) (KEnd Tryd.prog Tryd.f79 (FEnd w0 S (.returned (tl 1 1 (encI .u8) r)) (mkW 2 [1] []))) := by
  intro x r h
  unfold size_L2 at h
  intro W0 w0 S hS
  haveI := hS.noEx Tryd.prog
  refine H.sg (by kernel_rfl) ?_
  refine HO.goP 5 (by kernel_rfl) ?_
  obtain ⟨y3, hy, h⟩ := bindS h
  refine HO.effA (app1_aop (enc := (encI .u8)) (k := 1) false 1 [.int .u8 (IntKind.u8.wrap (128 + (IntKind.u8.wrap x.2.2)))] [] hy (by kernel_rfl) (by kernel_rfl) (by kernel_rfl)) ?_
  refine HO.fin 1 (by kernel_rfl) ?_
  refine H.seqP (by kernel_rfl) ?_
  refine H.sr 3 (by kernel_rfl) ?_
  refine H.blockI 3 (by kernel_rfl) ?_
  refine H.loopP (by kernel_rfl) ?_
  exact HL.ren hS [0, 2] _ _ _ (by kernel_rfl) (size_L3_ok (y3, x.2.1, (IntKind.i64.wrap (x.2.2 - 1))) r h W0 w0 S hS)
def size_L1 (x : (List Int) × Int × Int × Int) : Option ((List Int)) :=
  (shr' .i64 x.2.1 (IntKind.i64.wrap (8 * x.2.2.2))) >>= fun y1 =>
  if 0 < y1 then
    size_L1 (x.1, x.2.1, x.2.2.1, (IntKind.i64.wrap (x.2.2.2 + 1)))
  else
    if x.2.2.1 = 2 then
      size_L2 (x.1, x.2.1, 4)
    else
      if x.2.1 < 128 then
        (app' 1 x.1 [(IntKind.u8.wrap x.2.1)]) >>= fun y2 =>
        some y2
      else
        size_L2 (x.1, x.2.1, x.2.2.2)
partial_fixpoint
theorem size_L1_ok : ∀ (x : (List Int) × Int × Int × Int) (r : (List Int)), size_L1 x = some r → ∀ (W0 w0 : World) (S : Own), Std W0 w0 S 1 → HL Tryd.prog w0 S 47 (cL (cL (cL (cR (cR (cB Tryd.f79)))))) (mkS [(0, tl 1 0 (encI .u8) x.1), (1, .int .i64 x.2.1), (2, .int .u8 x.2.2.1), (7, .int .i64 x.2.2.2)] [] 1 [0]) (Kblock 0 (Kseq Tryd.prog w0 S 47 (cR (cR (cR (cB Tryd.f79)))) (KEnd Tryd.prog Tryd.f79 (FEnd w0 S (.returned (tl 1 1 (encI .u8) r)) (mkW 2 [1] []))))) := by
  refine size_L1.partial_correctness (fun (x : (List Int) × Int × Int × Int) (r : (List Int)) => ∀ (W0 w0 : World) (S : Own), Std W0 w0 S 1 → HL Tryd.prog w0 S 47 (cL (cL (cL (cR (cR (cB Tryd.f79)))))) (mkS [(0, tl 1 0 (encI .u8) x.1), (1, .int .i64 x.2.1), (2, .int .u8 x.2.2.1), (7, .int .i64 x.2.2.2)] [] 1 [0]) (Kblock 0 (Kseq Tryd.prog w0 S 47 (cR (cR (cR (cB Tryd.f79)))) (KEnd Tryd.prog Tryd.f79 (FEnd w0 S (.returned (tl 1 1 (encI .u8) r)) (mkW 2 [1] [])))))) ?_
  intro self ih_size_L1 x r h
  intro W0 w0 S hS
  haveI := hS.noEx Tryd.prog
  refine HL.round ?_
  refine H.seqP (by kernel_rfl) ?_
  refine H.sg (by kernel_rfl) ?_
  refine HO.goP 3 (by kernel_rfl) ?_
  obtain ⟨y1, hy, h⟩ := bindS h
  refine HO.valA (shr_aop hy (by kernel_rfl)) ?_
  refine HO.fin 1 (by kernel_rfl) ?_
  refine H.condS (b := decide (0 < y1)) (by kernel_rfl) (by kernel_rfl) (fun hb => ?_) (fun hb => ?_)
  · rw [if_pos (of_decide_eq_true hb)] at h
    refine H.skipP (by kernel_rfl) ?_
    refine Kseq_norm ?_
    refine H.blockI 1 (by kernel_rfl) ?_
    refine H.regP (by kernel_rfl) ?_
    refine HO.goP 3 (by kernel_rfl) ?_
    refine HO.done (by kernel_rfl) ?_
    refine Kblock_norm ?_
    refine Kloop_norm ?_
    exact HL.ren hS [0] _ _ _ (by kernel_rfl) (ih_size_L1 (x.1, x.2.1, x.2.2.1, (IntKind.i64.wrap (x.2.2.2 + 1))) r h W0 w0 S hS)
  rw [if_neg (of_decide_eq_false hb)] at h
  refine H.exitI 0 (by kernel_rfl) ?_
  refine Kseq_exit ?_
  refine Kloop_exit ?_
  refine Kblock_hit ?_
  refine Kseq_norm ?_
  refine H.seqP (by kernel_rfl) ?_
  refine H.blockI 2 (by kernel_rfl) ?_
  refine H.sr 3 (by kernel_rfl) ?_
  refine H.condS (b := decide (x.2.2.1 = 2)) (by kernel_rfl) (by kernel_rfl) (fun hb => ?_) (fun hb => ?_)
  · rw [if_pos (of_decide_eq_true hb)] at h
    refine H.regP (by kernel_rfl) ?_
    refine HO.goP 1 (by kernel_rfl) ?_
    refine HO.done (by kernel_rfl) ?_
    refine Kblock_norm ?_
    refine Kseq_norm ?_
    exact H.ren hS [0] _ _ _ (by kernel_rfl) (size_L2_ok (x.1, x.2.1, 4) r h W0 w0 S hS)
  rw [if_neg (of_decide_eq_false hb)] at h
  refine H.sr 3 (by kernel_rfl) ?_
  refine H.condS (b := decide (x.2.1 < 128)) (by kernel_rfl) (by kernel_rfl) (fun hb => ?_) (fun hb => ?_)
  rotate_left
  · rw [if_neg (of_decide_eq_false hb)] at h
    refine H.skipP (by kernel_rfl) ?_
    refine Kblock_norm ?_
    refine Kseq_norm ?_
    exact H.ren hS [0] _ _ _ (by kernel_rfl) (size_L2_ok (x.1, x.2.1, x.2.2.2) r h W0 w0 S hS)
  rw [if_pos (of_decide_eq_true hb)] at h
  refine H.sg (by kernel_rfl) ?_
  refine HO.goP 4 (by kernel_rfl) ?_
  obtain ⟨y2, hy, h⟩ := bindS h
  refine HO.effA (app1_aop (enc := (encI .u8)) (k := 1) false 1 [.int .u8 (IntKind.u8.wrap x.2.1)] [] hy (by kernel_rfl) (by kernel_rfl) (by kernel_rfl)) ?_
  refine HO.fin 1 (by kernel_rfl) ?_
  refine H.retP (by kernel_rfl) ?_
  refine Kblock_ret ?_
  refine Kseq_ret ?_
  obtain rfl := Option.some.inj h
  exact KEnd.of (v := tl 1 2 (encI .u8) y2) (by kernel_rfl) (by kernel_rfl) (FEnd.ren hS [0, 2] _ _ (by kernel_rfl))
def size (x : (List Int) × Int × Int) : Option ((List Int)) :=
  size_L1 (x.1, x.2.1, x.2.2, 0)
theorem size_ok : ∀ (x : (List Int) × Int × Int) (r : (List Int)), size x = some r → ∀ W0 : World, FTo Tryd.prog W0 79 #[tl 1 0 (encI .u8) x.1, .int .i64 x.2.1, .int .u8 x.2.2] (mkW 1 [0] []) (.returned (tl 1 1 (encI .u8) r)) (mkW 2 [1] []) := by
  intro x r h
  unfold size at h
  intro W0
  refine FTo.of_body (fn := Tryd.f79) (code := cB Tryd.f79) Tryd.func79 rfl rfl ?_
  intro w0 S hS
  haveI := hS.noEx Tryd.prog
  refine H.sr 1 (by kernel_rfl) ?_
  refine H.sr 1 (by kernel_rfl) ?_
  refine H.seqP (by kernel_rfl) ?_
  refine H.blockI 0 (by kernel_rfl) ?_
  refine H.loopP (by kernel_rfl) ?_
  exact HL.ren hS [0] _ _ _ (by kernel_rfl) (size_L1_ok (x.1, x.2.1, x.2.2, 0) r h W0 w0 S hS)
mutual
def long_L1 (x : Int × (List S36) × Int × Int × Int × Int × Bool × (List Int)) : Option (Int) :=
  if x.2.2.2.1 < x.2.2.1 then
    (at' x.2.1 x.2.2.2.1) >>= fun y1 =>
    (long (y1.c0, y1.c1, y1.c2, y1.c3, y1.c4)) >>= fun y2 =>
    long_L1 ((IntKind.i64.wrap (x.1 + y2)), x.2.1, x.2.2.1, (IntKind.i64.wrap (x.2.2.2.1 + 1)), x.2.2.2.2.1, x.2.2.2.2.2.1, x.2.2.2.2.2.2.1, x.2.2.2.2.2.2.2)
  else
    (identifier (x.2.2.2.2.1, x.2.2.2.2.2.1, x.2.2.2.2.2.2.1, x.2.2.2.2.2.2.2, x.2.1)) >>= fun y3 =>
    (size (y3, x.1, 0)) >>= fun y4 =>
    some (IntKind.i64.wrap (x.1 + (y4.length : Int)))
partial_fixpoint
def long (x : Int × Int × Bool × (List Int) × (List S36)) : Option (Int) :=
  long_L1 ((x.2.2.2.1.length : Int), x.2.2.2.2, (x.2.2.2.2.length : Int), 0, x.1, x.2.1, x.2.2.1, x.2.2.2.1)
partial_fixpoint
end
theorem long_L1_grp : (∀ (x : Int × (List S36) × Int × Int × Int × Int × Bool × (List Int)) (r : Int), long_L1 x = some r → ∀ (W0 w0 : World) (S : Own), Std W0 w0 S 0 → HL Tryd.prog w0 S 28 (cL (cL (cR (cL (cR (cR (cB Tryd.f55))))))) (mkS [(1, .pointer (some ⟨0, 0, none⟩)), (3, .int .i64 x.1), (10, ls 5 false enc36 x.2.1), (11, .int .i64 x.2.2.1), (12, .int .i64 x.2.2.2.1)] [(0, .cells [.int .u8 x.2.2.2.2.1, .int .u32 x.2.2.2.2.2.1, .bool x.2.2.2.2.2.2.1, ls 1 false (encI .u8) x.2.2.2.2.2.2.2, ls 5 false enc36 x.2.1] 36 5)] 1 []) (Kblock 0 (Kseq Tryd.prog w0 S 28 (cR (cR (cR (cB Tryd.f55)))) (KEnd Tryd.prog Tryd.f55 (PEnd w0 S (.returned (.int .i64 r))))))) ∧
  (∀ (x : Int × Int × Bool × (List Int) × (List S36)) (r : Int), long x = some r → ∀ W0 : World, PTo Tryd.prog W0 55 #[.agg #[.int .u8 x.1, .int .u32 x.2.1, .bool x.2.2.1, ls 1 false (encI .u8) x.2.2.2.1, ls 5 false enc36 x.2.2.2.2]] (.returned (.int .i64 r))) := by
  refine long_L1.mutual_partial_correctness (fun (x : Int × (List S36) × Int × Int × Int × Int × Bool × (List Int)) (r : Int) => ∀ (W0 w0 : World) (S : Own), Std W0 w0 S 0 → HL Tryd.prog w0 S 28 (cL (cL (cR (cL (cR (cR (cB Tryd.f55))))))) (mkS [(1, .pointer (some ⟨0, 0, none⟩)), (3, .int .i64 x.1), (10, ls 5 false enc36 x.2.1), (11, .int .i64 x.2.2.1), (12, .int .i64 x.2.2.2.1)] [(0, .cells [.int .u8 x.2.2.2.2.1, .int .u32 x.2.2.2.2.2.1, .bool x.2.2.2.2.2.2.1, ls 1 false (encI .u8) x.2.2.2.2.2.2.2, ls 5 false enc36 x.2.1] 36 5)] 1 []) (Kblock 0 (Kseq Tryd.prog w0 S 28 (cR (cR (cR (cB Tryd.f55)))) (KEnd Tryd.prog Tryd.f55 (PEnd w0 S (.returned (.int .i64 r))))))) (fun (x : Int × Int × Bool × (List Int) × (List S36)) (r : Int) => ∀ W0 : World, PTo Tryd.prog W0 55 #[.agg #[.int .u8 x.1, .int .u32 x.2.1, .bool x.2.2.1, ls 1 false (encI .u8) x.2.2.2.1, ls 5 false enc36 x.2.2.2.2]] (.returned (.int .i64 r))) ?_ ?_
  · intro g_long_L1 g_long ih_long_L1 ih_long x r h
    intro W0 w0 S hS
    haveI := hS.noEx Tryd.prog
    refine HL.round ?_
    refine H.sr 1 (by kernel_rfl) ?_
    refine H.seqP (by kernel_rfl) ?_
    refine H.condS (b := decide (x.2.2.2.1 < x.2.2.1)) (by kernel_rfl) (by kernel_rfl) (fun hb => ?_) (fun hb => ?_)
    rotate_left
    · rw [if_neg (of_decide_eq_false hb)] at h
      refine H.exitI 0 (by kernel_rfl) ?_
      refine Kseq_exit ?_
      refine Kloop_exit ?_
      refine Kblock_hit ?_
      refine Kseq_norm ?_
      refine H.sg (by kernel_rfl) ?_
      refine HO.goP 2 (by kernel_rfl) ?_
      obtain ⟨y3, hy, h⟩ := bindS h
      refine HO.callFW hS (tl 1 1 (encI .u8) y3) 2 [1] [(0, .cells [.int .u8 x.2.2.2.2.1, .int .u32 x.2.2.2.2.2.1, .bool x.2.2.2.2.2.2.1, ls 1 false (encI .u8) x.2.2.2.2.2.2.2, ls 5 false enc36 x.2.1] 36 5)] [] [.keep, .agg [.keep, .keep, .keep, .list 1 false, .list 5 false]] (identifier_ok (x.2.2.2.2.1, x.2.2.2.2.2.1, x.2.2.2.2.2.2.1, x.2.2.2.2.2.2.2, x.2.1) y3 hy W0) (by kernel_rfl) (by kernel_rfl) ?_
      refine HO.goP 1 (by kernel_rfl) ?_
      obtain ⟨y4, hy, h⟩ := bindS h
      refine HO.callFW hS (tl 1 2 (encI .u8) y4) 3 [2] [(0, .cells [.int .u8 x.2.2.2.2.1, .int .u32 x.2.2.2.2.2.1, .bool x.2.2.2.2.2.2.1, ls 1 false (encI .u8) x.2.2.2.2.2.2.2, ls 5 false enc36 x.2.1] 36 5)] [1] [.keep, .keep, .keep] (size_ok (y3, x.1, 0) y4 hy W0) (by kernel_rfl) (by kernel_rfl) ?_
      refine HO.len (by kernel_rfl) (by kernel_rfl) (ls_size (encI .u8) y4) ?_
      refine HO.fin 2 (by kernel_rfl) ?_
      refine H.retP (by kernel_rfl) ?_
      obtain rfl := Option.some.inj h
      exact KEnd.ret (by kernel_rfl) (by kernel_rfl) (by kernel_rfl)
    rw [if_pos (of_decide_eq_true hb)] at h
    refine H.skipP (by kernel_rfl) ?_
    refine Kseq_norm ?_
    refine H.seqP (by kernel_rfl) ?_
    refine H.blockI 1 (by kernel_rfl) ?_
    refine H.sg (by kernel_rfl) ?_
    obtain ⟨y1, hy, h⟩ := bindS h
    refine HO.idx (.agg #[.int .u8 y1.c0, .int .u32 y1.c1, .bool y1.c2, ls 1 false (encI .u8) y1.c3, ls 5 false enc36 y1.c4]) hy (enc36_eq y1) (by kernel_rfl) ?_
    refine HO.fin 3 (by kernel_rfl) ?_
    refine H.regP (by kernel_rfl) ?_
    refine HO.goP 2 (by kernel_rfl) ?_
    obtain ⟨y2, hy, h⟩ := bindS h
    refine HO.callW hS [.agg [.keep, .keep, .keep, .list 1 false, .list 5 false]] (ih_long (y1.c0, y1.c1, y1.c2, y1.c3, y1.c4) y2 hy W0) (by kernel_rfl) (by kernel_rfl) ?_
    refine HO.goP 2 (by kernel_rfl) ?_
    refine HO.done (by kernel_rfl) ?_
    refine Kblock_norm ?_
    refine Kseq_norm ?_
    refine H.regP (by kernel_rfl) ?_
    refine HO.goP 2 (by kernel_rfl) ?_
    refine HO.done (by kernel_rfl) ?_
    refine Kloop_norm ?_
    exact HL.ren hS [0] _ _ _ (by kernel_rfl) (ih_long_L1 ((IntKind.i64.wrap (x.1 + y2)), x.2.1, x.2.2.1, (IntKind.i64.wrap (x.2.2.2.1 + 1)), x.2.2.2.2.1, x.2.2.2.2.2.1, x.2.2.2.2.2.2.1, x.2.2.2.2.2.2.2) r h W0 w0 S hS)
  · intro g_long_L1 ih_long_L1 x r h
    intro W0
    refine PTo.of_body (fn := Tryd.f55) (code := cB Tryd.f55) Tryd.func55 rfl rfl ?_
    intro w0 S hS
    haveI := hS.noEx Tryd.prog
    refine H.sr 2 (by kernel_rfl) ?_
    refine H.sg (by kernel_rfl) ?_
    refine HO.goP 2 (by kernel_rfl) ?_
    refine HO.len (by kernel_rfl) (by kernel_rfl) (ls_size (encI .u8) x.2.2.2.1) ?_
    refine HO.fin 1 (by kernel_rfl) ?_
    refine H.seqP (by kernel_rfl) ?_
    refine H.sg (by kernel_rfl) ?_
    refine HO.goP 2 (by kernel_rfl) ?_
    refine HO.len (by kernel_rfl) (by kernel_rfl) (ls_size enc36 x.2.2.2.2) ?_
    refine HO.fin 1 (by kernel_rfl) ?_
    refine H.blockI 0 (by kernel_rfl) ?_
    refine H.loopP (by kernel_rfl) ?_
    exact HL.ren hS [0] _ _ _ (by kernel_rfl) (ih_long_L1 ((x.2.2.2.1.length : Int), x.2.2.2.2, (x.2.2.2.2.length : Int), 0, x.1, x.2.1, x.2.2.1, x.2.2.2.1) r h W0 w0 S hS)
theorem long_L1_ok : ∀ (x : Int × (List S36) × Int × Int × Int × Int × Bool × (List Int)) (r : Int), long_L1 x = some r → ∀ (W0 w0 : World) (S : Own), Std W0 w0 S 0 → HL Tryd.prog w0 S 28 (cL (cL (cR (cL (cR (cR (cB Tryd.f55))))))) (mkS [(1, .pointer (some ⟨0, 0, none⟩)), (3, .int .i64 x.1), (10, ls 5 false enc36 x.2.1), (11, .int .i64 x.2.2.1), (12, .int .i64 x.2.2.2.1)] [(0, .cells [.int .u8 x.2.2.2.2.1, .int .u32 x.2.2.2.2.2.1, .bool x.2.2.2.2.2.2.1, ls 1 false (encI .u8) x.2.2.2.2.2.2.2, ls 5 false enc36 x.2.1] 36 5)] 1 []) (Kblock 0 (Kseq Tryd.prog w0 S 28 (cR (cR (cR (cB Tryd.f55)))) (KEnd Tryd.prog Tryd.f55 (PEnd w0 S (.returned (.int .i64 r)))))) := long_L1_grp.1
theorem long_ok : ∀ (x : Int × Int × Bool × (List Int) × (List S36)) (r : Int), long x = some r → ∀ W0 : World, PTo Tryd.prog W0 55 #[.agg #[.int .u8 x.1, .int .u32 x.2.1, .bool x.2.2.1, ls 1 false (encI .u8) x.2.2.2.1, ls 5 false enc36 x.2.2.2.2]] (.returned (.int .i64 r)) := long_L1_grp.2
def identifier_1_L3 (x : (List Int) × Int × Int × Int × Bool × (List Int) × (List S36)) : Option ((List Int)) :=
  if 0 < x.2.1 then
    (shr' .u32 x.2.2.2.1 x.2.1) >>= fun y4 =>
    (app' 1 x.1 [(bOr .u8 (IntKind.u8.wrap y4) 128)]) >>= fun y5 =>
    identifier_1_L3 (y5, (IntKind.i64.wrap (x.2.1 - 7)), x.2.2.1, x.2.2.2.1, x.2.2.2.2.1, x.2.2.2.2.2.1, x.2.2.2.2.2.2)
  else
    (app' 1 x.1 [(IntKind.u8.wrap (bAnd .u32 x.2.2.2.1 127))]) >>= fun y6 =>
    some y6
partial_fixpoint
theorem identifier_1_L3_ok : ∀ (x : (List Int) × Int × Int × Int × Bool × (List Int) × (List S36)) (r : (List Int)), identifier_1_L3 x = some r → ∀ (W0 w0 : World) (S : Own), Std W0 w0 S 1 → HL Tryd.prog w0 S 58 (cL (cL (cL (cR (cR (cR (cR (cR (cR (cR (cB Tryd.f80))))))))))) (mkS [(0, tl 1 1 (encI .u8) x.1), (3, .pointer (some ⟨2, 0, none⟩)), (6, .int .i64 x.2.1)] [(2, .cells [.int .u8 x.2.2.1, .int .u32 x.2.2.2.1, .bool x.2.2.2.2.1, ls 1 false (encI .u8) x.2.2.2.2.2.1, ls 5 false enc36 x.2.2.2.2.2.2] 36 5)] 3 [1]) (Kblock 2 (Kseq Tryd.prog w0 S 58 (cR (cR (cR (cR (cR (cR (cR (cR (cB Tryd.f80))))))))) (KEnd Tryd.prog Tryd.f80 (FEnd w0 S (.returned (tl 1 1 (encI .u8) r)) (mkW 2 [1] []))))) := by
  refine identifier_1_L3.partial_correctness (fun (x : (List Int) × Int × Int × Int × Bool × (List Int) × (List S36)) (r : (List Int)) => ∀ (W0 w0 : World) (S : Own), Std W0 w0 S 1 → HL Tryd.prog w0 S 58 (cL (cL (cL (cR (cR (cR (cR (cR (cR (cR (cB Tryd.f80))))))))))) (mkS [(0, tl 1 1 (encI .u8) x.1), (3, .pointer (some ⟨2, 0, none⟩)), (6, .int .i64 x.2.1)] [(2, .cells [.int .u8 x.2.2.1, .int .u32 x.2.2.2.1, .bool x.2.2.2.2.1, ls 1 false (encI .u8) x.2.2.2.2.2.1, ls 5 false enc36 x.2.2.2.2.2.2] 36 5)] 3 [1]) (Kblock 2 (Kseq Tryd.prog w0 S 58 (cR (cR (cR (cR (cR (cR (cR (cR (cB Tryd.f80))))))))) (KEnd Tryd.prog Tryd.f80 (FEnd w0 S (.returned (tl 1 1 (encI .u8) r)) (mkW 2 [1] [])))))) ?_
  intro self ih_identifier_1_L3 x r h
  intro W0 w0 S hS
  haveI := hS.noEx Tryd.prog
  refine HL.round ?_
  refine H.seqP (by kernel_rfl) ?_
  refine H.sr 2 (by kernel_rfl) ?_
  refine H.condS (b := decide (0 < x.2.1)) (by kernel_rfl) (by kernel_rfl) (fun hb => ?_) (fun hb => ?_)
  rotate_left
  · rw [if_neg (of_decide_eq_false hb)] at h
    refine H.exitI 2 (by kernel_rfl) ?_
    refine Kseq_exit ?_
    refine Kloop_exit ?_
    refine Kblock_hit ?_
    refine Kseq_norm ?_
    refine H.sg (by kernel_rfl) ?_
    refine HO.goP 6 (by kernel_rfl) ?_
    obtain ⟨y6, hy, h⟩ := bindS h
    refine HO.effA (app1_aop (enc := (encI .u8)) (k := 1) false 1 [.int .u8 (IntKind.u8.wrap (bAnd .u32 x.2.2.2.1 127))] [] hy (by kernel_rfl) (by kernel_rfl) (by kernel_rfl)) ?_
    refine HO.fin 1 (by kernel_rfl) ?_
    refine H.retP (by kernel_rfl) ?_
    obtain rfl := Option.some.inj h
    exact KEnd.of (v := tl 1 4 (encI .u8) y6) (by kernel_rfl) (by kernel_rfl) (FEnd.ren hS [0, 4] _ _ (by kernel_rfl))
  rw [if_pos (of_decide_eq_true hb)] at h
  refine H.skipP (by kernel_rfl) ?_
  refine Kseq_norm ?_
  refine H.seqP (by kernel_rfl) ?_
  refine H.blockI 3 (by kernel_rfl) ?_
  refine H.regP (by kernel_rfl) ?_
  refine HO.goP 4 (by kernel_rfl) ?_
  obtain ⟨y4, hy, h⟩ := bindS h
  refine HO.valA (shr_aop hy (by kernel_rfl)) ?_
  refine HO.goP 3 (by kernel_rfl) ?_
  obtain ⟨y5, hy, h⟩ := bindS h
  refine HO.effA (app1_aop (enc := (encI .u8)) (k := 1) false 1 [.int .u8 (bOr .u8 (IntKind.u8.wrap y4) 128)] [] hy (by kernel_rfl) (by kernel_rfl) (by kernel_rfl)) ?_
  refine HO.goP 1 (by kernel_rfl) ?_
  refine HO.done (by kernel_rfl) ?_
  refine Kblock_norm ?_
  refine Kseq_norm ?_
  refine H.regP (by kernel_rfl) ?_
  refine HO.goP 3 (by kernel_rfl) ?_
  refine HO.done (by kernel_rfl) ?_
  refine Kloop_norm ?_
  exact HL.ren hS [0, 4, 2] _ _ _ (by kernel_rfl) (ih_identifier_1_L3 (y5, (IntKind.i64.wrap (x.2.1 - 7)), x.2.2.1, x.2.2.2.1, x.2.2.2.2.1, x.2.2.2.2.2.1, x.2.2.2.2.2.2) r h W0 w0 S hS)
end Vf
