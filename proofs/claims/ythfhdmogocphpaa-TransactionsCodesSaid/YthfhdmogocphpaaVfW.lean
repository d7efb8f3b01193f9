import Derived.Test.YthfhdmogocphpaaProg
import Derived.Test.YthfhdmogocphpaaVxD
set_option linter.unusedVariables false
set_option linter.unusedSimpArgs false
set_option maxHeartbeats 4000000
namespace Vf
open Go Go.Vx Go.Proofs
structure S78 where
  mk ::
  c0 : Int
  c1 : Int
  c2 : Bool
  c3 : (List Int)
  c4 : (List S78)
  deriving Inhabited
mutual
def enc78 : S78 → Value
  | .mk c0 c1 c2 c3 c4 => .agg #[.int .u8 c0, .int .u32 c1, .bool c2, ls 1 false (encI .u8) c3, lst 5 false (enc78L c4).toArray]
def enc78L : List S78 → List Value
  | [] => []
  | a :: l => enc78 a :: enc78L l
end
theorem enc78L_eq : ∀ l : List S78, enc78L l = l.map enc78
  | [] => by rw [enc78L]; rfl
  | a :: l => by rw [enc78L, enc78L_eq l]; rfl
theorem enc78_eq (x : S78) : enc78 x = .agg #[.int .u8 x.c0, .int .u32 x.c1, .bool x.c2, ls 1 false (encI .u8) x.c3, ls 5 false enc78 x.c4] := by
  cases x
  rw [enc78]
  simp only [enc78L_eq]
  rfl
theorem enc78_ok : EncOk 5 true enc78 := by
  refine ⟨fun x => by rw [enc78_eq]; rfl, fun x c h => ?_, fun x => ⟨_, enc78_eq x⟩⟩
  rw [enc78_eq] at h
  simp only [Value.cells, List.mem_cons, List.not_mem_nil, or_false] at h
  rcases h with rfl | rfl | rfl | rfl | rfl <;> exact ⟨rfl, rfl⟩
def cloneB (x : List Int) : Option (List Int) := app' 1 [] x
theorem cloneB_L1 (x : List Int) : ∀ (W0 w0 : World) (S : Own), Std W0 w0 S 0 → H Try.prog w0 S 8 (cR (cR (cR (cB Try.f92)))) (mkS [(2, tl 1 0 (encI .u8) x)] [] 1 [0]) (KEnd Try.prog Try.f92 (PEnd w0 S (.returned (ls 1 false (encI .u8) x)))) := by
  intro W0 w0 S hS
  haveI := hS.noEx Try.prog
  refine H.retP (by kernel_rfl) ?_
  exact KEnd.retW (v := tl 1 0 (encI .u8) x) (.list 1 false) (by kernel_rfl) (by kernel_rfl) (by kernel_rfl) (by kernel_rfl)
theorem cloneB_ok : ∀ (x : List Int) (r : List Int), cloneB x = some r → ∀ W0 : World, PTo Try.prog W0 92 #[ls 1 false (encI .u8) x] (.returned (ls 1 false (encI .u8) r)) := by
  intro x r h
  unfold cloneB at h
  intro W0
  refine PTo.of_body (fn := Try.f92) (code := cB Try.f92) Try.func92 rfl rfl ?_
  intro w0 S hS
  haveI := hS.noEx Try.prog
  refine H.seqP (by kernel_rfl) ?_
  refine H.regP (by kernel_rfl) ?_
  refine HO.goP 1 (by kernel_rfl) ?_
  refine HO.done (by kernel_rfl) ?_
  refine Kseq_norm ?_
  refine H.seqP (by kernel_rfl) ?_
  refine H.seqP (by kernel_rfl) ?_
  refine H.regP (by kernel_rfl) ?_
  refine HO.goP 1 (by kernel_rfl) ?_
  refine HO.nilB (eq := true) (es := (x.map (encI .u8)).toArray) (by kernel_rfl) (fun b hb0 => ?_)
  cases b with
  | true =>
    have hx : x = [] := List.eq_nil_of_length_eq_zero (by simpa using hb0 rfl)
    subst hx
    have hr : r = [] := by
      have := (app'_spec h).2
      simpa using this
    subst hr
    refine HO.done (by kernel_rfl) ?_
    refine Kseq_norm ?_
    refine H.condT (by kernel_rfl) (by kernel_rfl) ?_
    refine H.seqP (by kernel_rfl) ?_
    refine H.regP (by kernel_rfl) ?_
    refine HO.goP 1 (by kernel_rfl) ?_
    refine HO.done (by kernel_rfl) ?_
    refine Kseq_norm ?_
    refine H.retP (by kernel_rfl) ?_
    refine Kseq_ret ?_
    exact KEnd.retW (v := .slice none 0 0) (.list 1 false) (by kernel_rfl) (by kernel_rfl) (by kernel_rfl) (by kernel_rfl)
  | false =>
    refine HO.done (by kernel_rfl) ?_
    refine Kseq_norm ?_
    refine H.condF (by kernel_rfl) (by kernel_rfl) ?_
    refine H.skipP (by kernel_rfl) ?_
    refine Kseq_norm ?_
    refine H.seqP (by kernel_rfl) ?_
    refine H.regP (by kernel_rfl) ?_
    refine HO.goP 2 (by kernel_rfl) ?_
    refine HO.tkz [5] 0 0 0 1 5 ([].map (encI .u8)).toArray [] (by kernel_rfl) ?_
    have hr := (app'_spec h).2
    by_cases hb : x.length = 0
    · have hr0 : r = [] := by rw [hr]; simpa using List.eq_nil_of_length_eq_zero hb
      subst hr0
      refine HO.valA (appN_aop (ag := false) [] (encI_ok .u8) h hb (by kernel_rfl)) ?_
      refine HO.goP 1 (by kernel_rfl) ?_
      refine HO.done (by kernel_rfl) ?_
      refine Kseq_norm ?_
      exact H.ren hS [1] _ _ _ (by kernel_rfl) (cloneB_L1 [] W0 w0 S hS)
    · refine HO.effA (appL_aop (ag := false) [] (encI_ok .u8) h hb (by kernel_rfl)) ?_
      refine HO.goP 1 (by kernel_rfl) ?_
      refine HO.done (by kernel_rfl) ?_
      refine Kseq_norm ?_
      exact H.ren hS [2] _ _ _ (by kernel_rfl) (cloneB_L1 r W0 w0 S hS)

def cloneS (x : List Int) : Option (List Int) := app' 1 [] x
theorem cloneS_L1 (x : List Int) : ∀ (W0 w0 : World) (S : Own), Std W0 w0 S 0 → H Try.prog w0 S 8 (cR (cR (cR (cB Try.f59)))) (mkS [(2, tl 1 0 (encI .u8) x)] [] 1 [0]) (KEnd Try.prog Try.f59 (PEnd w0 S (.returned (ls 1 false (encI .u8) x)))) := by
  intro W0 w0 S hS
  haveI := hS.noEx Try.prog
  refine H.retP (by kernel_rfl) ?_
  exact KEnd.retW (v := tl 1 0 (encI .u8) x) (.list 1 false) (by kernel_rfl) (by kernel_rfl) (by kernel_rfl) (by kernel_rfl)
theorem cloneS_ok : ∀ (x : List Int) (r : List Int), cloneS x = some r → ∀ W0 : World, PTo Try.prog W0 59 #[ls 1 false (encI .u8) x] (.returned (ls 1 false (encI .u8) r)) := by
  intro x r h
  unfold cloneS at h
  intro W0
  refine PTo.of_body (fn := Try.f59) (code := cB Try.f59) Try.func59 rfl rfl ?_
  intro w0 S hS
  haveI := hS.noEx Try.prog
  refine H.seqP (by kernel_rfl) ?_
  refine H.regP (by kernel_rfl) ?_
  refine HO.goP 1 (by kernel_rfl) ?_
  refine HO.done (by kernel_rfl) ?_
  refine Kseq_norm ?_
  refine H.seqP (by kernel_rfl) ?_
  refine H.seqP (by kernel_rfl) ?_
  refine H.regP (by kernel_rfl) ?_
  refine HO.goP 1 (by kernel_rfl) ?_
  refine HO.nilB (eq := true) (es := (x.map (encI .u8)).toArray) (by kernel_rfl) (fun b hb0 => ?_)
  cases b with
  | true =>
    have hx : x = [] := List.eq_nil_of_length_eq_zero (by simpa using hb0 rfl)
    subst hx
    have hr : r = [] := by
      have := (app'_spec h).2
      simpa using this
    subst hr
    refine HO.done (by kernel_rfl) ?_
    refine Kseq_norm ?_
    refine H.condT (by kernel_rfl) (by kernel_rfl) ?_
    refine H.seqP (by kernel_rfl) ?_
    refine H.regP (by kernel_rfl) ?_
    refine HO.goP 1 (by kernel_rfl) ?_
    refine HO.done (by kernel_rfl) ?_
    refine Kseq_norm ?_
    refine H.retP (by kernel_rfl) ?_
    refine Kseq_ret ?_
    exact KEnd.retW (v := .slice none 0 0) (.list 1 false) (by kernel_rfl) (by kernel_rfl) (by kernel_rfl) (by kernel_rfl)
  | false =>
    refine HO.done (by kernel_rfl) ?_
    refine Kseq_norm ?_
    refine H.condF (by kernel_rfl) (by kernel_rfl) ?_
    refine H.skipP (by kernel_rfl) ?_
    refine Kseq_norm ?_
    refine H.seqP (by kernel_rfl) ?_
    refine H.regP (by kernel_rfl) ?_
    refine HO.goP 2 (by kernel_rfl) ?_
    refine HO.tkz [5] 0 0 0 1 5 ([].map (encI .u8)).toArray [] (by kernel_rfl) ?_
    have hr := (app'_spec h).2
    by_cases hb : x.length = 0
    · have hr0 : r = [] := by rw [hr]; simpa using List.eq_nil_of_length_eq_zero hb
      subst hr0
      refine HO.valA (appN_aop (ag := false) [] (encI_ok .u8) h hb (by kernel_rfl)) ?_
      refine HO.goP 1 (by kernel_rfl) ?_
      refine HO.done (by kernel_rfl) ?_
      refine Kseq_norm ?_
      exact H.ren hS [1] _ _ _ (by kernel_rfl) (cloneS_L1 [] W0 w0 S hS)
    · refine HO.effA (appL_aop (ag := false) [] (encI_ok .u8) h hb (by kernel_rfl)) ?_
      refine HO.goP 1 (by kernel_rfl) ?_
      refine HO.done (by kernel_rfl) ?_
      refine Kseq_norm ?_
      exact H.ren hS [2] _ _ _ (by kernel_rfl) (cloneS_L1 r W0 w0 S hS)

def uses_L1 (x : Bool × Bool × Bool) : Option (Bool × Bool × Bool) :=
  some (x.1, x.2.1, x.2.2)
theorem uses_L1_ok : ∀ (x : Bool × Bool × Bool) (r : Bool × Bool × Bool), uses_L1 x = some r → ∀ (W0 w0 : World) (S : Own), Std W0 w0 S 0 → H Try.prog w0 S 15 (cR (cR (cB Try.f51))) (mkS [(2, .bool x.1), (3, .bool x.2.1), (4, .bool x.2.2)] [] 0 []) (KEnd Try.prog Try.f51 (PEnd w0 S (.returned (.tuple #[.bool r.1, .bool r.2.1, .bool r.2.2])))) := by
  intro x r h
  unfold uses_L1 at h
  intro W0 w0 S hS
  haveI := hS.noEx Try.prog
  refine H.retP (by kernel_rfl) ?_
  obtain rfl := Option.some.inj h
  exact KEnd.ret (by kernel_rfl) (by kernel_rfl) (by kernel_rfl)
def uses (x : Int) : Option (Bool × Bool × Bool) :=
  if x = 1 then
    uses_L1 (true, (decide (1 < x)), (decide (x = 4)))
  else
    uses_L1 ((decide (x = 2)), (decide (1 < x)), (decide (x = 4)))
theorem uses_ok : ∀ (x : Int) (r : Bool × Bool × Bool), uses x = some r → ∀ W0 : World, PTo Try.prog W0 51 #[.int .u8 x] (.returned (.tuple #[.bool r.1, .bool r.2.1, .bool r.2.2])) := by
  intro x r h
  unfold uses at h
  intro W0
  refine PTo.of_body (fn := Try.f51) (code := cB Try.f51) Try.func51 rfl rfl ?_
  intro w0 S hS
  haveI := hS.noEx Try.prog
  refine H.sr 3 (by kernel_rfl) ?_
  refine H.sg (by kernel_rfl) ?_
  refine HO.goP 2 (by kernel_rfl) ?_
  refine HO.boolP (decide (x = 1)) (by kernel_rfl) (by kernel_rfl) (fun hb => ?_) (fun hb => ?_)
  · rw [if_pos (of_decide_eq_true hb)] at h
    refine HO.fin 10 (by kernel_rfl) ?_
    exact H.ren hS [] _ _ _ (by kernel_rfl) (uses_L1_ok (true, (decide (1 < x)), (decide (x = 4))) r h W0 w0 S hS)
  rw [if_neg (of_decide_eq_false hb)] at h
  refine HO.fin 10 (by kernel_rfl) ?_
  exact H.ren hS [] _ _ _ (by kernel_rfl) (uses_L1_ok ((decide (x = 2)), (decide (1 < x)), (decide (x = 4))) r h W0 w0 S hS)
def trCheck_L2 (x : Bool) : Option (Int) :=
  if x = true then
    some 1
  else
    some 0
theorem trCheck_L2_ok : ∀ (x : Bool) (r : Int), trCheck_L2 x = some r → ∀ (W0 w0 : World) (S : Own), Std W0 w0 S 0 → H Try.prog w0 S 55 (cR (cR (cR (cL (cL (cR (cR (cR (cB Try.f29))))))))) (mkS [(26, .bool x)] [] 0 []) (Kblock 0 (Kseq Try.prog w0 S 55 (cR (cR (cR (cR (cB Try.f29))))) (KEnd Try.prog Try.f29 (PEnd w0 S (.returned (.int .i64 r)))))) := by
  intro x r h
  unfold trCheck_L2 at h
  intro W0 w0 S hS
  haveI := hS.noEx Try.prog
  refine H.condS (b := x) (by kernel_rfl) (by kernel_rfl) (fun hb => ?_) (fun hb => ?_)
  · rw [if_pos hb] at h
    refine H.sr 1 (by kernel_rfl) ?_
    refine H.retP (by kernel_rfl) ?_
    refine Kblock_ret ?_
    refine Kseq_ret ?_
    obtain rfl := Option.some.inj h
    exact KEnd.ret (by kernel_rfl) (by kernel_rfl) (by kernel_rfl)
  rw [if_neg (ne_true hb)] at h
  refine H.skipP (by kernel_rfl) ?_
  refine Kblock_norm ?_
  refine Kseq_norm ?_
  refine H.sr 1 (by kernel_rfl) ?_
  refine H.retP (by kernel_rfl) ?_
  obtain rfl := Option.some.inj h
  exact KEnd.ret (by kernel_rfl) (by kernel_rfl) (by kernel_rfl)
def trCheck_L1 (x : Bool × Bool × Bool × Bool × Int × Int × Int × Int × (List Int)) : Option (Int) :=
  if x.2.2.2.1 = true then
    some 1
  else
    if (!(x.1 == (decide (0 < x.2.2.2.2.2.1)))) = true then
      trCheck_L2 true
    else
      if (!(x.2.1 == (decide (0 < x.2.2.2.2.2.2.1)))) = true then
        trCheck_L2 true
      else
        if (!(x.2.2.1 == (decide (0 < x.2.2.2.2.2.2.2.1)))) = true then
          trCheck_L2 true
        else
          if x.2.2.1 = true then
            trCheck_L2 (decide (0 < (x.2.2.2.2.2.2.2.2.length : Int)))
          else
            trCheck_L2 false
theorem trCheck_L1_ok : ∀ (x : Bool × Bool × Bool × Bool × Int × Int × Int × Int × (List Int)) (r : Int), trCheck_L1 x = some r → ∀ (W0 w0 : World) (S : Own), Std W0 w0 S 0 → H Try.prog w0 S 55 (cR (cL (cL (cR (cR (cR (cB Try.f29))))))) (mkS [(1, .pointer (some ⟨0, 0, none⟩)), (3, .bool x.1), (4, .bool x.2.1), (5, .bool x.2.2.1), (17, .bool x.2.2.2.1)] [(0, .cells [.int .u8 x.2.2.2.2.1, .int .u32 x.2.2.2.2.2.1, .int .u32 x.2.2.2.2.2.2.1, .int .u8 x.2.2.2.2.2.2.2.1, ls 1 false (encI .u8) x.2.2.2.2.2.2.2.2] 46 5)] 1 []) (Kblock 0 (Kseq Try.prog w0 S 55 (cR (cR (cR (cR (cB Try.f29))))) (KEnd Try.prog Try.f29 (PEnd w0 S (.returned (.int .i64 r)))))) := by
  intro x r h
  unfold trCheck_L1 at h
  intro W0 w0 S hS
  haveI := hS.noEx Try.prog
  refine H.condS (b := x.2.2.2.1) (by kernel_rfl) (by kernel_rfl) (fun hb => ?_) (fun hb => ?_)
  · rw [if_pos hb] at h
    refine H.sr 1 (by kernel_rfl) ?_
    refine H.retP (by kernel_rfl) ?_
    refine Kblock_ret ?_
    refine Kseq_ret ?_
    obtain rfl := Option.some.inj h
    exact KEnd.ret (by kernel_rfl) (by kernel_rfl) (by kernel_rfl)
  rw [if_neg (ne_true hb)] at h
  refine H.sg (by kernel_rfl) ?_
  refine HO.goP 5 (by kernel_rfl) ?_
  refine HO.boolP (!(x.1 == (decide (0 < x.2.2.2.2.2.1)))) (by kernel_rfl) (by kernel_rfl) (fun hb => ?_) (fun hb => ?_)
  · rw [if_pos hb] at h
    refine HO.fin 23 (by kernel_rfl) ?_
    exact H.ren hS [] _ _ _ (by kernel_rfl) (trCheck_L2_ok true r h W0 w0 S hS)
  rw [if_neg (ne_true hb)] at h
  refine HO.goP 6 (by kernel_rfl) ?_
  refine HO.boolP (!(x.2.1 == (decide (0 < x.2.2.2.2.2.2.1)))) (by kernel_rfl) (by kernel_rfl) (fun hb => ?_) (fun hb => ?_)
  · rw [if_pos hb] at h
    refine HO.fin 16 (by kernel_rfl) ?_
    exact H.ren hS [] _ _ _ (by kernel_rfl) (trCheck_L2_ok true r h W0 w0 S hS)
  rw [if_neg (ne_true hb)] at h
  refine HO.goP 6 (by kernel_rfl) ?_
  refine HO.boolP (!(x.2.2.1 == (decide (0 < x.2.2.2.2.2.2.2.1)))) (by kernel_rfl) (by kernel_rfl) (fun hb => ?_) (fun hb => ?_)
  · rw [if_pos hb] at h
    refine HO.fin 9 (by kernel_rfl) ?_
    exact H.ren hS [] _ _ _ (by kernel_rfl) (trCheck_L2_ok true r h W0 w0 S hS)
  rw [if_neg (ne_true hb)] at h
  refine HO.goP 1 (by kernel_rfl) ?_
  refine HO.boolP x.2.2.1 (by kernel_rfl) (by kernel_rfl) (fun hb => ?_) (fun hb => ?_)
  rotate_left
  · rw [if_neg (ne_true hb)] at h
    refine HO.fin 7 (by kernel_rfl) ?_
    exact H.ren hS [] _ _ _ (by kernel_rfl) (trCheck_L2_ok false r h W0 w0 S hS)
  rw [if_pos hb] at h
  refine HO.goP 2 (by kernel_rfl) ?_
  refine HO.len (by kernel_rfl) (by kernel_rfl) (ls_size (encI .u8) x.2.2.2.2.2.2.2.2) ?_
  refine HO.fin 4 (by kernel_rfl) ?_
  exact H.ren hS [] _ _ _ (by kernel_rfl) (trCheck_L2_ok (decide (0 < (x.2.2.2.2.2.2.2.2.length : Int))) r h W0 w0 S hS)
def trCheck (x : Int × Int × Int × Int × (List Int)) : Option (Int) :=
  if 3800 < (x.2.2.2.2.length : Int) then
    some 3
  else
    (uses x.1) >>= fun y1 =>
    if x.1 < 1 then
      trCheck_L1 (y1.1, y1.2.1, y1.2.2, true, x.1, x.2.1, x.2.2.1, x.2.2.2.1, x.2.2.2.2)
    else
      trCheck_L1 (y1.1, y1.2.1, y1.2.2, (decide (4 < x.1)), x.1, x.2.1, x.2.2.1, x.2.2.2.1, x.2.2.2.2)
theorem trCheck_ok : ∀ (x : Int × Int × Int × Int × (List Int)) (r : Int), trCheck x = some r → ∀ W0 : World, PTo Try.prog W0 29 #[.agg #[.int .u8 x.1, .int .u32 x.2.1, .int .u32 x.2.2.1, .int .u8 x.2.2.2.1, ls 1 false (encI .u8) x.2.2.2.2]] (.returned (.int .i64 r)) := by
  intro x r h
  unfold trCheck at h
  intro W0
  refine PTo.of_body (fn := Try.f29) (code := cB Try.f29) Try.func29 rfl rfl ?_
  intro w0 S hS
  haveI := hS.noEx Try.prog
  refine H.sr 2 (by kernel_rfl) ?_
  refine H.seqP (by kernel_rfl) ?_
  refine H.sg (by kernel_rfl) ?_
  refine HO.goP 2 (by kernel_rfl) ?_
  refine HO.len (by kernel_rfl) (by kernel_rfl) (ls_size (encI .u8) x.2.2.2.2) ?_
  refine HO.fin 1 (by kernel_rfl) ?_
  refine H.condS (b := decide (3800 < (x.2.2.2.2.length : Int))) (by kernel_rfl) (by kernel_rfl) (fun hb => ?_) (fun hb => ?_)
  · rw [if_pos (of_decide_eq_true hb)] at h
    refine H.sr 1 (by kernel_rfl) ?_
    refine H.retP (by kernel_rfl) ?_
    refine Kseq_ret ?_
    obtain rfl := Option.some.inj h
    exact KEnd.ret (by kernel_rfl) (by kernel_rfl) (by kernel_rfl)
  rw [if_neg (of_decide_eq_false hb)] at h
  refine H.skipP (by kernel_rfl) ?_
  refine Kseq_norm ?_
  refine H.sg (by kernel_rfl) ?_
  refine HO.goP 2 (by kernel_rfl) ?_
  obtain ⟨y1, hy, h⟩ := bindS h
  refine HO.callW hS [.keep] (uses_ok x.1 y1 hy W0) (by kernel_rfl) (by kernel_rfl) ?_
  refine HO.fin 7 (by kernel_rfl) ?_
  refine H.seqP (by kernel_rfl) ?_
  refine H.blockI 0 (by kernel_rfl) ?_
  refine H.sg (by kernel_rfl) ?_
  refine HO.goP 3 (by kernel_rfl) ?_
  refine HO.boolP (decide (x.1 < 1)) (by kernel_rfl) (by kernel_rfl) (fun hb => ?_) (fun hb => ?_)
  · rw [if_pos (of_decide_eq_true hb)] at h
    refine HO.fin 5 (by kernel_rfl) ?_
    exact H.ren hS [0] _ _ _ (by kernel_rfl) (trCheck_L1_ok (y1.1, y1.2.1, y1.2.2, true, x.1, x.2.1, x.2.2.1, x.2.2.2.1, x.2.2.2.2) r h W0 w0 S hS)
  rw [if_neg (of_decide_eq_false hb)] at h
  refine HO.fin 5 (by kernel_rfl) ?_
  exact H.ren hS [0] _ _ _ (by kernel_rfl) (trCheck_L1_ok (y1.1, y1.2.1, y1.2.2, (decide (4 < x.1)), x.1, x.2.1, x.2.2.1, x.2.2.2.1, x.2.2.2.2) r h W0 w0 S hS)
def intC (x : Int) : Option ((List Int)) :=
  if (!decide ((shrI .i64 x 7) = 0)) = true then
    if (!decide ((shrI .i64 x 7) = (-1))) = true then
      if (!decide ((shrI .i64 x 15) = 0)) = true then
        if (!decide ((shrI .i64 x 15) = (-1))) = true then
          if (!decide ((shrI .i64 x 23) = 0)) = true then
            if (!decide ((shrI .i64 x 23) = (-1))) = true then
              if (!decide ((shrI .i64 x 31) = 0)) = true then
                if (!decide ((shrI .i64 x 31) = (-1))) = true then
                  if (!decide ((shrI .i64 x 39) = 0)) = true then
                    if (!decide ((shrI .i64 x 39) = (-1))) = true then
                      if (!decide ((shrI .i64 x 47) = 0)) = true then
                        if (!decide ((shrI .i64 x 47) = (-1))) = true then
                          if (!decide ((shrI .i64 x 55) = 0)) = true then
                            if (!decide ((shrI .i64 x 55) = (-1))) = true then
                              some [(IntKind.u8.wrap (shrI .i64 x 56)), (IntKind.u8.wrap (shrI .i64 x 48)), (IntKind.u8.wrap (shrI .i64 x 40)), (IntKind.u8.wrap (shrI .i64 x 32)), (IntKind.u8.wrap (shrI .i64 x 24)), (IntKind.u8.wrap (shrI .i64 x 16)), (IntKind.u8.wrap (shrI .i64 x 8)), (IntKind.u8.wrap (shrI .i64 x 0))]
                            else
                              some [(IntKind.u8.wrap (shrI .i64 x 48)), (IntKind.u8.wrap (shrI .i64 x 40)), (IntKind.u8.wrap (shrI .i64 x 32)), (IntKind.u8.wrap (shrI .i64 x 24)), (IntKind.u8.wrap (shrI .i64 x 16)), (IntKind.u8.wrap (shrI .i64 x 8)), (IntKind.u8.wrap (shrI .i64 x 0))]
                          else
                            some [(IntKind.u8.wrap (shrI .i64 x 48)), (IntKind.u8.wrap (shrI .i64 x 40)), (IntKind.u8.wrap (shrI .i64 x 32)), (IntKind.u8.wrap (shrI .i64 x 24)), (IntKind.u8.wrap (shrI .i64 x 16)), (IntKind.u8.wrap (shrI .i64 x 8)), (IntKind.u8.wrap (shrI .i64 x 0))]
                        else
                          some [(IntKind.u8.wrap (shrI .i64 x 40)), (IntKind.u8.wrap (shrI .i64 x 32)), (IntKind.u8.wrap (shrI .i64 x 24)), (IntKind.u8.wrap (shrI .i64 x 16)), (IntKind.u8.wrap (shrI .i64 x 8)), (IntKind.u8.wrap (shrI .i64 x 0))]
                      else
                        some [(IntKind.u8.wrap (shrI .i64 x 40)), (IntKind.u8.wrap (shrI .i64 x 32)), (IntKind.u8.wrap (shrI .i64 x 24)), (IntKind.u8.wrap (shrI .i64 x 16)), (IntKind.u8.wrap (shrI .i64 x 8)), (IntKind.u8.wrap (shrI .i64 x 0))]
                    else
                      some [(IntKind.u8.wrap (shrI .i64 x 32)), (IntKind.u8.wrap (shrI .i64 x 24)), (IntKind.u8.wrap (shrI .i64 x 16)), (IntKind.u8.wrap (shrI .i64 x 8)), (IntKind.u8.wrap (shrI .i64 x 0))]
                  else
                    some [(IntKind.u8.wrap (shrI .i64 x 32)), (IntKind.u8.wrap (shrI .i64 x 24)), (IntKind.u8.wrap (shrI .i64 x 16)), (IntKind.u8.wrap (shrI .i64 x 8)), (IntKind.u8.wrap (shrI .i64 x 0))]
                else
                  some [(IntKind.u8.wrap (shrI .i64 x 24)), (IntKind.u8.wrap (shrI .i64 x 16)), (IntKind.u8.wrap (shrI .i64 x 8)), (IntKind.u8.wrap (shrI .i64 x 0))]
              else
                some [(IntKind.u8.wrap (shrI .i64 x 24)), (IntKind.u8.wrap (shrI .i64 x 16)), (IntKind.u8.wrap (shrI .i64 x 8)), (IntKind.u8.wrap (shrI .i64 x 0))]
            else
              some [(IntKind.u8.wrap (shrI .i64 x 16)), (IntKind.u8.wrap (shrI .i64 x 8)), (IntKind.u8.wrap (shrI .i64 x 0))]
          else
            some [(IntKind.u8.wrap (shrI .i64 x 16)), (IntKind.u8.wrap (shrI .i64 x 8)), (IntKind.u8.wrap (shrI .i64 x 0))]
        else
          some [(IntKind.u8.wrap (shrI .i64 x 8)), (IntKind.u8.wrap (shrI .i64 x 0))]
      else
        some [(IntKind.u8.wrap (shrI .i64 x 8)), (IntKind.u8.wrap (shrI .i64 x 0))]
    else
      some [(IntKind.u8.wrap (shrI .i64 x 0))]
  else
    some [(IntKind.u8.wrap (shrI .i64 x 0))]
theorem intC_ok : ∀ (x : Int) (r : (List Int)), intC x = some r → ∀ W0 : World, PTo Try.prog W0 53 #[.int .i64 x] (.returned (ls 1 false (encI .u8) r)) := by
  intro x r h
  unfold intC at h
  intro W0
  refine PTo.of_body (fn := Try.f53) (code := cB Try.f53) Try.func53 rfl rfl ?_
  intro w0 S hS
  haveI := hS.noEx Try.prog
  refine H.sr 1 (by kernel_rfl) ?_
  refine H.sr 1 (by kernel_rfl) ?_
  refine H.seqP (by kernel_rfl) ?_
  refine H.blockI 0 (by kernel_rfl) ?_
  refine H.loopP (by kernel_rfl) ?_
  refine HL.round ?_
  refine H.seqP (by kernel_rfl) ?_
  refine H.sg (by kernel_rfl) ?_
  refine HO.goP 10 (by kernel_rfl) ?_
  refine HO.boolP (!decide ((shrI .i64 x 7) = 0)) (by kernel_rfl) (by kernel_rfl) (fun hb => ?_) (fun hb => ?_)
  rotate_left
  · rw [if_neg (ne_true hb)] at h
    refine HO.fin 7 (by kernel_rfl) ?_
    refine H.condF (by kernel_rfl) (by kernel_rfl) ?_
    refine H.exitI 0 (by kernel_rfl) ?_
    refine Kseq_exit ?_
    refine Kloop_exit ?_
    refine Kblock_hit ?_
    refine Kseq_norm ?_
    refine H.sr 3 (by kernel_rfl) ?_
    refine H.seqP (by kernel_rfl) ?_
    refine H.sr 3 (by kernel_rfl) ?_
    refine H.blockI 2 (by kernel_rfl) ?_
    refine H.loopP (by kernel_rfl) ?_
    refine HL.round ?_
    refine H.sr 1 (by kernel_rfl) ?_
    refine H.seqP (by kernel_rfl) ?_
    refine H.condT (by kernel_rfl) (by kernel_rfl) ?_
    refine H.skipP (by kernel_rfl) ?_
    refine Kseq_norm ?_
    refine H.seqP (by kernel_rfl) ?_
    refine H.blockI 3 (by kernel_rfl) ?_
    refine H.sr 2 (by kernel_rfl) ?_
    refine H.regP (by kernel_rfl) ?_
    refine HO.goP 12 (by kernel_rfl) ?_
    refine HO.done (by kernel_rfl) ?_
    refine Kblock_norm ?_
    refine Kseq_norm ?_
    refine H.regP (by kernel_rfl) ?_
    refine HO.goP 2 (by kernel_rfl) ?_
    refine HO.done (by kernel_rfl) ?_
    refine Kloop_norm ?_
    refine HL.round ?_
    refine H.sr 1 (by kernel_rfl) ?_
    refine H.seqP (by kernel_rfl) ?_
    refine H.condF (by kernel_rfl) (by kernel_rfl) ?_
    refine H.exitI 2 (by kernel_rfl) ?_
    refine Kseq_exit ?_
    refine Kloop_exit ?_
    refine Kblock_hit ?_
    refine Kseq_norm ?_
    refine H.sr 2 (by kernel_rfl) ?_
    refine H.retP (by kernel_rfl) ?_
    obtain rfl := Option.some.inj h
    exact KEnd.of (v := .slice (some ⟨0, 0, none⟩) 1 1) (by kernel_rfl) (by kernel_rfl) (PEnd.frz 0 1 1 1 5 true ([(IntKind.u8.wrap (shrI .i64 x 0))].map (encI .u8)).toArray [.int .u8 (IntKind.u8.wrap (shrI .i64 x 0))] (by kernel_rfl) (PEnd.wk (v1 := ls 1 false (encI .u8) [(IntKind.u8.wrap (shrI .i64 x 0))]) (.list 1 false) (by kernel_rfl) (PEnd.fin (by kernel_rfl))))
  rw [if_pos hb] at h
  refine HO.fin 7 (by kernel_rfl) ?_
  refine H.condS (b := !decide ((shrI .i64 x 7) = (-1))) (by kernel_rfl) (by kernel_rfl) (fun hb => ?_) (fun hb => ?_)
  rotate_left
  · rw [if_neg (ne_true hb)] at h
    refine H.exitI 0 (by kernel_rfl) ?_
    refine Kseq_exit ?_
    refine Kloop_exit ?_
    refine Kblock_hit ?_
    refine Kseq_norm ?_
    refine H.sr 3 (by kernel_rfl) ?_
    refine H.seqP (by kernel_rfl) ?_
    refine H.sr 3 (by kernel_rfl) ?_
    refine H.blockI 2 (by kernel_rfl) ?_
    refine H.loopP (by kernel_rfl) ?_
    refine HL.round ?_
    refine H.sr 1 (by kernel_rfl) ?_
    refine H.seqP (by kernel_rfl) ?_
    refine H.condT (by kernel_rfl) (by kernel_rfl) ?_
    refine H.skipP (by kernel_rfl) ?_
    refine Kseq_norm ?_
    refine H.seqP (by kernel_rfl) ?_
    refine H.blockI 3 (by kernel_rfl) ?_
    refine H.sr 2 (by kernel_rfl) ?_
    refine H.regP (by kernel_rfl) ?_
    refine HO.goP 12 (by kernel_rfl) ?_
    refine HO.done (by kernel_rfl) ?_
    refine Kblock_norm ?_
    refine Kseq_norm ?_
    refine H.regP (by kernel_rfl) ?_
    refine HO.goP 2 (by kernel_rfl) ?_
    refine HO.done (by kernel_rfl) ?_
    refine Kloop_norm ?_
    refine HL.round ?_
    refine H.sr 1 (by kernel_rfl) ?_
    refine H.seqP (by kernel_rfl) ?_
    refine H.condF (by kernel_rfl) (by kernel_rfl) ?_
    refine H.exitI 2 (by kernel_rfl) ?_
    refine Kseq_exit ?_
    refine Kloop_exit ?_
    refine Kblock_hit ?_
    refine Kseq_norm ?_
    refine H.sr 2 (by kernel_rfl) ?_
    refine H.retP (by kernel_rfl) ?_
    obtain rfl := Option.some.inj h
    exact KEnd.of (v := .slice (some ⟨0, 0, none⟩) 1 1) (by kernel_rfl) (by kernel_rfl) (PEnd.frz 0 1 1 1 5 true ([(IntKind.u8.wrap (shrI .i64 x 0))].map (encI .u8)).toArray [.int .u8 (IntKind.u8.wrap (shrI .i64 x 0))] (by kernel_rfl) (PEnd.wk (v1 := ls 1 false (encI .u8) [(IntKind.u8.wrap (shrI .i64 x 0))]) (.list 1 false) (by kernel_rfl) (PEnd.fin (by kernel_rfl))))
  rw [if_pos hb] at h
  refine H.skipP (by kernel_rfl) ?_
  refine Kseq_norm ?_
  refine H.blockI 1 (by kernel_rfl) ?_
  refine H.regP (by kernel_rfl) ?_
  refine HO.goP 3 (by kernel_rfl) ?_
  refine HO.done (by kernel_rfl) ?_
  refine Kblock_norm ?_
  refine Kloop_norm ?_
  refine HL.round ?_
  refine H.seqP (by kernel_rfl) ?_
  refine H.sg (by kernel_rfl) ?_
  refine HO.goP 10 (by kernel_rfl) ?_
  refine HO.boolP (!decide ((shrI .i64 x 15) = 0)) (by kernel_rfl) (by kernel_rfl) (fun hb => ?_) (fun hb => ?_)
  rotate_left
  · rw [if_neg (ne_true hb)] at h
    refine HO.fin 7 (by kernel_rfl) ?_
    refine H.condF (by kernel_rfl) (by kernel_rfl) ?_
    refine H.exitI 0 (by kernel_rfl) ?_
    refine Kseq_exit ?_
    refine Kloop_exit ?_
    refine Kblock_hit ?_
    refine Kseq_norm ?_
    refine H.sr 3 (by kernel_rfl) ?_
    refine H.seqP (by kernel_rfl) ?_
    refine H.sr 3 (by kernel_rfl) ?_
    refine H.blockI 2 (by kernel_rfl) ?_
    refine H.loopP (by kernel_rfl) ?_
    refine HL.round ?_
    refine H.sr 1 (by kernel_rfl) ?_
    refine H.seqP (by kernel_rfl) ?_
    refine H.condT (by kernel_rfl) (by kernel_rfl) ?_
    refine H.skipP (by kernel_rfl) ?_
    refine Kseq_norm ?_
    refine H.seqP (by kernel_rfl) ?_
    refine H.blockI 3 (by kernel_rfl) ?_
    refine H.sr 2 (by kernel_rfl) ?_
    refine H.regP (by kernel_rfl) ?_
    refine HO.goP 12 (by kernel_rfl) ?_
    refine HO.done (by kernel_rfl) ?_
    refine Kblock_norm ?_
    refine Kseq_norm ?_
    refine H.regP (by kernel_rfl) ?_
    refine HO.goP 2 (by kernel_rfl) ?_
    refine HO.done (by kernel_rfl) ?_
    refine Kloop_norm ?_
    refine HL.round ?_
    refine H.sr 1 (by kernel_rfl) ?_
    refine H.seqP (by kernel_rfl) ?_
    refine H.condT (by kernel_rfl) (by kernel_rfl) ?_
    refine H.skipP (by kernel_rfl) ?_
    refine Kseq_norm ?_
    refine H.seqP (by kernel_rfl) ?_
    refine H.blockI 3 (by kernel_rfl) ?_
    refine H.sr 2 (by kernel_rfl) ?_
    refine H.regP (by kernel_rfl) ?_
    refine HO.goP 12 (by kernel_rfl) ?_
    refine HO.done (by kernel_rfl) ?_
    refine Kblock_norm ?_
    refine Kseq_norm ?_
    refine H.regP (by kernel_rfl) ?_
    refine HO.goP 2 (by kernel_rfl) ?_
    refine HO.done (by kernel_rfl) ?_
    refine Kloop_norm ?_
    refine HL.round ?_
    refine H.sr 1 (by kernel_rfl) ?_
    refine H.seqP (by kernel_rfl) ?_
    refine H.condF (by kernel_rfl) (by kernel_rfl) ?_
    refine H.exitI 2 (by kernel_rfl) ?_
    refine Kseq_exit ?_
    refine Kloop_exit ?_
    refine Kblock_hit ?_
    refine Kseq_norm ?_
    refine H.sr 2 (by kernel_rfl) ?_
    refine H.retP (by kernel_rfl) ?_
    obtain rfl := Option.some.inj h
    exact KEnd.of (v := .slice (some ⟨0, 0, none⟩) 2 2) (by kernel_rfl) (by kernel_rfl) (PEnd.frz 0 2 2 1 5 true ([(IntKind.u8.wrap (shrI .i64 x 8)), (IntKind.u8.wrap (shrI .i64 x 0))].map (encI .u8)).toArray [.int .u8 (IntKind.u8.wrap (shrI .i64 x 8)), .int .u8 (IntKind.u8.wrap (shrI .i64 x 0))] (by kernel_rfl) (PEnd.wk (v1 := ls 1 false (encI .u8) [(IntKind.u8.wrap (shrI .i64 x 8)), (IntKind.u8.wrap (shrI .i64 x 0))]) (.list 1 false) (by kernel_rfl) (PEnd.fin (by kernel_rfl))))
  rw [if_pos hb] at h
  refine HO.fin 7 (by kernel_rfl) ?_
  refine H.condS (b := !decide ((shrI .i64 x 15) = (-1))) (by kernel_rfl) (by kernel_rfl) (fun hb => ?_) (fun hb => ?_)
  rotate_left
  · rw [if_neg (ne_true hb)] at h
    refine H.exitI 0 (by kernel_rfl) ?_
    refine Kseq_exit ?_
    refine Kloop_exit ?_
    refine Kblock_hit ?_
    refine Kseq_norm ?_
    refine H.sr 3 (by kernel_rfl) ?_
    refine H.seqP (by kernel_rfl) ?_
    refine H.sr 3 (by kernel_rfl) ?_
    refine H.blockI 2 (by kernel_rfl) ?_
    refine H.loopP (by kernel_rfl) ?_
    refine HL.round ?_
    refine H.sr 1 (by kernel_rfl) ?_
    refine H.seqP (by kernel_rfl) ?_
    refine H.condT (by kernel_rfl) (by kernel_rfl) ?_
    refine H.skipP (by kernel_rfl) ?_
    refine Kseq_norm ?_
    refine H.seqP (by kernel_rfl) ?_
    refine H.blockI 3 (by kernel_rfl) ?_
    refine H.sr 2 (by kernel_rfl) ?_
    refine H.regP (by kernel_rfl) ?_
    refine HO.goP 12 (by kernel_rfl) ?_
    refine HO.done (by kernel_rfl) ?_
    refine Kblock_norm ?_
    refine Kseq_norm ?_
    refine H.regP (by kernel_rfl) ?_
    refine HO.goP 2 (by kernel_rfl) ?_
    refine HO.done (by kernel_rfl) ?_
    refine Kloop_norm ?_
    refine HL.round ?_
    refine H.sr 1 (by kernel_rfl) ?_
    refine H.seqP (by kernel_rfl) ?_
    refine H.condT (by kernel_rfl) (by kernel_rfl) ?_
    refine H.skipP (by kernel_rfl) ?_
    refine Kseq_norm ?_
    refine H.seqP (by kernel_rfl) ?_
    refine H.blockI 3 (by kernel_rfl) ?_
    refine H.sr 2 (by kernel_rfl) ?_
    refine H.regP (by kernel_rfl) ?_
    refine HO.goP 12 (by kernel_rfl) ?_
    refine HO.done (by kernel_rfl) ?_
    refine Kblock_norm ?_
    refine Kseq_norm ?_
    refine H.regP (by kernel_rfl) ?_
    refine HO.goP 2 (by kernel_rfl) ?_
    refine HO.done (by kernel_rfl) ?_
    refine Kloop_norm ?_
    refine HL.round ?_
    refine H.sr 1 (by kernel_rfl) ?_
    refine H.seqP (by kernel_rfl) ?_
    refine H.condF (by kernel_rfl) (by kernel_rfl) ?_
    refine H.exitI 2 (by kernel_rfl) ?_
    refine Kseq_exit ?_
    refine Kloop_exit ?_
    refine Kblock_hit ?_
    refine Kseq_norm ?_
    refine H.sr 2 (by kernel_rfl) ?_
    refine H.retP (by kernel_rfl) ?_
    obtain rfl := Option.some.inj h
    exact KEnd.of (v := .slice (some ⟨0, 0, none⟩) 2 2) (by kernel_rfl) (by kernel_rfl) (PEnd.frz 0 2 2 1 5 true ([(IntKind.u8.wrap (shrI .i64 x 8)), (IntKind.u8.wrap (shrI .i64 x 0))].map (encI .u8)).toArray [.int .u8 (IntKind.u8.wrap (shrI .i64 x 8)), .int .u8 (IntKind.u8.wrap (shrI .i64 x 0))] (by kernel_rfl) (PEnd.wk (v1 := ls 1 false (encI .u8) [(IntKind.u8.wrap (shrI .i64 x 8)), (IntKind.u8.wrap (shrI .i64 x 0))]) (.list 1 false) (by kernel_rfl) (PEnd.fin (by kernel_rfl))))
  rw [if_pos hb] at h
  refine H.skipP (by kernel_rfl) ?_
  refine Kseq_norm ?_
  refine H.blockI 1 (by kernel_rfl) ?_
  refine H.regP (by kernel_rfl) ?_
  refine HO.goP 3 (by kernel_rfl) ?_
  refine HO.done (by kernel_rfl) ?_
  refine Kblock_norm ?_
  refine Kloop_norm ?_
  refine HL.round ?_
  refine H.seqP (by kernel_rfl) ?_
  refine H.sg (by kernel_rfl) ?_
  refine HO.goP 10 (by kernel_rfl) ?_
  refine HO.boolP (!decide ((shrI .i64 x 23) = 0)) (by kernel_rfl) (by kernel_rfl) (fun hb => ?_) (fun hb => ?_)
  rotate_left
  · rw [if_neg (ne_true hb)] at h
    refine HO.fin 7 (by kernel_rfl) ?_
    refine H.condF (by kernel_rfl) (by kernel_rfl) ?_
    refine H.exitI 0 (by kernel_rfl) ?_
    refine Kseq_exit ?_
    refine Kloop_exit ?_
    refine Kblock_hit ?_
    refine Kseq_norm ?_
    refine H.sr 3 (by kernel_rfl) ?_
    refine H.seqP (by kernel_rfl) ?_
    refine H.sr 3 (by kernel_rfl) ?_
    refine H.blockI 2 (by kernel_rfl) ?_
    refine H.loopP (by kernel_rfl) ?_
    refine HL.round ?_
    refine H.sr 1 (by kernel_rfl) ?_
    refine H.seqP (by kernel_rfl) ?_
    refine H.condT (by kernel_rfl) (by kernel_rfl) ?_
    refine H.skipP (by kernel_rfl) ?_
    refine Kseq_norm ?_
    refine H.seqP (by kernel_rfl) ?_
    refine H.blockI 3 (by kernel_rfl) ?_
    refine H.sr 2 (by kernel_rfl) ?_
    refine H.regP (by kernel_rfl) ?_
    refine HO.goP 12 (by kernel_rfl) ?_
    refine HO.done (by kernel_rfl) ?_
    refine Kblock_norm ?_
    refine Kseq_norm ?_
    refine H.regP (by kernel_rfl) ?_
    refine HO.goP 2 (by kernel_rfl) ?_
    refine HO.done (by kernel_rfl) ?_
    refine Kloop_norm ?_
    refine HL.round ?_
    refine H.sr 1 (by kernel_rfl) ?_
    refine H.seqP (by kernel_rfl) ?_
    refine H.condT (by kernel_rfl) (by kernel_rfl) ?_
    refine H.skipP (by kernel_rfl) ?_
    refine Kseq_norm ?_
    refine H.seqP (by kernel_rfl) ?_
    refine H.blockI 3 (by kernel_rfl) ?_
    refine H.sr 2 (by kernel_rfl) ?_
    refine H.regP (by kernel_rfl) ?_
    refine HO.goP 12 (by kernel_rfl) ?_
    refine HO.done (by kernel_rfl) ?_
    refine Kblock_norm ?_
    refine Kseq_norm ?_
    refine H.regP (by kernel_rfl) ?_
    refine HO.goP 2 (by kernel_rfl) ?_
    refine HO.done (by kernel_rfl) ?_
    refine Kloop_norm ?_
    refine HL.round ?_
    refine H.sr 1 (by kernel_rfl) ?_
    refine H.seqP (by kernel_rfl) ?_
    refine H.condT (by kernel_rfl) (by kernel_rfl) ?_
    refine H.skipP (by kernel_rfl) ?_
    refine Kseq_norm ?_
    refine H.seqP (by kernel_rfl) ?_
    refine H.blockI 3 (by kernel_rfl) ?_
    refine H.sr 2 (by kernel_rfl) ?_
    refine H.regP (by kernel_rfl) ?_
    refine HO.goP 12 (by kernel_rfl) ?_
    refine HO.done (by kernel_rfl) ?_
    refine Kblock_norm ?_
    refine Kseq_norm ?_
    refine H.regP (by kernel_rfl) ?_
    refine HO.goP 2 (by kernel_rfl) ?_
    refine HO.done (by kernel_rfl) ?_
    refine Kloop_norm ?_
    refine HL.round ?_
    refine H.sr 1 (by kernel_rfl) ?_
    refine H.seqP (by kernel_rfl) ?_
    refine H.condF (by kernel_rfl) (by kernel_rfl) ?_
    refine H.exitI 2 (by kernel_rfl) ?_
    refine Kseq_exit ?_
    refine Kloop_exit ?_
    refine Kblock_hit ?_
    refine Kseq_norm ?_
    refine H.sr 2 (by kernel_rfl) ?_
    refine H.retP (by kernel_rfl) ?_
    obtain rfl := Option.some.inj h
    exact KEnd.of (v := .slice (some ⟨0, 0, none⟩) 3 3) (by kernel_rfl) (by kernel_rfl) (PEnd.frz 0 3 3 1 5 true ([(IntKind.u8.wrap (shrI .i64 x 16)), (IntKind.u8.wrap (shrI .i64 x 8)), (IntKind.u8.wrap (shrI .i64 x 0))].map (encI .u8)).toArray [.int .u8 (IntKind.u8.wrap (shrI .i64 x 16)), .int .u8 (IntKind.u8.wrap (shrI .i64 x 8)), .int .u8 (IntKind.u8.wrap (shrI .i64 x 0))] (by kernel_rfl) (PEnd.wk (v1 := ls 1 false (encI .u8) [(IntKind.u8.wrap (shrI .i64 x 16)), (IntKind.u8.wrap (shrI .i64 x 8)), (IntKind.u8.wrap (shrI .i64 x 0))]) (.list 1 false) (by kernel_rfl) (PEnd.fin (by kernel_rfl))))
  rw [if_pos hb] at h
  refine HO.fin 7 (by kernel_rfl) ?_
  refine H.condS (b := !decide ((shrI .i64 x 23) = (-1))) (by kernel_rfl) (by kernel_rfl) (fun hb => ?_) (fun hb => ?_)
  rotate_left
  · rw [if_neg (ne_true hb)] at h
    refine H.exitI 0 (by kernel_rfl) ?_
    refine Kseq_exit ?_
    refine Kloop_exit ?_
    refine Kblock_hit ?_
    refine Kseq_norm ?_
    refine H.sr 3 (by kernel_rfl) ?_
    refine H.seqP (by kernel_rfl) ?_
    refine H.sr 3 (by kernel_rfl) ?_
    refine H.blockI 2 (by kernel_rfl) ?_
    refine H.loopP (by kernel_rfl) ?_
    refine HL.round ?_
    refine H.sr 1 (by kernel_rfl) ?_
    refine H.seqP (by kernel_rfl) ?_
    refine H.condT (by kernel_rfl) (by kernel_rfl) ?_
    refine H.skipP (by kernel_rfl) ?_
    refine Kseq_norm ?_
    refine H.seqP (by kernel_rfl) ?_
    refine H.blockI 3 (by kernel_rfl) ?_
    refine H.sr 2 (by kernel_rfl) ?_
    refine H.regP (by kernel_rfl) ?_
    refine HO.goP 12 (by kernel_rfl) ?_
    refine HO.done (by kernel_rfl) ?_
    refine Kblock_norm ?_
    refine Kseq_norm ?_
    refine H.regP (by kernel_rfl) ?_
    refine HO.goP 2 (by kernel_rfl) ?_
    refine HO.done (by kernel_rfl) ?_
    refine Kloop_norm ?_
    refine HL.round ?_
    refine H.sr 1 (by kernel_rfl) ?_
    refine H.seqP (by kernel_rfl) ?_
    refine H.condT (by kernel_rfl) (by kernel_rfl) ?_
    refine H.skipP (by kernel_rfl) ?_
    refine Kseq_norm ?_
    refine H.seqP (by kernel_rfl) ?_
    refine H.blockI 3 (by kernel_rfl) ?_
    refine H.sr 2 (by kernel_rfl) ?_
    refine H.regP (by kernel_rfl) ?_
    refine HO.goP 12 (by kernel_rfl) ?_
    refine HO.done (by kernel_rfl) ?_
    refine Kblock_norm ?_
    refine Kseq_norm ?_
    refine H.regP (by kernel_rfl) ?_
    refine HO.goP 2 (by kernel_rfl) ?_
    refine HO.done (by kernel_rfl) ?_
    refine Kloop_norm ?_
    refine HL.round ?_
    refine H.sr 1 (by kernel_rfl) ?_
    refine H.seqP (by kernel_rfl) ?_
    refine H.condT (by kernel_rfl) (by kernel_rfl) ?_
    refine H.skipP (by kernel_rfl) ?_
    refine Kseq_norm ?_
    refine H.seqP (by kernel_rfl) ?_
    refine H.blockI 3 (by kernel_rfl) ?_
    refine H.sr 2 (by kernel_rfl) ?_
    refine H.regP (by kernel_rfl) ?_
    refine HO.goP 12 (by kernel_rfl) ?_
    refine HO.done (by kernel_rfl) ?_
    refine Kblock_norm ?_
    refine Kseq_norm ?_
    refine H.regP (by kernel_rfl) ?_
    refine HO.goP 2 (by kernel_rfl) ?_
    refine HO.done (by kernel_rfl) ?_
    refine Kloop_norm ?_
    refine HL.round ?_
    refine H.sr 1 (by kernel_rfl) ?_
    refine H.seqP (by kernel_rfl) ?_
    refine H.condF (by kernel_rfl) (by kernel_rfl) ?_
    refine H.exitI 2 (by kernel_rfl) ?_
    refine Kseq_exit ?_
    refine Kloop_exit ?_
    refine Kblock_hit ?_
    refine Kseq_norm ?_
    refine H.sr 2 (by kernel_rfl) ?_
    refine H.retP (by kernel_rfl) ?_
    obtain rfl := Option.some.inj h
    exact KEnd.of (v := .slice (some ⟨0, 0, none⟩) 3 3) (by kernel_rfl) (by kernel_rfl) (PEnd.frz 0 3 3 1 5 true ([(IntKind.u8.wrap (shrI .i64 x 16)), (IntKind.u8.wrap (shrI .i64 x 8)), (IntKind.u8.wrap (shrI .i64 x 0))].map (encI .u8)).toArray [.int .u8 (IntKind.u8.wrap (shrI .i64 x 16)), .int .u8 (IntKind.u8.wrap (shrI .i64 x 8)), .int .u8 (IntKind.u8.wrap (shrI .i64 x 0))] (by kernel_rfl) (PEnd.wk (v1 := ls 1 false (encI .u8) [(IntKind.u8.wrap (shrI .i64 x 16)), (IntKind.u8.wrap (shrI .i64 x 8)), (IntKind.u8.wrap (shrI .i64 x 0))]) (.list 1 false) (by kernel_rfl) (PEnd.fin (by kernel_rfl))))
  rw [if_pos hb] at h
  refine H.skipP (by kernel_rfl) ?_
  refine Kseq_norm ?_
  refine H.blockI 1 (by kernel_rfl) ?_
  refine H.regP (by kernel_rfl) ?_
  refine HO.goP 3 (by kernel_rfl) ?_
  refine HO.done (by kernel_rfl) ?_
  refine Kblock_norm ?_
  refine Kloop_norm ?_
  refine HL.round ?_
  refine H.seqP (by kernel_rfl) ?_
  refine H.sg (by kernel_rfl) ?_
  refine HO.goP 10 (by kernel_rfl) ?_
  refine HO.boolP (!decide ((shrI .i64 x 31) = 0)) (by kernel_rfl) (by kernel_rfl) (fun hb => ?_) (fun hb => ?_)
  rotate_left
  · rw [if_neg (ne_true hb)] at h
    refine HO.fin 7 (by kernel_rfl) ?_
    refine H.condF (by kernel_rfl) (by kernel_rfl) ?_
    refine H.exitI 0 (by kernel_rfl) ?_
    refine Kseq_exit ?_
    refine Kloop_exit ?_
    refine Kblock_hit ?_
    refine Kseq_norm ?_
    refine H.sr 3 (by kernel_rfl) ?_
    refine H.seqP (by kernel_rfl) ?_
    refine H.sr 3 (by kernel_rfl) ?_
    refine H.blockI 2 (by kernel_rfl) ?_
    refine H.loopP (by kernel_rfl) ?_
    refine HL.round ?_
    refine H.sr 1 (by kernel_rfl) ?_
    refine H.seqP (by kernel_rfl) ?_
    refine H.condT (by kernel_rfl) (by kernel_rfl) ?_
    refine H.skipP (by kernel_rfl) ?_
    refine Kseq_norm ?_
    refine H.seqP (by kernel_rfl) ?_
    refine H.blockI 3 (by kernel_rfl) ?_
    refine H.sr 2 (by kernel_rfl) ?_
    refine H.regP (by kernel_rfl) ?_
    refine HO.goP 12 (by kernel_rfl) ?_
    refine HO.done (by kernel_rfl) ?_
    refine Kblock_norm ?_
    refine Kseq_norm ?_
    refine H.regP (by kernel_rfl) ?_
    refine HO.goP 2 (by kernel_rfl) ?_
    refine HO.done (by kernel_rfl) ?_
    refine Kloop_norm ?_
    refine HL.round ?_
    refine H.sr 1 (by kernel_rfl) ?_
    refine H.seqP (by kernel_rfl) ?_
    refine H.condT (by kernel_rfl) (by kernel_rfl) ?_
    refine H.skipP (by kernel_rfl) ?_
    refine Kseq_norm ?_
    refine H.seqP (by kernel_rfl) ?_
    refine H.blockI 3 (by kernel_rfl) ?_
    refine H.sr 2 (by kernel_rfl) ?_
    refine H.regP (by kernel_rfl) ?_
    refine HO.goP 12 (by kernel_rfl) ?_
    refine HO.done (by kernel_rfl) ?_
    refine Kblock_norm ?_
    refine Kseq_norm ?_
    refine H.regP (by kernel_rfl) ?_
    refine HO.goP 2 (by kernel_rfl) ?_
    refine HO.done (by kernel_rfl) ?_
    refine Kloop_norm ?_
    refine HL.round ?_
    refine H.sr 1 (by kernel_rfl) ?_
    refine H.seqP (by kernel_rfl) ?_
    refine H.condT (by kernel_rfl) (by kernel_rfl) ?_
    refine H.skipP (by kernel_rfl) ?_
    refine Kseq_norm ?_
    refine H.seqP (by kernel_rfl) ?_
    refine H.blockI 3 (by kernel_rfl) ?_
    refine H.sr 2 (by kernel_rfl) ?_
    refine H.regP (by kernel_rfl) ?_
    refine HO.goP 12 (by kernel_rfl) ?_
    refine HO.done (by kernel_rfl) ?_
    refine Kblock_norm ?_
    refine Kseq_norm ?_
    refine H.regP (by kernel_rfl) ?_
    refine HO.goP 2 (by kernel_rfl) ?_
    refine HO.done (by kernel_rfl) ?_
    refine Kloop_norm ?_
    refine HL.round ?_
    refine H.sr 1 (by kernel_rfl) ?_
    refine H.seqP (by kernel_rfl) ?_
    refine H.condT (by kernel_rfl) (by kernel_rfl) ?_
    refine H.skipP (by kernel_rfl) ?_
    refine Kseq_norm ?_
    refine H.seqP (by kernel_rfl) ?_
    refine H.blockI 3 (by kernel_rfl) ?_
    refine H.sr 2 (by kernel_rfl) ?_
    refine H.regP (by kernel_rfl) ?_
    refine HO.goP 12 (by kernel_rfl) ?_
    refine HO.done (by kernel_rfl) ?_
    refine Kblock_norm ?_
    refine Kseq_norm ?_
    refine H.regP (by kernel_rfl) ?_
    refine HO.goP 2 (by kernel_rfl) ?_
    refine HO.done (by kernel_rfl) ?_
    refine Kloop_norm ?_
    refine HL.round ?_
    refine H.sr 1 (by kernel_rfl) ?_
    refine H.seqP (by kernel_rfl) ?_
    refine H.condF (by kernel_rfl) (by kernel_rfl) ?_
    refine H.exitI 2 (by kernel_rfl) ?_
    refine Kseq_exit ?_
    refine Kloop_exit ?_
    refine Kblock_hit ?_
    refine Kseq_norm ?_
    refine H.sr 2 (by kernel_rfl) ?_
    refine H.retP (by kernel_rfl) ?_
    obtain rfl := Option.some.inj h
    exact KEnd.of (v := .slice (some ⟨0, 0, none⟩) 4 4) (by kernel_rfl) (by kernel_rfl) (PEnd.frz 0 4 4 1 5 true ([(IntKind.u8.wrap (shrI .i64 x 24)), (IntKind.u8.wrap (shrI .i64 x 16)), (IntKind.u8.wrap (shrI .i64 x 8)), (IntKind.u8.wrap (shrI .i64 x 0))].map (encI .u8)).toArray [.int .u8 (IntKind.u8.wrap (shrI .i64 x 24)), .int .u8 (IntKind.u8.wrap (shrI .i64 x 16)), .int .u8 (IntKind.u8.wrap (shrI .i64 x 8)), .int .u8 (IntKind.u8.wrap (shrI .i64 x 0))] (by kernel_rfl) (PEnd.wk (v1 := ls 1 false (encI .u8) [(IntKind.u8.wrap (shrI .i64 x 24)), (IntKind.u8.wrap (shrI .i64 x 16)), (IntKind.u8.wrap (shrI .i64 x 8)), (IntKind.u8.wrap (shrI .i64 x 0))]) (.list 1 false) (by kernel_rfl) (PEnd.fin (by kernel_rfl))))
  rw [if_pos hb] at h
  refine HO.fin 7 (by kernel_rfl) ?_
  refine H.condS (b := !decide ((shrI .i64 x 31) = (-1))) (by kernel_rfl) (by kernel_rfl) (fun hb => ?_) (fun hb => ?_)
  rotate_left
  · rw [if_neg (ne_true hb)] at h
    refine H.exitI 0 (by kernel_rfl) ?_
    refine Kseq_exit ?_
    refine Kloop_exit ?_
    refine Kblock_hit ?_
    refine Kseq_norm ?_
    refine H.sr 3 (by kernel_rfl) ?_
    refine H.seqP (by kernel_rfl) ?_
    refine H.sr 3 (by kernel_rfl) ?_
    refine H.blockI 2 (by kernel_rfl) ?_
    refine H.loopP (by kernel_rfl) ?_
    refine HL.round ?_
    refine H.sr 1 (by kernel_rfl) ?_
    refine H.seqP (by kernel_rfl) ?_
    refine H.condT (by kernel_rfl) (by kernel_rfl) ?_
    refine H.skipP (by kernel_rfl) ?_
    refine Kseq_norm ?_
    refine H.seqP (by kernel_rfl) ?_
    refine H.blockI 3 (by kernel_rfl) ?_
    refine H.sr 2 (by kernel_rfl) ?_
    refine H.regP (by kernel_rfl) ?_
    refine HO.goP 12 (by kernel_rfl) ?_
    refine HO.done (by kernel_rfl) ?_
    refine Kblock_norm ?_
    refine Kseq_norm ?_
    refine H.regP (by kernel_rfl) ?_
    refine HO.goP 2 (by kernel_rfl) ?_
    refine HO.done (by kernel_rfl) ?_
    refine Kloop_norm ?_
    refine HL.round ?_
    refine H.sr 1 (by kernel_rfl) ?_
    refine H.seqP (by kernel_rfl) ?_
    refine H.condT (by kernel_rfl) (by kernel_rfl) ?_
    refine H.skipP (by kernel_rfl) ?_
    refine Kseq_norm ?_
    refine H.seqP (by kernel_rfl) ?_
    refine H.blockI 3 (by kernel_rfl) ?_
    refine H.sr 2 (by kernel_rfl) ?_
    refine H.regP (by kernel_rfl) ?_
    refine HO.goP 12 (by kernel_rfl) ?_
    refine HO.done (by kernel_rfl) ?_
    refine Kblock_norm ?_
    refine Kseq_norm ?_
    refine H.regP (by kernel_rfl) ?_
    refine HO.goP 2 (by kernel_rfl) ?_
    refine HO.done (by kernel_rfl) ?_
    refine Kloop_norm ?_
    refine HL.round ?_
    refine H.sr 1 (by kernel_rfl) ?_
    refine H.seqP (by kernel_rfl) ?_
    refine H.condT (by kernel_rfl) (by kernel_rfl) ?_
    refine H.skipP (by kernel_rfl) ?_
    refine Kseq_norm ?_
    refine H.seqP (by kernel_rfl) ?_
    refine H.blockI 3 (by kernel_rfl) ?_
    refine H.sr 2 (by kernel_rfl) ?_
    refine H.regP (by kernel_rfl) ?_
    refine HO.goP 12 (by kernel_rfl) ?_
    refine HO.done (by kernel_rfl) ?_
    refine Kblock_norm ?_
    refine Kseq_norm ?_
    refine H.regP (by kernel_rfl) ?_
    refine HO.goP 2 (by kernel_rfl) ?_
    refine HO.done (by kernel_rfl) ?_
    refine Kloop_norm ?_
    refine HL.round ?_
    refine H.sr 1 (by kernel_rfl) ?_
    refine H.seqP (by kernel_rfl) ?_
    refine H.condT (by kernel_rfl) (by kernel_rfl) ?_
    refine H.skipP (by kernel_rfl) ?_
    refine Kseq_norm ?_
    refine H.seqP (by kernel_rfl) ?_
    refine H.blockI 3 (by kernel_rfl) ?_
    refine H.sr 2 (by kernel_rfl) ?_
    refine H.regP (by kernel_rfl) ?_
    refine HO.goP 12 (by kernel_rfl) ?_
    refine HO.done (by kernel_rfl) ?_
    refine Kblock_norm ?_
    refine Kseq_norm ?_
    refine H.regP (by kernel_rfl) ?_
    refine HO.goP 2 (by kernel_rfl) ?_
    refine HO.done (by kernel_rfl) ?_
    refine Kloop_norm ?_
    refine HL.round ?_
    refine H.sr 1 (by kernel_rfl) ?_
    refine H.seqP (by kernel_rfl) ?_
    refine H.condF (by kernel_rfl) (by kernel_rfl) ?_
    refine H.exitI 2 (by kernel_rfl) ?_
    refine Kseq_exit ?_
    refine Kloop_exit ?_
    refine Kblock_hit ?_
    refine Kseq_norm ?_
    refine H.sr 2 (by kernel_rfl) ?_
    refine H.retP (by kernel_rfl) ?_
    obtain rfl := Option.some.inj h
    exact KEnd.of (v := .slice (some ⟨0, 0, none⟩) 4 4) (by kernel_rfl) (by kernel_rfl) (PEnd.frz 0 4 4 1 5 true ([(IntKind.u8.wrap (shrI .i64 x 24)), (IntKind.u8.wrap (shrI .i64 x 16)), (IntKind.u8.wrap (shrI .i64 x 8)), (IntKind.u8.wrap (shrI .i64 x 0))].map (encI .u8)).toArray [.int .u8 (IntKind.u8.wrap (shrI .i64 x 24)), .int .u8 (IntKind.u8.wrap (shrI .i64 x 16)), .int .u8 (IntKind.u8.wrap (shrI .i64 x 8)), .int .u8 (IntKind.u8.wrap (shrI .i64 x 0))] (by kernel_rfl) (PEnd.wk (v1 := ls 1 false (encI .u8) [(IntKind.u8.wrap (shrI .i64 x 24)), (IntKind.u8.wrap (shrI .i64 x 16)), (IntKind.u8.wrap (shrI .i64 x 8)), (IntKind.u8.wrap (shrI .i64 x 0))]) (.list 1 false) (by kernel_rfl) (PEnd.fin (by kernel_rfl))))
  rw [if_pos hb] at h
  refine H.skipP (by kernel_rfl) ?_
  refine Kseq_norm ?_
  refine H.blockI 1 (by kernel_rfl) ?_
  refine H.regP (by kernel_rfl) ?_
  refine HO.goP 3 (by kernel_rfl) ?_
  refine HO.done (by kernel_rfl) ?_
  refine Kblock_norm ?_
  refine Kloop_norm ?_
  refine HL.round ?_
  refine H.seqP (by kernel_rfl) ?_
  refine H.sg (by kernel_rfl) ?_
  refine HO.goP 10 (by kernel_rfl) ?_
  refine HO.boolP (!decide ((shrI .i64 x 39) = 0)) (by kernel_rfl) (by kernel_rfl) (fun hb => ?_) (fun hb => ?_)
  rotate_left
  · rw [if_neg (ne_true hb)] at h
    refine HO.fin 7 (by kernel_rfl) ?_
    refine H.condF (by kernel_rfl) (by kernel_rfl) ?_
    refine H.exitI 0 (by kernel_rfl) ?_
    refine Kseq_exit ?_
    refine Kloop_exit ?_
    refine Kblock_hit ?_
    refine Kseq_norm ?_
    refine H.sr 3 (by kernel_rfl) ?_
    refine H.seqP (by kernel_rfl) ?_
    refine H.sr 3 (by kernel_rfl) ?_
    refine H.blockI 2 (by kernel_rfl) ?_
    refine H.loopP (by kernel_rfl) ?_
    refine HL.round ?_
    refine H.sr 1 (by kernel_rfl) ?_
    refine H.seqP (by kernel_rfl) ?_
    refine H.condT (by kernel_rfl) (by kernel_rfl) ?_
    refine H.skipP (by kernel_rfl) ?_
    refine Kseq_norm ?_
    refine H.seqP (by kernel_rfl) ?_
    refine H.blockI 3 (by kernel_rfl) ?_
    refine H.sr 2 (by kernel_rfl) ?_
    refine H.regP (by kernel_rfl) ?_
    refine HO.goP 12 (by kernel_rfl) ?_
    refine HO.done (by kernel_rfl) ?_
    refine Kblock_norm ?_
    refine Kseq_norm ?_
    refine H.regP (by kernel_rfl) ?_
    refine HO.goP 2 (by kernel_rfl) ?_
    refine HO.done (by kernel_rfl) ?_
    refine Kloop_norm ?_
    refine HL.round ?_
    refine H.sr 1 (by kernel_rfl) ?_
    refine H.seqP (by kernel_rfl) ?_
    refine H.condT (by kernel_rfl) (by kernel_rfl) ?_
    refine H.skipP (by kernel_rfl) ?_
    refine Kseq_norm ?_
    refine H.seqP (by kernel_rfl) ?_
    refine H.blockI 3 (by kernel_rfl) ?_
    refine H.sr 2 (by kernel_rfl) ?_
    refine H.regP (by kernel_rfl) ?_
    refine HO.goP 12 (by kernel_rfl) ?_
    refine HO.done (by kernel_rfl) ?_
    refine Kblock_norm ?_
    refine Kseq_norm ?_
    refine H.regP (by kernel_rfl) ?_
    refine HO.goP 2 (by kernel_rfl) ?_
    refine HO.done (by kernel_rfl) ?_
    refine Kloop_norm ?_
    refine HL.round ?_
    refine H.sr 1 (by kernel_rfl) ?_
    refine H.seqP (by kernel_rfl) ?_
    refine H.condT (by kernel_rfl) (by kernel_rfl) ?_
    refine H.skipP (by kernel_rfl) ?_
    refine Kseq_norm ?_
    refine H.seqP (by kernel_rfl) ?_
    refine H.blockI 3 (by kernel_rfl) ?_
    refine H.sr 2 (by kernel_rfl) ?_
    refine H.regP (by kernel_rfl) ?_
    refine HO.goP 12 (by kernel_rfl) ?_
    refine HO.done (by kernel_rfl) ?_
    refine Kblock_norm ?_
    refine Kseq_norm ?_
    refine H.regP (by kernel_rfl) ?_
    refine HO.goP 2 (by kernel_rfl) ?_
    refine HO.done (by kernel_rfl) ?_
    refine Kloop_norm ?_
    refine HL.round ?_
    refine H.sr 1 (by kernel_rfl) ?_
    refine H.seqP (by kernel_rfl) ?_
    refine H.condT (by kernel_rfl) (by kernel_rfl) ?_
    refine H.skipP (by kernel_rfl) ?_
    refine Kseq_norm ?_
    refine H.seqP (by kernel_rfl) ?_
    refine H.blockI 3 (by kernel_rfl) ?_
    refine H.sr 2 (by kernel_rfl) ?_
    refine H.regP (by kernel_rfl) ?_
    refine HO.goP 12 (by kernel_rfl) ?_
    refine HO.done (by kernel_rfl) ?_
    refine Kblock_norm ?_
    refine Kseq_norm ?_
    refine H.regP (by kernel_rfl) ?_
    refine HO.goP 2 (by kernel_rfl) ?_
    refine HO.done (by kernel_rfl) ?_
    refine Kloop_norm ?_
    refine HL.round ?_
    refine H.sr 1 (by kernel_rfl) ?_
    refine H.seqP (by kernel_rfl) ?_
    refine H.condT (by kernel_rfl) (by kernel_rfl) ?_
    refine H.skipP (by kernel_rfl) ?_
    refine Kseq_norm ?_
    refine H.seqP (by kernel_rfl) ?_
    refine H.blockI 3 (by kernel_rfl) ?_
    refine H.sr 2 (by kernel_rfl) ?_
    refine H.regP (by kernel_rfl) ?_
    refine HO.goP 12 (by kernel_rfl) ?_
    refine HO.done (by kernel_rfl) ?_
    refine Kblock_norm ?_
    refine Kseq_norm ?_
    refine H.regP (by kernel_rfl) ?_
    refine HO.goP 2 (by kernel_rfl) ?_
    refine HO.done (by kernel_rfl) ?_
    refine Kloop_norm ?_
    refine HL.round ?_
    refine H.sr 1 (by kernel_rfl) ?_
    refine H.seqP (by kernel_rfl) ?_
    refine H.condF (by kernel_rfl) (by kernel_rfl) ?_
    refine H.exitI 2 (by kernel_rfl) ?_
    refine Kseq_exit ?_
    refine Kloop_exit ?_
    refine Kblock_hit ?_
    refine Kseq_norm ?_
    refine H.sr 2 (by kernel_rfl) ?_
    refine H.retP (by kernel_rfl) ?_
    obtain rfl := Option.some.inj h
    exact KEnd.of (v := .slice (some ⟨0, 0, none⟩) 5 5) (by kernel_rfl) (by kernel_rfl) (PEnd.frz 0 5 5 1 5 true ([(IntKind.u8.wrap (shrI .i64 x 32)), (IntKind.u8.wrap (shrI .i64 x 24)), (IntKind.u8.wrap (shrI .i64 x 16)), (IntKind.u8.wrap (shrI .i64 x 8)), (IntKind.u8.wrap (shrI .i64 x 0))].map (encI .u8)).toArray [.int .u8 (IntKind.u8.wrap (shrI .i64 x 32)), .int .u8 (IntKind.u8.wrap (shrI .i64 x 24)), .int .u8 (IntKind.u8.wrap (shrI .i64 x 16)), .int .u8 (IntKind.u8.wrap (shrI .i64 x 8)), .int .u8 (IntKind.u8.wrap (shrI .i64 x 0))] (by kernel_rfl) (PEnd.wk (v1 := ls 1 false (encI .u8) [(IntKind.u8.wrap (shrI .i64 x 32)), (IntKind.u8.wrap (shrI .i64 x 24)), (IntKind.u8.wrap (shrI .i64 x 16)), (IntKind.u8.wrap (shrI .i64 x 8)), (IntKind.u8.wrap (shrI .i64 x 0))]) (.list 1 false) (by kernel_rfl) (PEnd.fin (by kernel_rfl))))
  rw [if_pos hb] at h
  refine HO.fin 7 (by kernel_rfl) ?_
  refine H.condS (b := !decide ((shrI .i64 x 39) = (-1))) (by kernel_rfl) (by kernel_rfl) (fun hb => ?_) (fun hb => ?_)
  rotate_left
  · rw [if_neg (ne_true hb)] at h
    refine H.exitI 0 (by kernel_rfl) ?_
    refine Kseq_exit ?_
    refine Kloop_exit ?_
    refine Kblock_hit ?_
    refine Kseq_norm ?_
    refine H.sr 3 (by kernel_rfl) ?_
    refine H.seqP (by kernel_rfl) ?_
    refine H.sr 3 (by kernel_rfl) ?_
    refine H.blockI 2 (by kernel_rfl) ?_
    refine H.loopP (by kernel_rfl) ?_
    refine HL.round ?_
    refine H.sr 1 (by kernel_rfl) ?_
    refine H.seqP (by kernel_rfl) ?_
    refine H.condT (by kernel_rfl) (by kernel_rfl) ?_
    refine H.skipP (by kernel_rfl) ?_
    refine Kseq_norm ?_
    refine H.seqP (by kernel_rfl) ?_
    refine H.blockI 3 (by kernel_rfl) ?_
    refine H.sr 2 (by kernel_rfl) ?_
    refine H.regP (by kernel_rfl) ?_
    refine HO.goP 12 (by kernel_rfl) ?_
    refine HO.done (by kernel_rfl) ?_
    refine Kblock_norm ?_
    refine Kseq_norm ?_
    refine H.regP (by kernel_rfl) ?_
    refine HO.goP 2 (by kernel_rfl) ?_
    refine HO.done (by kernel_rfl) ?_
    refine Kloop_norm ?_
    refine HL.round ?_
    refine H.sr 1 (by kernel_rfl) ?_
    refine H.seqP (by kernel_rfl) ?_
    refine H.condT (by kernel_rfl) (by kernel_rfl) ?_
    refine H.skipP (by kernel_rfl) ?_
    refine Kseq_norm ?_
    refine H.seqP (by kernel_rfl) ?_
    refine H.blockI 3 (by kernel_rfl) ?_
    refine H.sr 2 (by kernel_rfl) ?_
    refine H.regP (by kernel_rfl) ?_
    refine HO.goP 12 (by kernel_rfl) ?_
    refine HO.done (by kernel_rfl) ?_
    refine Kblock_norm ?_
    refine Kseq_norm ?_
    refine H.regP (by kernel_rfl) ?_
    refine HO.goP 2 (by kernel_rfl) ?_
    refine HO.done (by kernel_rfl) ?_
    refine Kloop_norm ?_
    refine HL.round ?_
    refine H.sr 1 (by kernel_rfl) ?_
    refine H.seqP (by kernel_rfl) ?_
    refine H.condT (by kernel_rfl) (by kernel_rfl) ?_
    refine H.skipP (by kernel_rfl) ?_
    refine Kseq_norm ?_
    refine H.seqP (by kernel_rfl) ?_
    refine H.blockI 3 (by kernel_rfl) ?_
    refine H.sr 2 (by kernel_rfl) ?_
    refine H.regP (by kernel_rfl) ?_
    refine HO.goP 12 (by kernel_rfl) ?_
    refine HO.done (by kernel_rfl) ?_
    refine Kblock_norm ?_
    refine Kseq_norm ?_
    refine H.regP (by kernel_rfl) ?_
    refine HO.goP 2 (by kernel_rfl) ?_
    refine HO.done (by kernel_rfl) ?_
    refine Kloop_norm ?_
    refine HL.round ?_
    refine H.sr 1 (by kernel_rfl) ?_
    refine H.seqP (by kernel_rfl) ?_
    refine H.condT (by kernel_rfl) (by kernel_rfl) ?_
    refine H.skipP (by kernel_rfl) ?_
    refine Kseq_norm ?_
    refine H.seqP (by kernel_rfl) ?_
    refine H.blockI 3 (by kernel_rfl) ?_
    refine H.sr 2 (by kernel_rfl) ?_
    refine H.regP (by kernel_rfl) ?_
    refine HO.goP 12 (by kernel_rfl) ?_
    refine HO.done (by kernel_rfl) ?_
    refine Kblock_norm ?_
    refine Kseq_norm ?_
    refine H.regP (by kernel_rfl) ?_
    refine HO.goP 2 (by kernel_rfl) ?_
    refine HO.done (by kernel_rfl) ?_
    refine Kloop_norm ?_
    refine HL.round ?_
    refine H.sr 1 (by kernel_rfl) ?_
    refine H.seqP (by kernel_rfl) ?_
    refine H.condT (by kernel_rfl) (by kernel_rfl) ?_
    refine H.skipP (by kernel_rfl) ?_
    refine Kseq_norm ?_
    refine H.seqP (by kernel_rfl) ?_
    refine H.blockI 3 (by kernel_rfl) ?_
    refine H.sr 2 (by kernel_rfl) ?_
    refine H.regP (by kernel_rfl) ?_
    refine HO.goP 12 (by kernel_rfl) ?_
    refine HO.done (by kernel_rfl) ?_
    refine Kblock_norm ?_
    refine Kseq_norm ?_
    refine H.regP (by kernel_rfl) ?_
    refine HO.goP 2 (by kernel_rfl) ?_
    refine HO.done (by kernel_rfl) ?_
    refine Kloop_norm ?_
    refine HL.round ?_
    refine H.sr 1 (by kernel_rfl) ?_
    refine H.seqP (by kernel_rfl) ?_
    refine H.condF (by kernel_rfl) (by kernel_rfl) ?_
    refine H.exitI 2 (by kernel_rfl) ?_
    refine Kseq_exit ?_
    refine Kloop_exit ?_
    refine Kblock_hit ?_
    refine Kseq_norm ?_
    refine H.sr 2 (by kernel_rfl) ?_
    refine H.retP (by kernel_rfl) ?_
    obtain rfl := Option.some.inj h
    exact KEnd.of (v := .slice (some ⟨0, 0, none⟩) 5 5) (by kernel_rfl) (by kernel_rfl) (PEnd.frz 0 5 5 1 5 true ([(IntKind.u8.wrap (shrI .i64 x 32)), (IntKind.u8.wrap (shrI .i64 x 24)), (IntKind.u8.wrap (shrI .i64 x 16)), (IntKind.u8.wrap (shrI .i64 x 8)), (IntKind.u8.wrap (shrI .i64 x 0))].map (encI .u8)).toArray [.int .u8 (IntKind.u8.wrap (shrI .i64 x 32)), .int .u8 (IntKind.u8.wrap (shrI .i64 x 24)), .int .u8 (IntKind.u8.wrap (shrI .i64 x 16)), .int .u8 (IntKind.u8.wrap (shrI .i64 x 8)), .int .u8 (IntKind.u8.wrap (shrI .i64 x 0))] (by kernel_rfl) (PEnd.wk (v1 := ls 1 false (encI .u8) [(IntKind.u8.wrap (shrI .i64 x 32)), (IntKind.u8.wrap (shrI .i64 x 24)), (IntKind.u8.wrap (shrI .i64 x 16)), (IntKind.u8.wrap (shrI .i64 x 8)), (IntKind.u8.wrap (shrI .i64 x 0))]) (.list 1 false) (by kernel_rfl) (PEnd.fin (by kernel_rfl))))
  rw [if_pos hb] at h
  refine H.skipP (by kernel_rfl) ?_
  refine Kseq_norm ?_
  refine H.blockI 1 (by kernel_rfl) ?_
  refine H.regP (by kernel_rfl) ?_
  refine HO.goP 3 (by kernel_rfl) ?_
  refine HO.done (by kernel_rfl) ?_
  refine Kblock_norm ?_
  refine Kloop_norm ?_
  refine HL.round ?_
  refine H.seqP (by kernel_rfl) ?_
  refine H.sg (by kernel_rfl) ?_
  refine HO.goP 10 (by kernel_rfl) ?_
  refine HO.boolP (!decide ((shrI .i64 x 47) = 0)) (by kernel_rfl) (by kernel_rfl) (fun hb => ?_) (fun hb => ?_)
  rotate_left
  · rw [if_neg (ne_true hb)] at h
    refine HO.fin 7 (by kernel_rfl) ?_
    refine H.condF (by kernel_rfl) (by kernel_rfl) ?_
    refine H.exitI 0 (by kernel_rfl) ?_
    refine Kseq_exit ?_
    refine Kloop_exit ?_
    refine Kblock_hit ?_
    refine Kseq_norm ?_
    refine H.sr 3 (by kernel_rfl) ?_
    refine H.seqP (by kernel_rfl) ?_
    refine H.sr 3 (by kernel_rfl) ?_
    refine H.blockI 2 (by kernel_rfl) ?_
    refine H.loopP (by kernel_rfl) ?_
    refine HL.round ?_
    refine H.sr 1 (by kernel_rfl) ?_
    refine H.seqP (by kernel_rfl) ?_
    refine H.condT (by kernel_rfl) (by kernel_rfl) ?_
    refine H.skipP (by kernel_rfl) ?_
    refine Kseq_norm ?_
    refine H.seqP (by kernel_rfl) ?_
    refine H.blockI 3 (by kernel_rfl) ?_
    refine H.sr 2 (by kernel_rfl) ?_
    refine H.regP (by kernel_rfl) ?_
    refine HO.goP 12 (by kernel_rfl) ?_
    refine HO.done (by kernel_rfl) ?_
    refine Kblock_norm ?_
    refine Kseq_norm ?_
    refine H.regP (by kernel_rfl) ?_
    refine HO.goP 2 (by kernel_rfl) ?_
    refine HO.done (by kernel_rfl) ?_
    refine Kloop_norm ?_
    refine HL.round ?_
    refine H.sr 1 (by kernel_rfl) ?_
    refine H.seqP (by kernel_rfl) ?_
    refine H.condT (by kernel_rfl) (by kernel_rfl) ?_
    refine H.skipP (by kernel_rfl) ?_
    refine Kseq_norm ?_
    refine H.seqP (by kernel_rfl) ?_
    refine H.blockI 3 (by kernel_rfl) ?_
    refine H.sr 2 (by kernel_rfl) ?_
    refine H.regP (by kernel_rfl) ?_
    refine HO.goP 12 (by kernel_rfl) ?_
    refine HO.done (by kernel_rfl) ?_
    refine Kblock_norm ?_
    refine Kseq_norm ?_
    refine H.regP (by kernel_rfl) ?_
    refine HO.goP 2 (by kernel_rfl) ?_
    refine HO.done (by kernel_rfl) ?_
    refine Kloop_norm ?_
    refine HL.round ?_
    refine H.sr 1 (by kernel_rfl) ?_
    refine H.seqP (by kernel_rfl) ?_
    refine H.condT (by kernel_rfl) (by kernel_rfl) ?_
    refine H.skipP (by kernel_rfl) ?_
    refine Kseq_norm ?_
    refine H.seqP (by kernel_rfl) ?_
    refine H.blockI 3 (by kernel_rfl) ?_
    refine H.sr 2 (by kernel_rfl) ?_
    refine H.regP (by kernel_rfl) ?_
    refine HO.goP 12 (by kernel_rfl) ?_
    refine HO.done (by kernel_rfl) ?_
    refine Kblock_norm ?_
    refine Kseq_norm ?_
    refine H.regP (by kernel_rfl) ?_
    refine HO.goP 2 (by kernel_rfl) ?_
    refine HO.done (by kernel_rfl) ?_
    refine Kloop_norm ?_
    refine HL.round ?_
    refine H.sr 1 (by kernel_rfl) ?_
    refine H.seqP (by kernel_rfl) ?_
    refine H.condT (by kernel_rfl) (by kernel_rfl) ?_
    refine H.skipP (by kernel_rfl) ?_
    refine Kseq_norm ?_
    refine H.seqP (by kernel_rfl) ?_
    refine H.blockI 3 (by kernel_rfl) ?_
    refine H.sr 2 (by kernel_rfl) ?_
    refine H.regP (by kernel_rfl) ?_
    refine HO.goP 12 (by kernel_rfl) ?_
    refine HO.done (by kernel_rfl) ?_
    refine Kblock_norm ?_
    refine Kseq_norm ?_
    refine H.regP (by kernel_rfl) ?_
    refine HO.goP 2 (by kernel_rfl) ?_
    refine HO.done (by kernel_rfl) ?_
    refine Kloop_norm ?_
    refine HL.round ?_
    refine H.sr 1 (by kernel_rfl) ?_
    refine H.seqP (by kernel_rfl) ?_
    refine H.condT (by kernel_rfl) (by kernel_rfl) ?_
    refine H.skipP (by kernel_rfl) ?_
    refine Kseq_norm ?_
    refine H.seqP (by kernel_rfl) ?_
    refine H.blockI 3 (by kernel_rfl) ?_
    refine H.sr 2 (by kernel_rfl) ?_
    refine H.regP (by kernel_rfl) ?_
    refine HO.goP 12 (by kernel_rfl) ?_
    refine HO.done (by kernel_rfl) ?_
    refine Kblock_norm ?_
    refine Kseq_norm ?_
    refine H.regP (by kernel_rfl) ?_
    refine HO.goP 2 (by kernel_rfl) ?_
    refine HO.done (by kernel_rfl) ?_
    refine Kloop_norm ?_
    refine HL.round ?_
    refine H.sr 1 (by kernel_rfl) ?_
    refine H.seqP (by kernel_rfl) ?_
    refine H.condT (by kernel_rfl) (by kernel_rfl) ?_
    refine H.skipP (by kernel_rfl) ?_
    refine Kseq_norm ?_
    refine H.seqP (by kernel_rfl) ?_
    refine H.blockI 3 (by kernel_rfl) ?_
    refine H.sr 2 (by kernel_rfl) ?_
    refine H.regP (by kernel_rfl) ?_
    refine HO.goP 12 (by kernel_rfl) ?_
    refine HO.done (by kernel_rfl) ?_
    refine Kblock_norm ?_
    refine Kseq_norm ?_
    refine H.regP (by kernel_rfl) ?_
    refine HO.goP 2 (by kernel_rfl) ?_
    refine HO.done (by kernel_rfl) ?_
    refine Kloop_norm ?_
    refine HL.round ?_
    refine H.sr 1 (by kernel_rfl) ?_
    refine H.seqP (by kernel_rfl) ?_
    refine H.condF (by kernel_rfl) (by kernel_rfl) ?_
    refine H.exitI 2 (by kernel_rfl) ?_
    refine Kseq_exit ?_
    refine Kloop_exit ?_
    refine Kblock_hit ?_
    refine Kseq_norm ?_
    refine H.sr 2 (by kernel_rfl) ?_
    refine H.retP (by kernel_rfl) ?_
    obtain rfl := Option.some.inj h
    exact KEnd.of (v := .slice (some ⟨0, 0, none⟩) 6 6) (by kernel_rfl) (by kernel_rfl) (PEnd.frz 0 6 6 1 5 true ([(IntKind.u8.wrap (shrI .i64 x 40)), (IntKind.u8.wrap (shrI .i64 x 32)), (IntKind.u8.wrap (shrI .i64 x 24)), (IntKind.u8.wrap (shrI .i64 x 16)), (IntKind.u8.wrap (shrI .i64 x 8)), (IntKind.u8.wrap (shrI .i64 x 0))].map (encI .u8)).toArray [.int .u8 (IntKind.u8.wrap (shrI .i64 x 40)), .int .u8 (IntKind.u8.wrap (shrI .i64 x 32)), .int .u8 (IntKind.u8.wrap (shrI .i64 x 24)), .int .u8 (IntKind.u8.wrap (shrI .i64 x 16)), .int .u8 (IntKind.u8.wrap (shrI .i64 x 8)), .int .u8 (IntKind.u8.wrap (shrI .i64 x 0))] (by kernel_rfl) (PEnd.wk (v1 := ls 1 false (encI .u8) [(IntKind.u8.wrap (shrI .i64 x 40)), (IntKind.u8.wrap (shrI .i64 x 32)), (IntKind.u8.wrap (shrI .i64 x 24)), (IntKind.u8.wrap (shrI .i64 x 16)), (IntKind.u8.wrap (shrI .i64 x 8)), (IntKind.u8.wrap (shrI .i64 x 0))]) (.list 1 false) (by kernel_rfl) (PEnd.fin (by kernel_rfl))))
  rw [if_pos hb] at h
  refine HO.fin 7 (by kernel_rfl) ?_
  refine H.condS (b := !decide ((shrI .i64 x 47) = (-1))) (by kernel_rfl) (by kernel_rfl) (fun hb => ?_) (fun hb => ?_)
  rotate_left
  · rw [if_neg (ne_true hb)] at h
    refine H.exitI 0 (by kernel_rfl) ?_
    refine Kseq_exit ?_
    refine Kloop_exit ?_
    refine Kblock_hit ?_
    refine Kseq_norm ?_
    refine H.sr 3 (by kernel_rfl) ?_
    refine H.seqP (by kernel_rfl) ?_
    refine H.sr 3 (by kernel_rfl) ?_
    refine H.blockI 2 (by kernel_rfl) ?_
    refine H.loopP (by kernel_rfl) ?_
    refine HL.round ?_
    refine H.sr 1 (by kernel_rfl) ?_
    refine H.seqP (by kernel_rfl) ?_
    refine H.condT (by kernel_rfl) (by kernel_rfl) ?_
    refine H.skipP (by kernel_rfl) ?_
    refine Kseq_norm ?_
    refine H.seqP (by kernel_rfl) ?_
    refine H.blockI 3 (by kernel_rfl) ?_
    refine H.sr 2 (by kernel_rfl) ?_
    refine H.regP (by kernel_rfl) ?_
    refine HO.goP 12 (by kernel_rfl) ?_
    refine HO.done (by kernel_rfl) ?_
    refine Kblock_norm ?_
    refine Kseq_norm ?_
    refine H.regP (by kernel_rfl) ?_
    refine HO.goP 2 (by kernel_rfl) ?_
    refine HO.done (by kernel_rfl) ?_
    refine Kloop_norm ?_
    refine HL.round ?_
    refine H.sr 1 (by kernel_rfl) ?_
    refine H.seqP (by kernel_rfl) ?_
    refine H.condT (by kernel_rfl) (by kernel_rfl) ?_
    refine H.skipP (by kernel_rfl) ?_
    refine Kseq_norm ?_
    refine H.seqP (by kernel_rfl) ?_
    refine H.blockI 3 (by kernel_rfl) ?_
    refine H.sr 2 (by kernel_rfl) ?_
    refine H.regP (by kernel_rfl) ?_
    refine HO.goP 12 (by kernel_rfl) ?_
    refine HO.done (by kernel_rfl) ?_
    refine Kblock_norm ?_
    refine Kseq_norm ?_
    refine H.regP (by kernel_rfl) ?_
    refine HO.goP 2 (by kernel_rfl) ?_
    refine HO.done (by kernel_rfl) ?_
    refine Kloop_norm ?_
    refine HL.round ?_
    refine H.sr 1 (by kernel_rfl) ?_
    refine H.seqP (by kernel_rfl) ?_
    refine H.condT (by kernel_rfl) (by kernel_rfl) ?_
    refine H.skipP (by kernel_rfl) ?_
    refine Kseq_norm ?_
    refine H.seqP (by kernel_rfl) ?_
    refine H.blockI 3 (by kernel_rfl) ?_
    refine H.sr 2 (by kernel_rfl) ?_
    refine H.regP (by kernel_rfl) ?_
    refine HO.goP 12 (by kernel_rfl) ?_
    refine HO.done (by kernel_rfl) ?_
    refine Kblock_norm ?_
    refine Kseq_norm ?_
    refine H.regP (by kernel_rfl) ?_
    refine HO.goP 2 (by kernel_rfl) ?_
    refine HO.done (by kernel_rfl) ?_
    refine Kloop_norm ?_
    refine HL.round ?_
    refine H.sr 1 (by kernel_rfl) ?_
    refine H.seqP (by kernel_rfl) ?_
    refine H.condT (by kernel_rfl) (by kernel_rfl) ?_
    refine H.skipP (by kernel_rfl) ?_
    refine Kseq_norm ?_
    refine H.seqP (by kernel_rfl) ?_
    refine H.blockI 3 (by kernel_rfl) ?_
    refine H.sr 2 (by kernel_rfl) ?_
    refine H.regP (by kernel_rfl) ?_
    refine HO.goP 12 (by kernel_rfl) ?_
    refine HO.done (by kernel_rfl) ?_
    refine Kblock_norm ?_
    refine Kseq_norm ?_
    refine H.regP (by kernel_rfl) ?_
    refine HO.goP 2 (by kernel_rfl) ?_
    refine HO.done (by kernel_rfl) ?_
    refine Kloop_norm ?_
    refine HL.round ?_
    refine H.sr 1 (by kernel_rfl) ?_
    refine H.seqP (by kernel_rfl) ?_
    refine H.condT (by kernel_rfl) (by kernel_rfl) ?_
    refine H.skipP (by kernel_rfl) ?_
    refine Kseq_norm ?_
    refine H.seqP (by kernel_rfl) ?_
    refine H.blockI 3 (by kernel_rfl) ?_
    refine H.sr 2 (by kernel_rfl) ?_
    refine H.regP (by kernel_rfl) ?_
    refine HO.goP 12 (by kernel_rfl) ?_
    refine HO.done (by kernel_rfl) ?_
    refine Kblock_norm ?_
    refine Kseq_norm ?_
    refine H.regP (by kernel_rfl) ?_
    refine HO.goP 2 (by kernel_rfl) ?_
    refine HO.done (by kernel_rfl) ?_
    refine Kloop_norm ?_
    refine HL.round ?_
    refine H.sr 1 (by kernel_rfl) ?_
    refine H.seqP (by kernel_rfl) ?_
    refine H.condT (by kernel_rfl) (by kernel_rfl) ?_
    refine H.skipP (by kernel_rfl) ?_
    refine Kseq_norm ?_
    refine H.seqP (by kernel_rfl) ?_
    refine H.blockI 3 (by kernel_rfl) ?_
    refine H.sr 2 (by kernel_rfl) ?_
    refine H.regP (by kernel_rfl) ?_
    refine HO.goP 12 (by kernel_rfl) ?_
    refine HO.done (by kernel_rfl) ?_
    refine Kblock_norm ?_
    refine Kseq_norm ?_
    refine H.regP (by kernel_rfl) ?_
    refine HO.goP 2 (by kernel_rfl) ?_
    refine HO.done (by kernel_rfl) ?_
    refine Kloop_norm ?_
    refine HL.round ?_
    refine H.sr 1 (by kernel_rfl) ?_
    refine H.seqP (by kernel_rfl) ?_
    refine H.condF (by kernel_rfl) (by kernel_rfl) ?_
    refine H.exitI 2 (by kernel_rfl) ?_
    refine Kseq_exit ?_
    refine Kloop_exit ?_
    refine Kblock_hit ?_
    refine Kseq_norm ?_
    refine H.sr 2 (by kernel_rfl) ?_
    refine H.retP (by kernel_rfl) ?_
    obtain rfl := Option.some.inj h
    exact KEnd.of (v := .slice (some ⟨0, 0, none⟩) 6 6) (by kernel_rfl) (by kernel_rfl) (PEnd.frz 0 6 6 1 5 true ([(IntKind.u8.wrap (shrI .i64 x 40)), (IntKind.u8.wrap (shrI .i64 x 32)), (IntKind.u8.wrap (shrI .i64 x 24)), (IntKind.u8.wrap (shrI .i64 x 16)), (IntKind.u8.wrap (shrI .i64 x 8)), (IntKind.u8.wrap (shrI .i64 x 0))].map (encI .u8)).toArray [.int .u8 (IntKind.u8.wrap (shrI .i64 x 40)), .int .u8 (IntKind.u8.wrap (shrI .i64 x 32)), .int .u8 (IntKind.u8.wrap (shrI .i64 x 24)), .int .u8 (IntKind.u8.wrap (shrI .i64 x 16)), .int .u8 (IntKind.u8.wrap (shrI .i64 x 8)), .int .u8 (IntKind.u8.wrap (shrI .i64 x 0))] (by kernel_rfl) (PEnd.wk (v1 := ls 1 false (encI .u8) [(IntKind.u8.wrap (shrI .i64 x 40)), (IntKind.u8.wrap (shrI .i64 x 32)), (IntKind.u8.wrap (shrI .i64 x 24)), (IntKind.u8.wrap (shrI .i64 x 16)), (IntKind.u8.wrap (shrI .i64 x 8)), (IntKind.u8.wrap (shrI .i64 x 0))]) (.list 1 false) (by kernel_rfl) (PEnd.fin (by kernel_rfl))))
  rw [if_pos hb] at h
  refine H.skipP (by kernel_rfl) ?_
  refine Kseq_norm ?_
  refine H.blockI 1 (by kernel_rfl) ?_
  refine H.regP (by kernel_rfl) ?_
  refine HO.goP 3 (by kernel_rfl) ?_
  refine HO.done (by kernel_rfl) ?_
  refine Kblock_norm ?_
  refine Kloop_norm ?_
  refine HL.round ?_
  refine H.seqP (by kernel_rfl) ?_
  refine H.sg (by kernel_rfl) ?_
  refine HO.goP 10 (by kernel_rfl) ?_
  refine HO.boolP (!decide ((shrI .i64 x 55) = 0)) (by kernel_rfl) (by kernel_rfl) (fun hb => ?_) (fun hb => ?_)
  rotate_left
  · rw [if_neg (ne_true hb)] at h
    refine HO.fin 7 (by kernel_rfl) ?_
    refine H.condF (by kernel_rfl) (by kernel_rfl) ?_
    refine H.exitI 0 (by kernel_rfl) ?_
    refine Kseq_exit ?_
    refine Kloop_exit ?_
    refine Kblock_hit ?_
    refine Kseq_norm ?_
    refine H.sr 3 (by kernel_rfl) ?_
    refine H.seqP (by kernel_rfl) ?_
    refine H.sr 3 (by kernel_rfl) ?_
    refine H.blockI 2 (by kernel_rfl) ?_
    refine H.loopP (by kernel_rfl) ?_
    refine HL.round ?_
    refine H.sr 1 (by kernel_rfl) ?_
    refine H.seqP (by kernel_rfl) ?_
    refine H.condT (by kernel_rfl) (by kernel_rfl) ?_
    refine H.skipP (by kernel_rfl) ?_
    refine Kseq_norm ?_
    refine H.seqP (by kernel_rfl) ?_
    refine H.blockI 3 (by kernel_rfl) ?_
    refine H.sr 2 (by kernel_rfl) ?_
    refine H.regP (by kernel_rfl) ?_
    refine HO.goP 12 (by kernel_rfl) ?_
    refine HO.done (by kernel_rfl) ?_
    refine Kblock_norm ?_
    refine Kseq_norm ?_
    refine H.regP (by kernel_rfl) ?_
    refine HO.goP 2 (by kernel_rfl) ?_
    refine HO.done (by kernel_rfl) ?_
    refine Kloop_norm ?_
    refine HL.round ?_
    refine H.sr 1 (by kernel_rfl) ?_
    refine H.seqP (by kernel_rfl) ?_
    refine H.condT (by kernel_rfl) (by kernel_rfl) ?_
    refine H.skipP (by kernel_rfl) ?_
    refine Kseq_norm ?_
    refine H.seqP (by kernel_rfl) ?_
    refine H.blockI 3 (by kernel_rfl) ?_
    refine H.sr 2 (by kernel_rfl) ?_
    refine H.regP (by kernel_rfl) ?_
    refine HO.goP 12 (by kernel_rfl) ?_
    refine HO.done (by kernel_rfl) ?_
    refine Kblock_norm ?_
    refine Kseq_norm ?_
    refine H.regP (by kernel_rfl) ?_
    refine HO.goP 2 (by kernel_rfl) ?_
    refine HO.done (by kernel_rfl) ?_
    refine Kloop_norm ?_
    refine HL.round ?_
    refine H.sr 1 (by kernel_rfl) ?_
    refine H.seqP (by kernel_rfl) ?_
    refine H.condT (by kernel_rfl) (by kernel_rfl) ?_
    refine H.skipP (by kernel_rfl) ?_
    refine Kseq_norm ?_
    refine H.seqP (by kernel_rfl) ?_
    refine H.blockI 3 (by kernel_rfl) ?_
    refine H.sr 2 (by kernel_rfl) ?_
    refine H.regP (by kernel_rfl) ?_
    refine HO.goP 12 (by kernel_rfl) ?_
    refine HO.done (by kernel_rfl) ?_
    refine Kblock_norm ?_
    refine Kseq_norm ?_
    refine H.regP (by kernel_rfl) ?_
    refine HO.goP 2 (by kernel_rfl) ?_
    refine HO.done (by kernel_rfl) ?_
    refine Kloop_norm ?_
    refine HL.round ?_
    refine H.sr 1 (by kernel_rfl) ?_
    refine H.seqP (by kernel_rfl) ?_
    refine H.condT (by kernel_rfl) (by kernel_rfl) ?_
    refine H.skipP (by kernel_rfl) ?_
    refine Kseq_norm ?_
    refine H.seqP (by kernel_rfl) ?_
    refine H.blockI 3 (by kernel_rfl) ?_
    refine H.sr 2 (by kernel_rfl) ?_
    refine H.regP (by kernel_rfl) ?_
    refine HO.goP 12 (by kernel_rfl) ?_
    refine HO.done (by kernel_rfl) ?_
    refine Kblock_norm ?_
    refine Kseq_norm ?_
    refine H.regP (by kernel_rfl) ?_
    refine HO.goP 2 (by kernel_rfl) ?_
    refine HO.done (by kernel_rfl) ?_
    refine Kloop_norm ?_
    refine HL.round ?_
    refine H.sr 1 (by kernel_rfl) ?_
    refine H.seqP (by kernel_rfl) ?_
    refine H.condT (by kernel_rfl) (by kernel_rfl) ?_
    refine H.skipP (by kernel_rfl) ?_
    refine Kseq_norm ?_
    refine H.seqP (by kernel_rfl) ?_
    refine H.blockI 3 (by kernel_rfl) ?_
    refine H.sr 2 (by kernel_rfl) ?_
    refine H.regP (by kernel_rfl) ?_
    refine HO.goP 12 (by kernel_rfl) ?_
    refine HO.done (by kernel_rfl) ?_
    refine Kblock_norm ?_
    refine Kseq_norm ?_
    refine H.regP (by kernel_rfl) ?_
    refine HO.goP 2 (by kernel_rfl) ?_
    refine HO.done (by kernel_rfl) ?_
    refine Kloop_norm ?_
    refine HL.round ?_
    refine H.sr 1 (by kernel_rfl) ?_
    refine H.seqP (by kernel_rfl) ?_
    refine H.condT (by kernel_rfl) (by kernel_rfl) ?_
    refine H.skipP (by kernel_rfl) ?_
    refine Kseq_norm ?_
    refine H.seqP (by kernel_rfl) ?_
    refine H.blockI 3 (by kernel_rfl) ?_
    refine H.sr 2 (by kernel_rfl) ?_
    refine H.regP (by kernel_rfl) ?_
    refine HO.goP 12 (by kernel_rfl) ?_
    refine HO.done (by kernel_rfl) ?_
    refine Kblock_norm ?_
    refine Kseq_norm ?_
    refine H.regP (by kernel_rfl) ?_
    refine HO.goP 2 (by kernel_rfl) ?_
    refine HO.done (by kernel_rfl) ?_
    refine Kloop_norm ?_
    refine HL.round ?_
    refine H.sr 1 (by kernel_rfl) ?_
    refine H.seqP (by kernel_rfl) ?_
    refine H.condT (by kernel_rfl) (by kernel_rfl) ?_
    refine H.skipP (by kernel_rfl) ?_
    refine Kseq_norm ?_
    refine H.seqP (by kernel_rfl) ?_
    refine H.blockI 3 (by kernel_rfl) ?_
    refine H.sr 2 (by kernel_rfl) ?_
    refine H.regP (by kernel_rfl) ?_
    refine HO.goP 12 (by kernel_rfl) ?_
    refine HO.done (by kernel_rfl) ?_
    refine Kblock_norm ?_
    refine Kseq_norm ?_
    refine H.regP (by kernel_rfl) ?_
    refine HO.goP 2 (by kernel_rfl) ?_
    refine HO.done (by kernel_rfl) ?_
    refine Kloop_norm ?_
    refine HL.round ?_
    refine H.sr 1 (by kernel_rfl) ?_
    refine H.seqP (by kernel_rfl) ?_
    refine H.condF (by kernel_rfl) (by kernel_rfl) ?_
    refine H.exitI 2 (by kernel_rfl) ?_
    refine Kseq_exit ?_
    refine Kloop_exit ?_
    refine Kblock_hit ?_
    refine Kseq_norm ?_
    refine H.sr 2 (by kernel_rfl) ?_
    refine H.retP (by kernel_rfl) ?_
    obtain rfl := Option.some.inj h
    exact KEnd.of (v := .slice (some ⟨0, 0, none⟩) 7 7) (by kernel_rfl) (by kernel_rfl) (PEnd.frz 0 7 7 1 5 true ([(IntKind.u8.wrap (shrI .i64 x 48)), (IntKind.u8.wrap (shrI .i64 x 40)), (IntKind.u8.wrap (shrI .i64 x 32)), (IntKind.u8.wrap (shrI .i64 x 24)), (IntKind.u8.wrap (shrI .i64 x 16)), (IntKind.u8.wrap (shrI .i64 x 8)), (IntKind.u8.wrap (shrI .i64 x 0))].map (encI .u8)).toArray [.int .u8 (IntKind.u8.wrap (shrI .i64 x 48)), .int .u8 (IntKind.u8.wrap (shrI .i64 x 40)), .int .u8 (IntKind.u8.wrap (shrI .i64 x 32)), .int .u8 (IntKind.u8.wrap (shrI .i64 x 24)), .int .u8 (IntKind.u8.wrap (shrI .i64 x 16)), .int .u8 (IntKind.u8.wrap (shrI .i64 x 8)), .int .u8 (IntKind.u8.wrap (shrI .i64 x 0))] (by kernel_rfl) (PEnd.wk (v1 := ls 1 false (encI .u8) [(IntKind.u8.wrap (shrI .i64 x 48)), (IntKind.u8.wrap (shrI .i64 x 40)), (IntKind.u8.wrap (shrI .i64 x 32)), (IntKind.u8.wrap (shrI .i64 x 24)), (IntKind.u8.wrap (shrI .i64 x 16)), (IntKind.u8.wrap (shrI .i64 x 8)), (IntKind.u8.wrap (shrI .i64 x 0))]) (.list 1 false) (by kernel_rfl) (PEnd.fin (by kernel_rfl))))
  rw [if_pos hb] at h
  refine HO.fin 7 (by kernel_rfl) ?_
  refine H.condS (b := !decide ((shrI .i64 x 55) = (-1))) (by kernel_rfl) (by kernel_rfl) (fun hb => ?_) (fun hb => ?_)
  rotate_left
  · rw [if_neg (ne_true hb)] at h
    refine H.exitI 0 (by kernel_rfl) ?_
    refine Kseq_exit ?_
    refine Kloop_exit ?_
    refine Kblock_hit ?_
    refine Kseq_norm ?_
    refine H.sr 3 (by kernel_rfl) ?_
    refine H.seqP (by kernel_rfl) ?_
    refine H.sr 3 (by kernel_rfl) ?_
    refine H.blockI 2 (by kernel_rfl) ?_
    refine H.loopP (by kernel_rfl) ?_
    refine HL.round ?_
    refine H.sr 1 (by kernel_rfl) ?_
    refine H.seqP (by kernel_rfl) ?_
    refine H.condT (by kernel_rfl) (by kernel_rfl) ?_
    refine H.skipP (by kernel_rfl) ?_
    refine Kseq_norm ?_
    refine H.seqP (by kernel_rfl) ?_
    refine H.blockI 3 (by kernel_rfl) ?_
    refine H.sr 2 (by kernel_rfl) ?_
    refine H.regP (by kernel_rfl) ?_
    refine HO.goP 12 (by kernel_rfl) ?_
    refine HO.done (by kernel_rfl) ?_
    refine Kblock_norm ?_
    refine Kseq_norm ?_
    refine H.regP (by kernel_rfl) ?_
    refine HO.goP 2 (by kernel_rfl) ?_
    refine HO.done (by kernel_rfl) ?_
    refine Kloop_norm ?_
    refine HL.round ?_
    refine H.sr 1 (by kernel_rfl) ?_
    refine H.seqP (by kernel_rfl) ?_
    refine H.condT (by kernel_rfl) (by kernel_rfl) ?_
    refine H.skipP (by kernel_rfl) ?_
    refine Kseq_norm ?_
    refine H.seqP (by kernel_rfl) ?_
    refine H.blockI 3 (by kernel_rfl) ?_
    refine H.sr 2 (by kernel_rfl) ?_
    refine H.regP (by kernel_rfl) ?_
    refine HO.goP 12 (by kernel_rfl) ?_
    refine HO.done (by kernel_rfl) ?_
    refine Kblock_norm ?_
    refine Kseq_norm ?_
    refine H.regP (by kernel_rfl) ?_
    refine HO.goP 2 (by kernel_rfl) ?_
    refine HO.done (by kernel_rfl) ?_
    refine Kloop_norm ?_
    refine HL.round ?_
    refine H.sr 1 (by kernel_rfl) ?_
    refine H.seqP (by kernel_rfl) ?_
    refine H.condT (by kernel_rfl) (by kernel_rfl) ?_
    refine H.skipP (by kernel_rfl) ?_
    refine Kseq_norm ?_
    refine H.seqP (by kernel_rfl) ?_
    refine H.blockI 3 (by kernel_rfl) ?_
    refine H.sr 2 (by kernel_rfl) ?_
    refine H.regP (by kernel_rfl) ?_
    refine HO.goP 12 (by kernel_rfl) ?_
    refine HO.done (by kernel_rfl) ?_
    refine Kblock_norm ?_
    refine Kseq_norm ?_
    refine H.regP (by kernel_rfl) ?_
    refine HO.goP 2 (by kernel_rfl) ?_
    refine HO.done (by kernel_rfl) ?_
    refine Kloop_norm ?_
    refine HL.round ?_
    refine H.sr 1 (by kernel_rfl) ?_
    refine H.seqP (by kernel_rfl) ?_
    refine H.condT (by kernel_rfl) (by kernel_rfl) ?_
    refine H.skipP (by kernel_rfl) ?_
    refine Kseq_norm ?_
    refine H.seqP (by kernel_rfl) ?_
    refine H.blockI 3 (by kernel_rfl) ?_
    refine H.sr 2 (by kernel_rfl) ?_
    refine H.regP (by kernel_rfl) ?_
    refine HO.goP 12 (by kernel_rfl) ?_
    refine HO.done (by kernel_rfl) ?_
    refine Kblock_norm ?_
    refine Kseq_norm ?_
    refine H.regP (by kernel_rfl) ?_
    refine HO.goP 2 (by kernel_rfl) ?_
    refine HO.done (by kernel_rfl) ?_
    refine Kloop_norm ?_
    refine HL.round ?_
    refine H.sr 1 (by kernel_rfl) ?_
    refine H.seqP (by kernel_rfl) ?_
    refine H.condT (by kernel_rfl) (by kernel_rfl) ?_
    refine H.skipP (by kernel_rfl) ?_
    refine Kseq_norm ?_
    refine H.seqP (by kernel_rfl) ?_
    refine H.blockI 3 (by kernel_rfl) ?_
    refine H.sr 2 (by kernel_rfl) ?_
    refine H.regP (by kernel_rfl) ?_
    refine HO.goP 12 (by kernel_rfl) ?_
    refine HO.done (by kernel_rfl) ?_
    refine Kblock_norm ?_
    refine Kseq_norm ?_
    refine H.regP (by kernel_rfl) ?_
    refine HO.goP 2 (by kernel_rfl) ?_
    refine HO.done (by kernel_rfl) ?_
    refine Kloop_norm ?_
    refine HL.round ?_
    refine H.sr 1 (by kernel_rfl) ?_
    refine H.seqP (by kernel_rfl) ?_
    refine H.condT (by kernel_rfl) (by kernel_rfl) ?_
    refine H.skipP (by kernel_rfl) ?_
    refine Kseq_norm ?_
    refine H.seqP (by kernel_rfl) ?_
    refine H.blockI 3 (by kernel_rfl) ?_
    refine H.sr 2 (by kernel_rfl) ?_
    refine H.regP (by kernel_rfl) ?_
    refine HO.goP 12 (by kernel_rfl) ?_
    refine HO.done (by kernel_rfl) ?_
    refine Kblock_norm ?_
    refine Kseq_norm ?_
    refine H.regP (by kernel_rfl) ?_
    refine HO.goP 2 (by kernel_rfl) ?_
    refine HO.done (by kernel_rfl) ?_
    refine Kloop_norm ?_
    refine HL.round ?_
    refine H.sr 1 (by kernel_rfl) ?_
    refine H.seqP (by kernel_rfl) ?_
    refine H.condT (by kernel_rfl) (by kernel_rfl) ?_
    refine H.skipP (by kernel_rfl) ?_
    refine Kseq_norm ?_
    refine H.seqP (by kernel_rfl) ?_
    refine H.blockI 3 (by kernel_rfl) ?_
    refine H.sr 2 (by kernel_rfl) ?_
    refine H.regP (by kernel_rfl) ?_
    refine HO.goP 12 (by kernel_rfl) ?_
    refine HO.done (by kernel_rfl) ?_
    refine Kblock_norm ?_
    refine Kseq_norm ?_
    refine H.regP (by kernel_rfl) ?_
    refine HO.goP 2 (by kernel_rfl) ?_
    refine HO.done (by kernel_rfl) ?_
    refine Kloop_norm ?_
    refine HL.round ?_
    refine H.sr 1 (by kernel_rfl) ?_
    refine H.seqP (by kernel_rfl) ?_
    refine H.condF (by kernel_rfl) (by kernel_rfl) ?_
    refine H.exitI 2 (by kernel_rfl) ?_
    refine Kseq_exit ?_
    refine Kloop_exit ?_
    refine Kblock_hit ?_
    refine Kseq_norm ?_
    refine H.sr 2 (by kernel_rfl) ?_
    refine H.retP (by kernel_rfl) ?_
    obtain rfl := Option.some.inj h
    exact KEnd.of (v := .slice (some ⟨0, 0, none⟩) 7 7) (by kernel_rfl) (by kernel_rfl) (PEnd.frz 0 7 7 1 5 true ([(IntKind.u8.wrap (shrI .i64 x 48)), (IntKind.u8.wrap (shrI .i64 x 40)), (IntKind.u8.wrap (shrI .i64 x 32)), (IntKind.u8.wrap (shrI .i64 x 24)), (IntKind.u8.wrap (shrI .i64 x 16)), (IntKind.u8.wrap (shrI .i64 x 8)), (IntKind.u8.wrap (shrI .i64 x 0))].map (encI .u8)).toArray [.int .u8 (IntKind.u8.wrap (shrI .i64 x 48)), .int .u8 (IntKind.u8.wrap (shrI .i64 x 40)), .int .u8 (IntKind.u8.wrap (shrI .i64 x 32)), .int .u8 (IntKind.u8.wrap (shrI .i64 x 24)), .int .u8 (IntKind.u8.wrap (shrI .i64 x 16)), .int .u8 (IntKind.u8.wrap (shrI .i64 x 8)), .int .u8 (IntKind.u8.wrap (shrI .i64 x 0))] (by kernel_rfl) (PEnd.wk (v1 := ls 1 false (encI .u8) [(IntKind.u8.wrap (shrI .i64 x 48)), (IntKind.u8.wrap (shrI .i64 x 40)), (IntKind.u8.wrap (shrI .i64 x 32)), (IntKind.u8.wrap (shrI .i64 x 24)), (IntKind.u8.wrap (shrI .i64 x 16)), (IntKind.u8.wrap (shrI .i64 x 8)), (IntKind.u8.wrap (shrI .i64 x 0))]) (.list 1 false) (by kernel_rfl) (PEnd.fin (by kernel_rfl))))
  rw [if_pos hb] at h
  refine H.skipP (by kernel_rfl) ?_
  refine Kseq_norm ?_
  refine H.blockI 1 (by kernel_rfl) ?_
  refine H.regP (by kernel_rfl) ?_
  refine HO.goP 3 (by kernel_rfl) ?_
  refine HO.done (by kernel_rfl) ?_
  refine Kblock_norm ?_
  refine Kloop_norm ?_
  refine HL.round ?_
  refine H.seqP (by kernel_rfl) ?_
  refine H.sr 18 (by kernel_rfl) ?_
  refine H.condF (by kernel_rfl) (by kernel_rfl) ?_
  refine H.exitI 0 (by kernel_rfl) ?_
  refine Kseq_exit ?_
  refine Kloop_exit ?_
  refine Kblock_hit ?_
  refine Kseq_norm ?_
  refine H.sr 3 (by kernel_rfl) ?_
  refine H.seqP (by kernel_rfl) ?_
  refine H.sr 3 (by kernel_rfl) ?_
  refine H.blockI 2 (by kernel_rfl) ?_
  refine H.loopP (by kernel_rfl) ?_
  refine HL.round ?_
  refine H.sr 1 (by kernel_rfl) ?_
  refine H.seqP (by kernel_rfl) ?_
  refine H.condT (by kernel_rfl) (by kernel_rfl) ?_
  refine H.skipP (by kernel_rfl) ?_
  refine Kseq_norm ?_
  refine H.seqP (by kernel_rfl) ?_
  refine H.blockI 3 (by kernel_rfl) ?_
  refine H.sr 2 (by kernel_rfl) ?_
  refine H.regP (by kernel_rfl) ?_
  refine HO.goP 12 (by kernel_rfl) ?_
  refine HO.done (by kernel_rfl) ?_
  refine Kblock_norm ?_
  refine Kseq_norm ?_
  refine H.regP (by kernel_rfl) ?_
  refine HO.goP 2 (by kernel_rfl) ?_
  refine HO.done (by kernel_rfl) ?_
  refine Kloop_norm ?_
  refine HL.round ?_
  refine H.sr 1 (by kernel_rfl) ?_
  refine H.seqP (by kernel_rfl) ?_
  refine H.condT (by kernel_rfl) (by kernel_rfl) ?_
  refine H.skipP (by kernel_rfl) ?_
  refine Kseq_norm ?_
  refine H.seqP (by kernel_rfl) ?_
  refine H.blockI 3 (by kernel_rfl) ?_
  refine H.sr 2 (by kernel_rfl) ?_
  refine H.regP (by kernel_rfl) ?_
  refine HO.goP 12 (by kernel_rfl) ?_
  refine HO.done (by kernel_rfl) ?_
  refine Kblock_norm ?_
  refine Kseq_norm ?_
  refine H.regP (by kernel_rfl) ?_
  refine HO.goP 2 (by kernel_rfl) ?_
  refine HO.done (by kernel_rfl) ?_
  refine Kloop_norm ?_
  refine HL.round ?_
  refine H.sr 1 (by kernel_rfl) ?_
  refine H.seqP (by kernel_rfl) ?_
  refine H.condT (by kernel_rfl) (by kernel_rfl) ?_
  refine H.skipP (by kernel_rfl) ?_
  refine Kseq_norm ?_
  refine H.seqP (by kernel_rfl) ?_
  refine H.blockI 3 (by kernel_rfl) ?_
  refine H.sr 2 (by kernel_rfl) ?_
  refine H.regP (by kernel_rfl) ?_
  refine HO.goP 12 (by kernel_rfl) ?_
  refine HO.done (by kernel_rfl) ?_
  refine Kblock_norm ?_
  refine Kseq_norm ?_
  refine H.regP (by kernel_rfl) ?_
  refine HO.goP 2 (by kernel_rfl) ?_
  refine HO.done (by kernel_rfl) ?_
  refine Kloop_norm ?_
  refine HL.round ?_
  refine H.sr 1 (by kernel_rfl) ?_
  refine H.seqP (by kernel_rfl) ?_
  refine H.condT (by kernel_rfl) (by kernel_rfl) ?_
  refine H.skipP (by kernel_rfl) ?_
  refine Kseq_norm ?_
  refine H.seqP (by kernel_rfl) ?_
  refine H.blockI 3 (by kernel_rfl) ?_
  refine H.sr 2 (by kernel_rfl) ?_
  refine H.regP (by kernel_rfl) ?_
  refine HO.goP 12 (by kernel_rfl) ?_
  refine HO.done (by kernel_rfl) ?_
  refine Kblock_norm ?_
  refine Kseq_norm ?_
  refine H.regP (by kernel_rfl) ?_
  refine HO.goP 2 (by kernel_rfl) ?_
  refine HO.done (by kernel_rfl) ?_
  refine Kloop_norm ?_
  refine HL.round ?_
  refine H.sr 1 (by kernel_rfl) ?_
  refine H.seqP (by kernel_rfl) ?_
  refine H.condT (by kernel_rfl) (by kernel_rfl) ?_
  refine H.skipP (by kernel_rfl) ?_
  refine Kseq_norm ?_
  refine H.seqP (by kernel_rfl) ?_
  refine H.blockI 3 (by kernel_rfl) ?_
  refine H.sr 2 (by kernel_rfl) ?_
  refine H.regP (by kernel_rfl) ?_
  refine HO.goP 12 (by kernel_rfl) ?_
  refine HO.done (by kernel_rfl) ?_
  refine Kblock_norm ?_
  refine Kseq_norm ?_
  refine H.regP (by kernel_rfl) ?_
  refine HO.goP 2 (by kernel_rfl) ?_
  refine HO.done (by kernel_rfl) ?_
  refine Kloop_norm ?_
  refine HL.round ?_
  refine H.sr 1 (by kernel_rfl) ?_
  refine H.seqP (by kernel_rfl) ?_
  refine H.condT (by kernel_rfl) (by kernel_rfl) ?_
  refine H.skipP (by kernel_rfl) ?_
  refine Kseq_norm ?_
  refine H.seqP (by kernel_rfl) ?_
  refine H.blockI 3 (by kernel_rfl) ?_
  refine H.sr 2 (by kernel_rfl) ?_
  refine H.regP (by kernel_rfl) ?_
  refine HO.goP 12 (by kernel_rfl) ?_
  refine HO.done (by kernel_rfl) ?_
  refine Kblock_norm ?_
  refine Kseq_norm ?_
  refine H.regP (by kernel_rfl) ?_
  refine HO.goP 2 (by kernel_rfl) ?_
  refine HO.done (by kernel_rfl) ?_
  refine Kloop_norm ?_
  refine HL.round ?_
  refine H.sr 1 (by kernel_rfl) ?_
  refine H.seqP (by kernel_rfl) ?_
  refine H.condT (by kernel_rfl) (by kernel_rfl) ?_
  refine H.skipP (by kernel_rfl) ?_
  refine Kseq_norm ?_
  refine H.seqP (by kernel_rfl) ?_
  refine H.blockI 3 (by kernel_rfl) ?_
  refine H.sr 2 (by kernel_rfl) ?_
  refine H.regP (by kernel_rfl) ?_
  refine HO.goP 12 (by kernel_rfl) ?_
  refine HO.done (by kernel_rfl) ?_
  refine Kblock_norm ?_
  refine Kseq_norm ?_
  refine H.regP (by kernel_rfl) ?_
  refine HO.goP 2 (by kernel_rfl) ?_
  refine HO.done (by kernel_rfl) ?_
  refine Kloop_norm ?_
  refine HL.round ?_
  refine H.sr 1 (by kernel_rfl) ?_
  refine H.seqP (by kernel_rfl) ?_
  refine H.condT (by kernel_rfl) (by kernel_rfl) ?_
  refine H.skipP (by kernel_rfl) ?_
  refine Kseq_norm ?_
  refine H.seqP (by kernel_rfl) ?_
  refine H.blockI 3 (by kernel_rfl) ?_
  refine H.sr 2 (by kernel_rfl) ?_
  refine H.regP (by kernel_rfl) ?_
  refine HO.goP 12 (by kernel_rfl) ?_
  refine HO.done (by kernel_rfl) ?_
  refine Kblock_norm ?_
  refine Kseq_norm ?_
  refine H.regP (by kernel_rfl) ?_
  refine HO.goP 2 (by kernel_rfl) ?_
  refine HO.done (by kernel_rfl) ?_
  refine Kloop_norm ?_
  refine HL.round ?_
  refine H.sr 1 (by kernel_rfl) ?_
  refine H.seqP (by kernel_rfl) ?_
  refine H.condF (by kernel_rfl) (by kernel_rfl) ?_
  refine H.exitI 2 (by kernel_rfl) ?_
  refine Kseq_exit ?_
  refine Kloop_exit ?_
  refine Kblock_hit ?_
  refine Kseq_norm ?_
  refine H.sr 2 (by kernel_rfl) ?_
  refine H.retP (by kernel_rfl) ?_
  obtain rfl := Option.some.inj h
  exact KEnd.of (v := .slice (some ⟨0, 0, none⟩) 8 8) (by kernel_rfl) (by kernel_rfl) (PEnd.frz 0 8 8 1 5 true ([(IntKind.u8.wrap (shrI .i64 x 56)), (IntKind.u8.wrap (shrI .i64 x 48)), (IntKind.u8.wrap (shrI .i64 x 40)), (IntKind.u8.wrap (shrI .i64 x 32)), (IntKind.u8.wrap (shrI .i64 x 24)), (IntKind.u8.wrap (shrI .i64 x 16)), (IntKind.u8.wrap (shrI .i64 x 8)), (IntKind.u8.wrap (shrI .i64 x 0))].map (encI .u8)).toArray [.int .u8 (IntKind.u8.wrap (shrI .i64 x 56)), .int .u8 (IntKind.u8.wrap (shrI .i64 x 48)), .int .u8 (IntKind.u8.wrap (shrI .i64 x 40)), .int .u8 (IntKind.u8.wrap (shrI .i64 x 32)), .int .u8 (IntKind.u8.wrap (shrI .i64 x 24)), .int .u8 (IntKind.u8.wrap (shrI .i64 x 16)), .int .u8 (IntKind.u8.wrap (shrI .i64 x 8)), .int .u8 (IntKind.u8.wrap (shrI .i64 x 0))] (by kernel_rfl) (PEnd.wk (v1 := ls 1 false (encI .u8) [(IntKind.u8.wrap (shrI .i64 x 56)), (IntKind.u8.wrap (shrI .i64 x 48)), (IntKind.u8.wrap (shrI .i64 x 40)), (IntKind.u8.wrap (shrI .i64 x 32)), (IntKind.u8.wrap (shrI .i64 x 24)), (IntKind.u8.wrap (shrI .i64 x 16)), (IntKind.u8.wrap (shrI .i64 x 8)), (IntKind.u8.wrap (shrI .i64 x 0))]) (.list 1 false) (by kernel_rfl) (PEnd.fin (by kernel_rfl))))
def numberE (x : Int × Int) : Option (Int × Int × Bool × (List Int) × (List S78)) :=
  (intC x.2) >>= fun y1 =>
  some (2, x.1, false, y1, [])
theorem numberE_ok : ∀ (x : Int × Int) (r : Int × Int × Bool × (List Int) × (List S78)), numberE x = some r → ∀ W0 : World, PTo Try.prog W0 52 #[.int .u32 x.1, .int .i64 x.2] (.returned (.agg #[.int .u8 r.1, .int .u32 r.2.1, .bool r.2.2.1, ls 1 false (encI .u8) r.2.2.2.1, ls 5 false enc78 r.2.2.2.2])) := by
  intro x r h
  unfold numberE at h
  intro W0
  refine PTo.of_body (fn := Try.f52) (code := cB Try.f52) Try.func52 rfl rfl ?_
  intro w0 S hS
  haveI := hS.noEx Try.prog
  refine H.sr 1 (by kernel_rfl) ?_
  refine H.sg (by kernel_rfl) ?_
  refine HO.goP 2 (by kernel_rfl) ?_
  obtain ⟨y1, hy, h⟩ := bindS h
  refine HO.callW hS [.keep] (intC_ok x.2 y1 hy W0) (by kernel_rfl) (by kernel_rfl) ?_
  refine HO.fin 2 (by kernel_rfl) ?_
  refine H.retP (by kernel_rfl) ?_
  obtain rfl := Option.some.inj h
  exact KEnd.retW (v := .agg #[.int .u8 2, .int .u32 x.1, .bool false, ls 1 false (encI .u8) y1, .slice none 0 0]) (.agg [.keep, .keep, .keep, .list 1 false, .list 5 false]) (by kernel_rfl) (by kernel_rfl) (by kernel_rfl) (by kernel_rfl)
mutual
def measure_L2 (x : Int × (List S78) × Int × Int × Int) : Option (Bool × Int) :=
  if x.2.2.2.1 < x.2.2.1 then
    (at' x.2.1 x.2.2.2.1) >>= fun y1 =>
    (measure (y1.c0, y1.c1, y1.c2, y1.c3, y1.c4, (IntKind.i64.wrap (x.1 + 1)), x.2.2.2.2)) >>= fun y2 =>
    if (!y2.1) = true then
      some (false, y2.2)
    else
      measure_L2 (x.1, x.2.1, x.2.2.1, (IntKind.i64.wrap (x.2.2.2.1 + 1)), y2.2)
  else
    some (true, x.2.2.2.2)
partial_fixpoint
def measure (x : Int × Int × Bool × (List Int) × (List S78) × Int × Int) : Option (Bool × Int) :=
  if 16 < x.2.2.2.2.2.1 then
    measure_L1 (x.2.2.2.2.2.1, true, (IntKind.i64.wrap (x.2.2.2.2.2.2 + 1)), x.1, x.2.1, x.2.2.1, x.2.2.2.1, x.2.2.2.2.1)
  else
    measure_L1 (x.2.2.2.2.2.1, (decide (1024 < (IntKind.i64.wrap (x.2.2.2.2.2.2 + 1)))), (IntKind.i64.wrap (x.2.2.2.2.2.2 + 1)), x.1, x.2.1, x.2.2.1, x.2.2.2.1, x.2.2.2.2.1)
partial_fixpoint
def measure_L1 (x : Int × Bool × Int × Int × Int × Bool × (List Int) × (List S78)) : Option (Bool × Int) :=
  if x.2.1 = true then
    some (false, x.2.2.1)
  else
    measure_L2 (x.1, x.2.2.2.2.2.2.2, (x.2.2.2.2.2.2.2.length : Int), 0, x.2.2.1)
partial_fixpoint
end
theorem measure_L2_grp : (∀ (x : Int × (List S78) × Int × Int × Int) (r : Bool × Int), measure_L2 x = some r → ∀ (W0 w0 : World) (S : Own), Std W0 w0 S 1 → HL Try.prog w0 S 36 (cL (cL (cR (cL (cR (cR (cR (cB Try.f65)))))))) (mkS [(1, .int .i64 x.1), (2, .pointer (some ⟨0, 0, none⟩)), (23, ls 5 false enc78 x.2.1), (24, .int .i64 x.2.2.1), (25, .int .i64 x.2.2.2.1)] [(0, .cells [.int .i64 x.2.2.2.2] 3 1)] 1 []) (Kblock 0 (Kseq Try.prog w0 S 36 (cR (cR (cR (cR (cB Try.f65))))) (KEnd Try.prog Try.f65 (FEnd w0 S (.returned (.bool r.1)) (mkW 1 [] [(0, .cells [.int .i64 r.2] 3 1)])))))) ∧
  (∀ (x : Int × Int × Bool × (List Int) × (List S78) × Int × Int) (r : Bool × Int), measure x = some r → ∀ W0 : World, FTo Try.prog W0 65 #[.agg #[.int .u8 x.1, .int .u32 x.2.1, .bool x.2.2.1, ls 1 false (encI .u8) x.2.2.2.1, ls 5 false enc78 x.2.2.2.2.1], .int .i64 x.2.2.2.2.2.1, .pointer (some ⟨0, 0, none⟩)] (mkW 1 [] [(0, .cells [.int .i64 x.2.2.2.2.2.2] 3 1)]) (.returned (.bool r.1)) (mkW 1 [] [(0, .cells [.int .i64 r.2] 3 1)])) ∧
  (∀ (x : Int × Bool × Int × Int × Int × Bool × (List Int) × (List S78)) (r : Bool × Int), measure_L1 x = some r → ∀ (W0 w0 : World) (S : Own), Std W0 w0 S 1 → H Try.prog w0 S 36 (cR (cL (cR (cR (cB Try.f65))))) (mkS [(1, .int .i64 x.1), (2, .pointer (some ⟨0, 0, none⟩)), (3, .pointer (some ⟨1, 0, none⟩)), (21, .bool x.2.1)] [(0, .cells [.int .i64 x.2.2.1] 3 1), (1, .cells [.int .u8 x.2.2.2.1, .int .u32 x.2.2.2.2.1, .bool x.2.2.2.2.2.1, ls 1 false (encI .u8) x.2.2.2.2.2.2.1, ls 5 false enc78 x.2.2.2.2.2.2.2] 78 5)] 2 []) (Kseq Try.prog w0 S 36 (cR (cR (cR (cB Try.f65)))) (KEnd Try.prog Try.f65 (FEnd w0 S (.returned (.bool r.1)) (mkW 1 [] [(0, .cells [.int .i64 r.2] 3 1)]))))) := by
  refine measure_L2.mutual_partial_correctness (fun (x : Int × (List S78) × Int × Int × Int) (r : Bool × Int) => ∀ (W0 w0 : World) (S : Own), Std W0 w0 S 1 → HL Try.prog w0 S 36 (cL (cL (cR (cL (cR (cR (cR (cB Try.f65)))))))) (mkS [(1, .int .i64 x.1), (2, .pointer (some ⟨0, 0, none⟩)), (23, ls 5 false enc78 x.2.1), (24, .int .i64 x.2.2.1), (25, .int .i64 x.2.2.2.1)] [(0, .cells [.int .i64 x.2.2.2.2] 3 1)] 1 []) (Kblock 0 (Kseq Try.prog w0 S 36 (cR (cR (cR (cR (cB Try.f65))))) (KEnd Try.prog Try.f65 (FEnd w0 S (.returned (.bool r.1)) (mkW 1 [] [(0, .cells [.int .i64 r.2] 3 1)])))))) (fun (x : Int × Int × Bool × (List Int) × (List S78) × Int × Int) (r : Bool × Int) => ∀ W0 : World, FTo Try.prog W0 65 #[.agg #[.int .u8 x.1, .int .u32 x.2.1, .bool x.2.2.1, ls 1 false (encI .u8) x.2.2.2.1, ls 5 false enc78 x.2.2.2.2.1], .int .i64 x.2.2.2.2.2.1, .pointer (some ⟨0, 0, none⟩)] (mkW 1 [] [(0, .cells [.int .i64 x.2.2.2.2.2.2] 3 1)]) (.returned (.bool r.1)) (mkW 1 [] [(0, .cells [.int .i64 r.2] 3 1)])) (fun (x : Int × Bool × Int × Int × Int × Bool × (List Int) × (List S78)) (r : Bool × Int) => ∀ (W0 w0 : World) (S : Own), Std W0 w0 S 1 → H Try.prog w0 S 36 (cR (cL (cR (cR (cB Try.f65))))) (mkS [(1, .int .i64 x.1), (2, .pointer (some ⟨0, 0, none⟩)), (3, .pointer (some ⟨1, 0, none⟩)), (21, .bool x.2.1)] [(0, .cells [.int .i64 x.2.2.1] 3 1), (1, .cells [.int .u8 x.2.2.2.1, .int .u32 x.2.2.2.2.1, .bool x.2.2.2.2.2.1, ls 1 false (encI .u8) x.2.2.2.2.2.2.1, ls 5 false enc78 x.2.2.2.2.2.2.2] 78 5)] 2 []) (Kseq Try.prog w0 S 36 (cR (cR (cR (cB Try.f65)))) (KEnd Try.prog Try.f65 (FEnd w0 S (.returned (.bool r.1)) (mkW 1 [] [(0, .cells [.int .i64 r.2] 3 1)]))))) ?_ ?_ ?_
  · intro g_measure_L2 g_measure ih_measure_L2 ih_measure x r h
    intro W0 w0 S hS
    haveI := hS.noEx Try.prog
    refine HL.round ?_
    refine H.sr 1 (by kernel_rfl) ?_
    refine H.seqP (by kernel_rfl) ?_
    refine H.condS (b := decide (x.2.2.2.1 < x.2.2.1)) (by kernel_rfl) (by kernel_rfl) (fun hb => ?_) (fun hb => ?_)
    rotate_left
    · rw [if_neg (of_decide_eq_false hb)] at h
      refine H.exitI 0 (by kernel_rfl) ?_
      refine Kseq_exit ?_
      refine Kloop_exit ?_
      refine Kblock_hit ?_
      refine Kseq_norm ?_
      refine H.sr 1 (by kernel_rfl) ?_
      refine H.retP (by kernel_rfl) ?_
      obtain rfl := Option.some.inj h
      exact KEnd.of (v := .bool true) (by kernel_rfl) (by kernel_rfl) (FEnd.ren hS [0] _ _ (by kernel_rfl))
    rw [if_pos (of_decide_eq_true hb)] at h
    refine H.skipP (by kernel_rfl) ?_
    refine Kseq_norm ?_
    refine H.seqP (by kernel_rfl) ?_
    refine H.blockI 1 (by kernel_rfl) ?_
    refine H.sg (by kernel_rfl) ?_
    obtain ⟨y1, hy, h⟩ := bindS h
    refine HO.idx (.agg #[.int .u8 y1.c0, .int .u32 y1.c1, .bool y1.c2, ls 1 false (encI .u8) y1.c3, ls 5 false enc78 y1.c4]) hy (enc78_eq y1) (by kernel_rfl) ?_
    refine HO.fin 3 (by kernel_rfl) ?_
    refine H.sg (by kernel_rfl) ?_
    refine HO.goP 4 (by kernel_rfl) ?_
    obtain ⟨y2, hy, h⟩ := bindS h
    refine HO.callFW hS (.bool y2.1) 2 [] [(0, .cells [.int .i64 y2.2] 3 1), (1, .cells [.int .u8 y1.c0, .int .u32 y1.c1, .bool y1.c2, ls 1 false (encI .u8) y1.c3, ls 5 false enc78 y1.c4] 78 5)] [0] [.agg [.keep, .keep, .keep, .list 1 false, .list 5 false], .keep, .keep] (ih_measure (y1.c0, y1.c1, y1.c2, y1.c3, y1.c4, (IntKind.i64.wrap (x.1 + 1)), x.2.2.2.2) y2 hy W0) (by kernel_rfl) (by kernel_rfl) ?_
    refine HO.fin 1 (by kernel_rfl) ?_
    refine H.condS (b := !y2.1) (by kernel_rfl) (by kernel_rfl) (fun hb => ?_) (fun hb => ?_)
    rotate_left
    · rw [if_neg (ne_true hb)] at h
      refine H.skipP (by kernel_rfl) ?_
      refine Kblock_norm ?_
      refine Kseq_norm ?_
      refine H.regP (by kernel_rfl) ?_
      refine HO.goP 2 (by kernel_rfl) ?_
      refine HO.done (by kernel_rfl) ?_
      refine Kloop_norm ?_
      exact HL.ren hS [0] _ _ _ (by kernel_rfl) (ih_measure_L2 (x.1, x.2.1, x.2.2.1, (IntKind.i64.wrap (x.2.2.2.1 + 1)), y2.2) r h W0 w0 S hS)
    rw [if_pos hb] at h
    refine H.sr 1 (by kernel_rfl) ?_
    refine H.retP (by kernel_rfl) ?_
    refine Kblock_ret ?_
    refine Kseq_ret ?_
    refine Kloop_ret ?_
    refine Kblock_ret ?_
    refine Kseq_ret ?_
    obtain rfl := Option.some.inj h
    exact KEnd.of (v := .bool false) (by kernel_rfl) (by kernel_rfl) (FEnd.ren hS [0] _ _ (by kernel_rfl))
  · intro g_measure_L1 ih_measure_L1 x r h
    intro W0
    refine FTo.of_body (fn := Try.f65) (code := cB Try.f65) Try.func65 rfl rfl ?_
    intro w0 S hS
    haveI := hS.noEx Try.prog
    refine H.sr 2 (by kernel_rfl) ?_
    refine H.sr 6 (by kernel_rfl) ?_
    refine H.seqP (by kernel_rfl) ?_
    refine H.sg (by kernel_rfl) ?_
    refine HO.goP 2 (by kernel_rfl) ?_
    refine HO.boolP (decide (16 < x.2.2.2.2.2.1)) (by kernel_rfl) (by kernel_rfl) (fun hb => ?_) (fun hb => ?_)
    · rw [if_pos (of_decide_eq_true hb)] at h
      refine HO.fin 5 (by kernel_rfl) ?_
      exact H.ren hS [0, 1] _ _ _ (by kernel_rfl) (ih_measure_L1 (x.2.2.2.2.2.1, true, (IntKind.i64.wrap (x.2.2.2.2.2.2 + 1)), x.1, x.2.1, x.2.2.1, x.2.2.2.1, x.2.2.2.2.1) r h W0 w0 S hS)
    rw [if_neg (of_decide_eq_false hb)] at h
    refine HO.fin 5 (by kernel_rfl) ?_
    exact H.ren hS [0, 1] _ _ _ (by kernel_rfl) (ih_measure_L1 (x.2.2.2.2.2.1, (decide (1024 < (IntKind.i64.wrap (x.2.2.2.2.2.2 + 1)))), (IntKind.i64.wrap (x.2.2.2.2.2.2 + 1)), x.1, x.2.1, x.2.2.1, x.2.2.2.1, x.2.2.2.2.1) r h W0 w0 S hS)
  · intro g_measure_L2 ih_measure_L2 x r h
    intro W0 w0 S hS
    haveI := hS.noEx Try.prog
    refine H.condS (b := x.2.1) (by kernel_rfl) (by kernel_rfl) (fun hb => ?_) (fun hb => ?_)
    · rw [if_pos hb] at h
      refine H.sr 1 (by kernel_rfl) ?_
      refine H.retP (by kernel_rfl) ?_
      refine Kseq_ret ?_
      obtain rfl := Option.some.inj h
      exact KEnd.of (v := .bool false) (by kernel_rfl) (by kernel_rfl) (FEnd.ren hS [0] _ _ (by kernel_rfl))
    rw [if_neg (ne_true hb)] at h
    refine H.skipP (by kernel_rfl) ?_
    refine Kseq_norm ?_
    refine H.seqP (by kernel_rfl) ?_
    refine H.sg (by kernel_rfl) ?_
    refine HO.goP 2 (by kernel_rfl) ?_
    refine HO.len (by kernel_rfl) (by kernel_rfl) (ls_size enc78 x.2.2.2.2.2.2.2) ?_
    refine HO.fin 1 (by kernel_rfl) ?_
    refine H.blockI 0 (by kernel_rfl) ?_
    refine H.loopP (by kernel_rfl) ?_
    exact HL.ren hS [0] _ _ _ (by kernel_rfl) (ih_measure_L2 (x.1, x.2.2.2.2.2.2.2, (x.2.2.2.2.2.2.2.length : Int), 0, x.2.2.1) r h W0 w0 S hS)
theorem measure_L2_ok : ∀ (x : Int × (List S78) × Int × Int × Int) (r : Bool × Int), measure_L2 x = some r → ∀ (W0 w0 : World) (S : Own), Std W0 w0 S 1 → HL Try.prog w0 S 36 (cL (cL (cR (cL (cR (cR (cR (cB Try.f65)))))))) (mkS [(1, .int .i64 x.1), (2, .pointer (some ⟨0, 0, none⟩)), (23, ls 5 false enc78 x.2.1), (24, .int .i64 x.2.2.1), (25, .int .i64 x.2.2.2.1)] [(0, .cells [.int .i64 x.2.2.2.2] 3 1)] 1 []) (Kblock 0 (Kseq Try.prog w0 S 36 (cR (cR (cR (cR (cB Try.f65))))) (KEnd Try.prog Try.f65 (FEnd w0 S (.returned (.bool r.1)) (mkW 1 [] [(0, .cells [.int .i64 r.2] 3 1)]))))) := measure_L2_grp.1
theorem measure_ok : ∀ (x : Int × Int × Bool × (List Int) × (List S78) × Int × Int) (r : Bool × Int), measure x = some r → ∀ W0 : World, FTo Try.prog W0 65 #[.agg #[.int .u8 x.1, .int .u32 x.2.1, .bool x.2.2.1, ls 1 false (encI .u8) x.2.2.2.1, ls 5 false enc78 x.2.2.2.2.1], .int .i64 x.2.2.2.2.2.1, .pointer (some ⟨0, 0, none⟩)] (mkW 1 [] [(0, .cells [.int .i64 x.2.2.2.2.2.2] 3 1)]) (.returned (.bool r.1)) (mkW 1 [] [(0, .cells [.int .i64 r.2] 3 1)]) := measure_L2_grp.2.1
theorem measure_L1_ok : ∀ (x : Int × Bool × Int × Int × Int × Bool × (List Int) × (List S78)) (r : Bool × Int), measure_L1 x = some r → ∀ (W0 w0 : World) (S : Own), Std W0 w0 S 1 → H Try.prog w0 S 36 (cR (cL (cR (cR (cB Try.f65))))) (mkS [(1, .int .i64 x.1), (2, .pointer (some ⟨0, 0, none⟩)), (3, .pointer (some ⟨1, 0, none⟩)), (21, .bool x.2.1)] [(0, .cells [.int .i64 x.2.2.1] 3 1), (1, .cells [.int .u8 x.2.2.2.1, .int .u32 x.2.2.2.2.1, .bool x.2.2.2.2.2.1, ls 1 false (encI .u8) x.2.2.2.2.2.2.1, ls 5 false enc78 x.2.2.2.2.2.2.2] 78 5)] 2 []) (Kseq Try.prog w0 S 36 (cR (cR (cR (cB Try.f65)))) (KEnd Try.prog Try.f65 (FEnd w0 S (.returned (.bool r.1)) (mkW 1 [] [(0, .cells [.int .i64 r.2] 3 1)])))) := measure_L2_grp.2.2
mutual
def indexF_L1 (x : (List S78) × Int × Int) : Option (Int) :=
  if x.2.2 < x.2.1 then
    (at' x.1 x.2.2) >>= fun y1 =>
    (plainF (y1.c0, y1.c1, y1.c2, y1.c3, y1.c4)) >>= fun y2 =>
    if y2 = true then
      some x.2.2
    else
      indexF_L1 (x.1, x.2.1, (IntKind.i64.wrap (x.2.2 + 1)))
  else
    some (-1)
partial_fixpoint
def plainF (x : Int × Int × Bool × (List Int) × (List S78)) : Option (Bool) :=
  (plain (x.1, x.2.1, x.2.2.1, x.2.2.2.1, x.2.2.2.2)) >>= fun y1 =>
  some (!y1)
partial_fixpoint
def plain (x : Int × Int × Bool × (List Int) × (List S78)) : Option (Bool) :=
  if 3 < x.1 then
    plain_L1 (true, x.1, x.2.1, x.2.2.1, x.2.2.2.1, x.2.2.2.2)
  else
    if 2097151 < x.2.1 then
      plain_L1 (true, x.1, x.2.1, x.2.2.1, x.2.2.2.1, x.2.2.2.2)
    else
      if x.1 = 0 then
        plain_L1 ((decide (x.2.1 = 0)), x.1, x.2.1, x.2.2.1, x.2.2.2.1, x.2.2.2.2)
      else
        plain_L1 (false, x.1, x.2.1, x.2.2.1, x.2.2.2.1, x.2.2.2.2)
partial_fixpoint
def plain_L1 (x : Bool × Int × Int × Bool × (List Int) × (List S78)) : Option (Bool) :=
  if x.1 = true then
    some false
  else
    if x.2.2.2.1 = true then
      if 0 < (x.2.2.2.2.1.length : Int) then
        plain_L2 (true, x.2.1, x.2.2.1, x.2.2.2.1, x.2.2.2.2.1, x.2.2.2.2.2)
      else
        if (!x.2.2.2.1) = true then
          plain_L2 ((decide (0 < (x.2.2.2.2.2.length : Int))), x.2.1, x.2.2.1, x.2.2.2.1, x.2.2.2.2.1, x.2.2.2.2.2)
        else
          plain_L2 (false, x.2.1, x.2.2.1, x.2.2.2.1, x.2.2.2.2.1, x.2.2.2.2.2)
    else
      if (!x.2.2.2.1) = true then
        plain_L2 ((decide (0 < (x.2.2.2.2.2.length : Int))), x.2.1, x.2.2.1, x.2.2.2.1, x.2.2.2.2.1, x.2.2.2.2.2)
      else
        plain_L2 (false, x.2.1, x.2.2.1, x.2.2.2.1, x.2.2.2.2.1, x.2.2.2.2.2)
partial_fixpoint
def plain_L2 (x : Bool × Int × Int × Bool × (List Int) × (List S78)) : Option (Bool) :=
  if x.1 = true then
    some false
  else
    (containsF x.2.2.2.2.2) >>= fun y1 =>
    some (!y1)
partial_fixpoint
def containsF (x : (List S78)) : Option (Bool) :=
  (indexF x) >>= fun y1 =>
  some (decide (0 ≤ y1))
partial_fixpoint
def indexF (x : (List S78)) : Option (Int) :=
  indexF_L1 (x, (x.length : Int), 0)
partial_fixpoint
end
theorem indexF_L1_grp : (∀ (x : (List S78) × Int × Int) (r : Int), indexF_L1 x = some r → ∀ (W0 w0 : World) (S : Own), Std W0 w0 S 0 → HL Try.prog w0 S 19 (cL (cL (cR (cL (cR (cB Try.f100)))))) (mkS [(0, ls 5 false enc78 x.1), (1, .func (.func 85) #[] #[]), (7, .int .i64 x.2.1), (8, .int .i64 x.2.2)] [] 0 []) (Kblock 0 (Kseq Try.prog w0 S 19 (cR (cR (cB Try.f100))) (KEnd Try.prog Try.f100 (PEnd w0 S (.returned (.int .i64 r))))))) ∧
  (∀ (x : Int × Int × Bool × (List Int) × (List S78)) (r : Bool), plainF x = some r → ∀ W0 : World, PTo Try.prog W0 85 #[.agg #[.int .u8 x.1, .int .u32 x.2.1, .bool x.2.2.1, ls 1 false (encI .u8) x.2.2.2.1, ls 5 false enc78 x.2.2.2.2]] (.returned (.bool r))) ∧
  (∀ (x : Int × Int × Bool × (List Int) × (List S78)) (r : Bool), plain x = some r → ∀ W0 : World, PTo Try.prog W0 66 #[.agg #[.int .u8 x.1, .int .u32 x.2.1, .bool x.2.2.1, ls 1 false (encI .u8) x.2.2.2.1, ls 5 false enc78 x.2.2.2.2]] (.returned (.bool r))) ∧
  (∀ (x : Bool × Int × Int × Bool × (List Int) × (List S78)) (r : Bool), plain_L1 x = some r → ∀ (W0 w0 : World) (S : Own), Std W0 w0 S 0 → H Try.prog w0 S 44 (cR (cL (cR (cB Try.f66)))) (mkS [(1, .pointer (some ⟨0, 0, none⟩)), (20, .bool x.1)] [(0, .cells [.int .u8 x.2.1, .int .u32 x.2.2.1, .bool x.2.2.2.1, ls 1 false (encI .u8) x.2.2.2.2.1, ls 5 false enc78 x.2.2.2.2.2] 78 5)] 1 []) (Kseq Try.prog w0 S 44 (cR (cR (cB Try.f66))) (KEnd Try.prog Try.f66 (PEnd w0 S (.returned (.bool r)))))) ∧
  (∀ (x : Bool × Int × Int × Bool × (List Int) × (List S78)) (r : Bool), plain_L2 x = some r → ∀ (W0 w0 : World) (S : Own), Std W0 w0 S 0 → H Try.prog w0 S 44 (cR (cL (cR (cR (cB Try.f66))))) (mkS [(1, .pointer (some ⟨0, 0, none⟩)), (39, .bool x.1)] [(0, .cells [.int .u8 x.2.1, .int .u32 x.2.2.1, .bool x.2.2.2.1, ls 1 false (encI .u8) x.2.2.2.2.1, ls 5 false enc78 x.2.2.2.2.2] 78 5)] 1 []) (Kseq Try.prog w0 S 44 (cR (cR (cR (cB Try.f66)))) (KEnd Try.prog Try.f66 (PEnd w0 S (.returned (.bool r)))))) ∧
  (∀ (x : (List S78)) (r : Bool), containsF x = some r → ∀ W0 : World, PTo Try.prog W0 84 #[ls 5 false enc78 x, .func (.func 85) #[] #[]] (.returned (.bool r))) ∧
  (∀ (x : (List S78)) (r : Int), indexF x = some r → ∀ W0 : World, PTo Try.prog W0 100 #[ls 5 false enc78 x, .func (.func 85) #[] #[]] (.returned (.int .i64 r))) := by
  refine indexF_L1.mutual_partial_correctness (fun (x : (List S78) × Int × Int) (r : Int) => ∀ (W0 w0 : World) (S : Own), Std W0 w0 S 0 → HL Try.prog w0 S 19 (cL (cL (cR (cL (cR (cB Try.f100)))))) (mkS [(0, ls 5 false enc78 x.1), (1, .func (.func 85) #[] #[]), (7, .int .i64 x.2.1), (8, .int .i64 x.2.2)] [] 0 []) (Kblock 0 (Kseq Try.prog w0 S 19 (cR (cR (cB Try.f100))) (KEnd Try.prog Try.f100 (PEnd w0 S (.returned (.int .i64 r))))))) (fun (x : Int × Int × Bool × (List Int) × (List S78)) (r : Bool) => ∀ W0 : World, PTo Try.prog W0 85 #[.agg #[.int .u8 x.1, .int .u32 x.2.1, .bool x.2.2.1, ls 1 false (encI .u8) x.2.2.2.1, ls 5 false enc78 x.2.2.2.2]] (.returned (.bool r))) (fun (x : Int × Int × Bool × (List Int) × (List S78)) (r : Bool) => ∀ W0 : World, PTo Try.prog W0 66 #[.agg #[.int .u8 x.1, .int .u32 x.2.1, .bool x.2.2.1, ls 1 false (encI .u8) x.2.2.2.1, ls 5 false enc78 x.2.2.2.2]] (.returned (.bool r))) (fun (x : Bool × Int × Int × Bool × (List Int) × (List S78)) (r : Bool) => ∀ (W0 w0 : World) (S : Own), Std W0 w0 S 0 → H Try.prog w0 S 44 (cR (cL (cR (cB Try.f66)))) (mkS [(1, .pointer (some ⟨0, 0, none⟩)), (20, .bool x.1)] [(0, .cells [.int .u8 x.2.1, .int .u32 x.2.2.1, .bool x.2.2.2.1, ls 1 false (encI .u8) x.2.2.2.2.1, ls 5 false enc78 x.2.2.2.2.2] 78 5)] 1 []) (Kseq Try.prog w0 S 44 (cR (cR (cB Try.f66))) (KEnd Try.prog Try.f66 (PEnd w0 S (.returned (.bool r)))))) (fun (x : Bool × Int × Int × Bool × (List Int) × (List S78)) (r : Bool) => ∀ (W0 w0 : World) (S : Own), Std W0 w0 S 0 → H Try.prog w0 S 44 (cR (cL (cR (cR (cB Try.f66))))) (mkS [(1, .pointer (some ⟨0, 0, none⟩)), (39, .bool x.1)] [(0, .cells [.int .u8 x.2.1, .int .u32 x.2.2.1, .bool x.2.2.2.1, ls 1 false (encI .u8) x.2.2.2.2.1, ls 5 false enc78 x.2.2.2.2.2] 78 5)] 1 []) (Kseq Try.prog w0 S 44 (cR (cR (cR (cB Try.f66)))) (KEnd Try.prog Try.f66 (PEnd w0 S (.returned (.bool r)))))) (fun (x : (List S78)) (r : Bool) => ∀ W0 : World, PTo Try.prog W0 84 #[ls 5 false enc78 x, .func (.func 85) #[] #[]] (.returned (.bool r))) (fun (x : (List S78)) (r : Int) => ∀ W0 : World, PTo Try.prog W0 100 #[ls 5 false enc78 x, .func (.func 85) #[] #[]] (.returned (.int .i64 r))) ?_ ?_ ?_ ?_ ?_ ?_ ?_
  · intro g_indexF_L1 g_plainF ih_indexF_L1 ih_plainF x r h
    intro W0 w0 S hS
    haveI := hS.noEx Try.prog
    refine HL.round ?_
    refine H.sr 1 (by kernel_rfl) ?_
    refine H.seqP (by kernel_rfl) ?_
    refine H.condS (b := decide (x.2.2 < x.2.1)) (by kernel_rfl) (by kernel_rfl) (fun hb => ?_) (fun hb => ?_)
    rotate_left
    · rw [if_neg (of_decide_eq_false hb)] at h
      refine H.exitI 0 (by kernel_rfl) ?_
      refine Kseq_exit ?_
      refine Kloop_exit ?_
      refine Kblock_hit ?_
      refine Kseq_norm ?_
      refine H.sr 1 (by kernel_rfl) ?_
      refine H.retP (by kernel_rfl) ?_
      obtain rfl := Option.some.inj h
      exact KEnd.ret (by kernel_rfl) (by kernel_rfl) (by kernel_rfl)
    rw [if_pos (of_decide_eq_true hb)] at h
    refine H.skipP (by kernel_rfl) ?_
    refine Kseq_norm ?_
    refine H.seqP (by kernel_rfl) ?_
    refine H.blockI 1 (by kernel_rfl) ?_
    refine H.sr 2 (by kernel_rfl) ?_
    refine H.sg (by kernel_rfl) ?_
    refine HO.goP 3 (by kernel_rfl) ?_
    obtain ⟨y1, hy, h⟩ := bindS h
    refine HO.idx (.agg #[.int .u8 y1.c0, .int .u32 y1.c1, .bool y1.c2, ls 1 false (encI .u8) y1.c3, ls 5 false enc78 y1.c4]) hy (enc78_eq y1) (by kernel_rfl) ?_
    refine HO.goP 1 (by kernel_rfl) ?_
    obtain ⟨y2, hy, h⟩ := bindS h
    refine HO.callW hS [.agg [.keep, .keep, .keep, .list 1 false, .list 5 false]] (ih_plainF (y1.c0, y1.c1, y1.c2, y1.c3, y1.c4) y2 hy W0) (by kernel_rfl) (by kernel_rfl) ?_
    refine HO.fin 0 (by kernel_rfl) ?_
    refine H.condS (b := y2) (by kernel_rfl) (by kernel_rfl) (fun hb => ?_) (fun hb => ?_)
    rotate_left
    · rw [if_neg (ne_true hb)] at h
      refine H.skipP (by kernel_rfl) ?_
      refine Kblock_norm ?_
      refine Kseq_norm ?_
      refine H.regP (by kernel_rfl) ?_
      refine HO.goP 2 (by kernel_rfl) ?_
      refine HO.done (by kernel_rfl) ?_
      refine Kloop_norm ?_
      exact HL.ren hS [] _ _ _ (by kernel_rfl) (ih_indexF_L1 (x.1, x.2.1, (IntKind.i64.wrap (x.2.2 + 1))) r h W0 w0 S hS)
    rw [if_pos hb] at h
    refine H.sr 2 (by kernel_rfl) ?_
    refine H.retP (by kernel_rfl) ?_
    refine Kblock_ret ?_
    refine Kseq_ret ?_
    refine Kloop_ret ?_
    refine Kblock_ret ?_
    refine Kseq_ret ?_
    obtain rfl := Option.some.inj h
    exact KEnd.ret (by kernel_rfl) (by kernel_rfl) (by kernel_rfl)
  · intro g_plain ih_plain x r h
    intro W0
    refine PTo.of_body (fn := Try.f85) (code := cB Try.f85) Try.func85 rfl rfl ?_
    intro w0 S hS
    haveI := hS.noEx Try.prog
    refine H.sr 2 (by kernel_rfl) ?_
    refine H.sg (by kernel_rfl) ?_
    refine HO.goP 1 (by kernel_rfl) ?_
    obtain ⟨y1, hy, h⟩ := bindS h
    refine HO.callW hS [.agg [.keep, .keep, .keep, .list 1 false, .list 5 false]] (ih_plain (x.1, x.2.1, x.2.2.1, x.2.2.2.1, x.2.2.2.2) y1 hy W0) (by kernel_rfl) (by kernel_rfl) ?_
    refine HO.fin 2 (by kernel_rfl) ?_
    refine H.retP (by kernel_rfl) ?_
    obtain rfl := Option.some.inj h
    exact KEnd.ret (by kernel_rfl) (by kernel_rfl) (by kernel_rfl)
  · intro g_plain_L1 ih_plain_L1 x r h
    intro W0
    refine PTo.of_body (fn := Try.f66) (code := cB Try.f66) Try.func66 rfl rfl ?_
    intro w0 S hS
    haveI := hS.noEx Try.prog
    refine H.sr 2 (by kernel_rfl) ?_
    refine H.seqP (by kernel_rfl) ?_
    refine H.sg (by kernel_rfl) ?_
    refine HO.goP 3 (by kernel_rfl) ?_
    refine HO.boolP (decide (3 < x.1)) (by kernel_rfl) (by kernel_rfl) (fun hb => ?_) (fun hb => ?_)
    · rw [if_pos (of_decide_eq_true hb)] at h
      refine HO.fin 14 (by kernel_rfl) ?_
      exact H.ren hS [0] _ _ _ (by kernel_rfl) (ih_plain_L1 (true, x.1, x.2.1, x.2.2.1, x.2.2.2.1, x.2.2.2.2) r h W0 w0 S hS)
    rw [if_neg (of_decide_eq_false hb)] at h
    refine HO.goP 4 (by kernel_rfl) ?_
    refine HO.boolP (decide (2097151 < x.2.1)) (by kernel_rfl) (by kernel_rfl) (fun hb => ?_) (fun hb => ?_)
    · rw [if_pos (of_decide_eq_true hb)] at h
      refine HO.fin 9 (by kernel_rfl) ?_
      exact H.ren hS [0] _ _ _ (by kernel_rfl) (ih_plain_L1 (true, x.1, x.2.1, x.2.2.1, x.2.2.2.1, x.2.2.2.2) r h W0 w0 S hS)
    rw [if_neg (of_decide_eq_false hb)] at h
    refine HO.goP 3 (by kernel_rfl) ?_
    refine HO.boolP (decide (x.1 = 0)) (by kernel_rfl) (by kernel_rfl) (fun hb => ?_) (fun hb => ?_)
    · rw [if_pos (of_decide_eq_true hb)] at h
      refine HO.fin 5 (by kernel_rfl) ?_
      exact H.ren hS [0] _ _ _ (by kernel_rfl) (ih_plain_L1 ((decide (x.2.1 = 0)), x.1, x.2.1, x.2.2.1, x.2.2.2.1, x.2.2.2.2) r h W0 w0 S hS)
    rw [if_neg (of_decide_eq_false hb)] at h
    refine HO.fin 5 (by kernel_rfl) ?_
    exact H.ren hS [0] _ _ _ (by kernel_rfl) (ih_plain_L1 (false, x.1, x.2.1, x.2.2.1, x.2.2.2.1, x.2.2.2.2) r h W0 w0 S hS)
  · intro g_plain_L2 ih_plain_L2 x r h
    intro W0 w0 S hS
    haveI := hS.noEx Try.prog
    refine H.condS (b := x.1) (by kernel_rfl) (by kernel_rfl) (fun hb => ?_) (fun hb => ?_)
    · rw [if_pos hb] at h
      refine H.sr 1 (by kernel_rfl) ?_
      refine H.retP (by kernel_rfl) ?_
      refine Kseq_ret ?_
      obtain rfl := Option.some.inj h
      exact KEnd.ret (by kernel_rfl) (by kernel_rfl) (by kernel_rfl)
    rw [if_neg (ne_true hb)] at h
    refine H.skipP (by kernel_rfl) ?_
    refine Kseq_norm ?_
    refine H.seqP (by kernel_rfl) ?_
    refine H.sg (by kernel_rfl) ?_
    refine HO.goP 2 (by kernel_rfl) ?_
    refine HO.boolP x.2.2.2.1 (by kernel_rfl) (by kernel_rfl) (fun hb => ?_) (fun hb => ?_)
    rotate_left
    · rw [if_neg (ne_true hb)] at h
      refine HO.goP 9 (by kernel_rfl) ?_
      refine HO.boolP (!x.2.2.2.1) (by kernel_rfl) (by kernel_rfl) (fun hb => ?_) (fun hb => ?_)
      rotate_left
      · rw [if_neg (ne_true hb)] at h
        refine HO.fin 6 (by kernel_rfl) ?_
        exact H.ren hS [0] _ _ _ (by kernel_rfl) (ih_plain_L2 (false, x.2.1, x.2.2.1, x.2.2.2.1, x.2.2.2.2.1, x.2.2.2.2.2) r h W0 w0 S hS)
      rw [if_pos hb] at h
      refine HO.goP 2 (by kernel_rfl) ?_
      refine HO.len (by kernel_rfl) (by kernel_rfl) (ls_size enc78 x.2.2.2.2.2) ?_
      refine HO.fin 3 (by kernel_rfl) ?_
      exact H.ren hS [0] _ _ _ (by kernel_rfl) (ih_plain_L2 ((decide (0 < (x.2.2.2.2.2.length : Int))), x.2.1, x.2.2.1, x.2.2.2.1, x.2.2.2.2.1, x.2.2.2.2.2) r h W0 w0 S hS)
    rw [if_pos hb] at h
    refine HO.goP 2 (by kernel_rfl) ?_
    refine HO.len (by kernel_rfl) (by kernel_rfl) (ls_size (encI .u8) x.2.2.2.2.1) ?_
    refine HO.goP 2 (by kernel_rfl) ?_
    refine HO.boolP (decide (0 < (x.2.2.2.2.1.length : Int))) (by kernel_rfl) (by kernel_rfl) (fun hb => ?_) (fun hb => ?_)
    · rw [if_pos (of_decide_eq_true hb)] at h
      refine HO.fin 10 (by kernel_rfl) ?_
      exact H.ren hS [0] _ _ _ (by kernel_rfl) (ih_plain_L2 (true, x.2.1, x.2.2.1, x.2.2.2.1, x.2.2.2.2.1, x.2.2.2.2.2) r h W0 w0 S hS)
    rw [if_neg (of_decide_eq_false hb)] at h
    refine HO.goP 3 (by kernel_rfl) ?_
    refine HO.boolP (!x.2.2.2.1) (by kernel_rfl) (by kernel_rfl) (fun hb => ?_) (fun hb => ?_)
    rotate_left
    · rw [if_neg (ne_true hb)] at h
      refine HO.fin 6 (by kernel_rfl) ?_
      exact H.ren hS [0] _ _ _ (by kernel_rfl) (ih_plain_L2 (false, x.2.1, x.2.2.1, x.2.2.2.1, x.2.2.2.2.1, x.2.2.2.2.2) r h W0 w0 S hS)
    rw [if_pos hb] at h
    refine HO.goP 2 (by kernel_rfl) ?_
    refine HO.len (by kernel_rfl) (by kernel_rfl) (ls_size enc78 x.2.2.2.2.2) ?_
    refine HO.fin 3 (by kernel_rfl) ?_
    exact H.ren hS [0] _ _ _ (by kernel_rfl) (ih_plain_L2 ((decide (0 < (x.2.2.2.2.2.length : Int))), x.2.1, x.2.2.1, x.2.2.2.1, x.2.2.2.2.1, x.2.2.2.2.2) r h W0 w0 S hS)
  · intro g_containsF ih_containsF x r h
    intro W0 w0 S hS
    haveI := hS.noEx Try.prog
    refine H.condS (b := x.1) (by kernel_rfl) (by kernel_rfl) (fun hb => ?_) (fun hb => ?_)
    · rw [if_pos hb] at h
      refine H.sr 1 (by kernel_rfl) ?_
      refine H.retP (by kernel_rfl) ?_
      refine Kseq_ret ?_
      obtain rfl := Option.some.inj h
      exact KEnd.ret (by kernel_rfl) (by kernel_rfl) (by kernel_rfl)
    rw [if_neg (ne_true hb)] at h
    refine H.skipP (by kernel_rfl) ?_
    refine Kseq_norm ?_
    refine H.sg (by kernel_rfl) ?_
    refine HO.goP 2 (by kernel_rfl) ?_
    obtain ⟨y1, hy, h⟩ := bindS h
    refine HO.callW hS [.list 5 false, .keep] (ih_containsF x.2.2.2.2.2 y1 hy W0) (by kernel_rfl) (by kernel_rfl) ?_
    refine HO.fin 2 (by kernel_rfl) ?_
    refine H.retP (by kernel_rfl) ?_
    obtain rfl := Option.some.inj h
    exact KEnd.ret (by kernel_rfl) (by kernel_rfl) (by kernel_rfl)
  · intro g_indexF ih_indexF x r h
    intro W0
    refine PTo.of_body (fn := Try.f84) (code := cB Try.f84) Try.func84 rfl rfl ?_
    intro w0 S hS
    haveI := hS.noEx Try.prog
    refine H.sr 1 (by kernel_rfl) ?_
    refine H.sg (by kernel_rfl) ?_
    refine HO.goP 2 (by kernel_rfl) ?_
    obtain ⟨y1, hy, h⟩ := bindS h
    refine HO.callW hS [.list 5 false, .keep] (ih_indexF x y1 hy W0) (by kernel_rfl) (by kernel_rfl) ?_
    refine HO.fin 2 (by kernel_rfl) ?_
    refine H.retP (by kernel_rfl) ?_
    obtain rfl := Option.some.inj h
    exact KEnd.ret (by kernel_rfl) (by kernel_rfl) (by kernel_rfl)
  · intro g_indexF_L1 ih_indexF_L1 x r h
    intro W0
    refine PTo.of_body (fn := Try.f100) (code := cB Try.f100) Try.func100 rfl rfl ?_
    intro w0 S hS
    haveI := hS.noEx Try.prog
    refine H.sr 1 (by kernel_rfl) ?_
    refine H.seqP (by kernel_rfl) ?_
    refine H.sg (by kernel_rfl) ?_
    refine HO.goP 1 (by kernel_rfl) ?_
    refine HO.len (by kernel_rfl) (by kernel_rfl) (ls_size enc78 x) ?_
    refine HO.fin 1 (by kernel_rfl) ?_
    refine H.blockI 0 (by kernel_rfl) ?_
    refine H.loopP (by kernel_rfl) ?_
    exact HL.ren hS [] _ _ _ (by kernel_rfl) (ih_indexF_L1 (x, (x.length : Int), 0) r h W0 w0 S hS)
theorem indexF_L1_ok : ∀ (x : (List S78) × Int × Int) (r : Int), indexF_L1 x = some r → ∀ (W0 w0 : World) (S : Own), Std W0 w0 S 0 → HL Try.prog w0 S 19 (cL (cL (cR (cL (cR (cB Try.f100)))))) (mkS [(0, ls 5 false enc78 x.1), (1, .func (.func 85) #[] #[]), (7, .int .i64 x.2.1), (8, .int .i64 x.2.2)] [] 0 []) (Kblock 0 (Kseq Try.prog w0 S 19 (cR (cR (cB Try.f100))) (KEnd Try.prog Try.f100 (PEnd w0 S (.returned (.int .i64 r)))))) := indexF_L1_grp.1
theorem plainF_ok : ∀ (x : Int × Int × Bool × (List Int) × (List S78)) (r : Bool), plainF x = some r → ∀ W0 : World, PTo Try.prog W0 85 #[.agg #[.int .u8 x.1, .int .u32 x.2.1, .bool x.2.2.1, ls 1 false (encI .u8) x.2.2.2.1, ls 5 false enc78 x.2.2.2.2]] (.returned (.bool r)) := indexF_L1_grp.2.1
theorem plain_ok : ∀ (x : Int × Int × Bool × (List Int) × (List S78)) (r : Bool), plain x = some r → ∀ W0 : World, PTo Try.prog W0 66 #[.agg #[.int .u8 x.1, .int .u32 x.2.1, .bool x.2.2.1, ls 1 false (encI .u8) x.2.2.2.1, ls 5 false enc78 x.2.2.2.2]] (.returned (.bool r)) := indexF_L1_grp.2.2.1
theorem plain_L1_ok : ∀ (x : Bool × Int × Int × Bool × (List Int) × (List S78)) (r : Bool), plain_L1 x = some r → ∀ (W0 w0 : World) (S : Own), Std W0 w0 S 0 → H Try.prog w0 S 44 (cR (cL (cR (cB Try.f66)))) (mkS [(1, .pointer (some ⟨0, 0, none⟩)), (20, .bool x.1)] [(0, .cells [.int .u8 x.2.1, .int .u32 x.2.2.1, .bool x.2.2.2.1, ls 1 false (encI .u8) x.2.2.2.2.1, ls 5 false enc78 x.2.2.2.2.2] 78 5)] 1 []) (Kseq Try.prog w0 S 44 (cR (cR (cB Try.f66))) (KEnd Try.prog Try.f66 (PEnd w0 S (.returned (.bool r))))) := indexF_L1_grp.2.2.2.1
theorem plain_L2_ok : ∀ (x : Bool × Int × Int × Bool × (List Int) × (List S78)) (r : Bool), plain_L2 x = some r → ∀ (W0 w0 : World) (S : Own), Std W0 w0 S 0 → H Try.prog w0 S 44 (cR (cL (cR (cR (cB Try.f66))))) (mkS [(1, .pointer (some ⟨0, 0, none⟩)), (39, .bool x.1)] [(0, .cells [.int .u8 x.2.1, .int .u32 x.2.2.1, .bool x.2.2.2.1, ls 1 false (encI .u8) x.2.2.2.2.1, ls 5 false enc78 x.2.2.2.2.2] 78 5)] 1 []) (Kseq Try.prog w0 S 44 (cR (cR (cR (cB Try.f66)))) (KEnd Try.prog Try.f66 (PEnd w0 S (.returned (.bool r))))) := indexF_L1_grp.2.2.2.2.1
theorem containsF_ok : ∀ (x : (List S78)) (r : Bool), containsF x = some r → ∀ W0 : World, PTo Try.prog W0 84 #[ls 5 false enc78 x, .func (.func 85) #[] #[]] (.returned (.bool r)) := indexF_L1_grp.2.2.2.2.2.1
theorem indexF_ok : ∀ (x : (List S78)) (r : Int), indexF x = some r → ∀ W0 : World, PTo Try.prog W0 100 #[ls 5 false enc78 x, .func (.func 85) #[] #[]] (.returned (.int .i64 r)) := indexF_L1_grp.2.2.2.2.2.2
def check (x : Int × Int × Bool × (List Int) × (List S78)) : Option (Int) :=
  (measure (x.1, x.2.1, x.2.2.1, x.2.2.2.1, x.2.2.2.2, 1, 0)) >>= fun y1 =>
  if (!y1.1) = true then
    some 3
  else
    (plain (x.1, x.2.1, x.2.2.1, x.2.2.2.1, x.2.2.2.2)) >>= fun y2 =>
    if (!y2) = true then
      some 1
    else
      some 0
theorem check_ok : ∀ (x : Int × Int × Bool × (List Int) × (List S78)) (r : Int), check x = some r → ∀ W0 : World, PTo Try.prog W0 54 #[.agg #[.int .u8 x.1, .int .u32 x.2.1, .bool x.2.2.1, ls 1 false (encI .u8) x.2.2.2.1, ls 5 false enc78 x.2.2.2.2]] (.returned (.int .i64 r)) := by
  intro x r h
  unfold check at h
  intro W0
  refine PTo.of_body (fn := Try.f54) (code := cB Try.f54) Try.func54 rfl rfl ?_
  intro w0 S hS
  haveI := hS.noEx Try.prog
  refine H.sr 2 (by kernel_rfl) ?_
  refine H.sr 2 (by kernel_rfl) ?_
  refine H.seqP (by kernel_rfl) ?_
  refine H.blockI 0 (by kernel_rfl) ?_
  refine H.sg (by kernel_rfl) ?_
  refine HO.goP 1 (by kernel_rfl) ?_
  obtain ⟨y1, hy, h⟩ := bindS h
  refine HO.callFW hS (.bool y1.1) 2 [] [(0, .cells [.int .u8 x.1, .int .u32 x.2.1, .bool x.2.2.1, ls 1 false (encI .u8) x.2.2.2.1, ls 5 false enc78 x.2.2.2.2] 78 5), (1, .cells [.int .i64 y1.2] 3 1)] [1] [.agg [.keep, .keep, .keep, .list 1 false, .list 5 false], .keep, .keep] (measure_ok (x.1, x.2.1, x.2.2.1, x.2.2.2.1, x.2.2.2.2, 1, 0) y1 hy W0) (by kernel_rfl) (by kernel_rfl) ?_
  refine HO.fin 2 (by kernel_rfl) ?_
  refine H.condS (b := !y1.1) (by kernel_rfl) (by kernel_rfl) (fun hb => ?_) (fun hb => ?_)
  · rw [if_pos hb] at h
    refine H.sr 1 (by kernel_rfl) ?_
    refine H.retP (by kernel_rfl) ?_
    refine Kblock_ret ?_
    refine Kseq_ret ?_
    obtain rfl := Option.some.inj h
    exact KEnd.ret (by kernel_rfl) (by kernel_rfl) (by kernel_rfl)
  rw [if_neg (ne_true hb)] at h
  refine H.sg (by kernel_rfl) ?_
  refine HO.goP 1 (by kernel_rfl) ?_
  obtain ⟨y2, hy, h⟩ := bindS h
  refine HO.callW hS [.agg [.keep, .keep, .keep, .list 1 false, .list 5 false]] (plain_ok (x.1, x.2.1, x.2.2.1, x.2.2.2.1, x.2.2.2.2) y2 hy W0) (by kernel_rfl) (by kernel_rfl) ?_
  refine HO.fin 2 (by kernel_rfl) ?_
  refine H.condS (b := !y2) (by kernel_rfl) (by kernel_rfl) (fun hb => ?_) (fun hb => ?_)
  · rw [if_pos hb] at h
    refine H.sr 1 (by kernel_rfl) ?_
    refine H.retP (by kernel_rfl) ?_
    refine Kblock_ret ?_
    refine Kseq_ret ?_
    obtain rfl := Option.some.inj h
    exact KEnd.ret (by kernel_rfl) (by kernel_rfl) (by kernel_rfl)
  rw [if_neg (ne_true hb)] at h
  refine H.skipP (by kernel_rfl) ?_
  refine Kblock_norm ?_
  refine Kseq_norm ?_
  refine H.sr 1 (by kernel_rfl) ?_
  refine H.retP (by kernel_rfl) ?_
  obtain rfl := Option.some.inj h
  exact KEnd.ret (by kernel_rfl) (by kernel_rfl) (by kernel_rfl)
def identifier_L3 (x : (List Int) × Int × Int × Int × Bool × (List Int) × (List S78)) : Option ((List Int)) :=
  if 0 < x.2.1 then
    (shr' .u32 x.2.2.2.1 x.2.1) >>= fun y4 =>
    (app' 1 x.1 [(bOr .u8 (IntKind.u8.wrap y4) 128)]) >>= fun y5 =>
    identifier_L3 (y5, (IntKind.i64.wrap (x.2.1 - 7)), x.2.2.1, x.2.2.2.1, x.2.2.2.2.1, x.2.2.2.2.2.1, x.2.2.2.2.2.2)
  else
    (app' 1 x.1 [(IntKind.u8.wrap (bAnd .u32 x.2.2.2.1 127))]) >>= fun y6 =>
    some y6
partial_fixpoint
theorem identifier_L3_ok : ∀ (x : (List Int) × Int × Int × Int × Bool × (List Int) × (List S78)) (r : (List Int)), identifier_L3 x = some r → ∀ (W0 w0 : World) (S : Own), Std W0 w0 S 0 → HL Try.prog w0 S 58 (cL (cL (cL (cR (cR (cR (cR (cR (cR (cR (cB Try.f68))))))))))) (mkS [(0, tl 1 0 (encI .u8) x.1), (3, .pointer (some ⟨1, 0, none⟩)), (6, .int .i64 x.2.1)] [(1, .cells [.int .u8 x.2.2.1, .int .u32 x.2.2.2.1, .bool x.2.2.2.2.1, ls 1 false (encI .u8) x.2.2.2.2.2.1, ls 5 false enc78 x.2.2.2.2.2.2] 78 5)] 2 [0]) (Kblock 2 (Kseq Try.prog w0 S 58 (cR (cR (cR (cR (cR (cR (cR (cR (cB Try.f68))))))))) (KEnd Try.prog Try.f68 (FEnd w0 S (.returned (tl 1 0 (encI .u8) r)) (mkW 1 [0] []))))) := by
  refine identifier_L3.partial_correctness (fun (x : (List Int) × Int × Int × Int × Bool × (List Int) × (List S78)) (r : (List Int)) => ∀ (W0 w0 : World) (S : Own), Std W0 w0 S 0 → HL Try.prog w0 S 58 (cL (cL (cL (cR (cR (cR (cR (cR (cR (cR (cB Try.f68))))))))))) (mkS [(0, tl 1 0 (encI .u8) x.1), (3, .pointer (some ⟨1, 0, none⟩)), (6, .int .i64 x.2.1)] [(1, .cells [.int .u8 x.2.2.1, .int .u32 x.2.2.2.1, .bool x.2.2.2.2.1, ls 1 false (encI .u8) x.2.2.2.2.2.1, ls 5 false enc78 x.2.2.2.2.2.2] 78 5)] 2 [0]) (Kblock 2 (Kseq Try.prog w0 S 58 (cR (cR (cR (cR (cR (cR (cR (cR (cB Try.f68))))))))) (KEnd Try.prog Try.f68 (FEnd w0 S (.returned (tl 1 0 (encI .u8) r)) (mkW 1 [0] [])))))) ?_
  intro self ih_identifier_L3 x r h
  intro W0 w0 S hS
  haveI := hS.noEx Try.prog
  refine HL.round ?_
  refine H.seqP (by kernel_rfl) ?_
  refine H.sr 2 (by kernel_rfl) ?_
  refine H.condS (b := decide (0 < x.2.1)) (by kernel_rfl) (by kernel_rfl) (fun hb => ?_) (fun hb => ?_)
  rotate_left
  · rw [if_neg (of_decide_eq_false hb)] at h
    refine H.exitI 2 (by kernel_rfl) ?_
    refine Kseq_exit ?_
    refine Kloop_exit ?_
    refine Kblock_hit ?_
    refine Kseq_norm ?_
    refine H.sg (by kernel_rfl) ?_
    refine HO.goP 6 (by kernel_rfl) ?_
    obtain ⟨y6, hy, h⟩ := bindS h
    refine HO.effA (app1_aop (enc := (encI .u8)) (k := 1) false 1 [.int .u8 (IntKind.u8.wrap (bAnd .u32 x.2.2.2.1 127))] [] hy (by kernel_rfl) (by kernel_rfl) (by kernel_rfl)) ?_
    refine HO.fin 1 (by kernel_rfl) ?_
    refine H.retP (by kernel_rfl) ?_
    obtain rfl := Option.some.inj h
    exact KEnd.of (v := tl 1 3 (encI .u8) y6) (by kernel_rfl) (by kernel_rfl) (FEnd.ren hS [3] _ _ (by kernel_rfl))
  rw [if_pos (of_decide_eq_true hb)] at h
  refine H.skipP (by kernel_rfl) ?_
  refine Kseq_norm ?_
  refine H.seqP (by kernel_rfl) ?_
  refine H.blockI 3 (by kernel_rfl) ?_
  refine H.regP (by kernel_rfl) ?_
  refine HO.goP 4 (by kernel_rfl) ?_
  obtain ⟨y4, hy, h⟩ := bindS h
  refine HO.valA (shr_aop hy (by kernel_rfl)) ?_
  refine HO.goP 3 (by kernel_rfl) ?_
  obtain ⟨y5, hy, h⟩ := bindS h
  refine HO.effA (app1_aop (enc := (encI .u8)) (k := 1) false 1 [.int .u8 (bOr .u8 (IntKind.u8.wrap y4) 128)] [] hy (by kernel_rfl) (by kernel_rfl) (by kernel_rfl)) ?_
  refine HO.goP 1 (by kernel_rfl) ?_
  refine HO.done (by kernel_rfl) ?_
  refine Kblock_norm ?_
  refine Kseq_norm ?_
  refine H.regP (by kernel_rfl) ?_
  refine HO.goP 3 (by kernel_rfl) ?_
  refine HO.done (by kernel_rfl) ?_
  refine Kloop_norm ?_
  exact HL.ren hS [3, 1] _ _ _ (by kernel_rfl) (ih_identifier_L3 (y5, (IntKind.i64.wrap (x.2.1 - 7)), x.2.2.1, x.2.2.2.1, x.2.2.2.2.1, x.2.2.2.2.2.1, x.2.2.2.2.2.2) r h W0 w0 S hS)
def identifier_L2 (x : (List Int) × Int × Int × Int × Bool × (List Int) × (List S78)) : Option ((List Int)) :=
  (shr' .u32 x.2.2.2.1 (IntKind.i64.wrap (x.2.1 + 7))) >>= fun y3 =>
  if 0 < y3 then
    identifier_L2 (x.1, (IntKind.i64.wrap (x.2.1 + 7)), x.2.2.1, x.2.2.2.1, x.2.2.2.2.1, x.2.2.2.2.2.1, x.2.2.2.2.2.2)
  else
    identifier_L3 (x.1, x.2.1, x.2.2.1, x.2.2.2.1, x.2.2.2.2.1, x.2.2.2.2.2.1, x.2.2.2.2.2.2)
partial_fixpoint
theorem identifier_L2_ok : ∀ (x : (List Int) × Int × Int × Int × Bool × (List Int) × (List S78)) (r : (List Int)), identifier_L2 x = some r → ∀ (W0 w0 : World) (S : Own), Std W0 w0 S 0 → HL Try.prog w0 S 58 (cL (cL (cL (cR (cR (cR (cR (cR (cR (cB Try.f68)))))))))) (mkS [(0, tl 1 0 (encI .u8) x.1), (3, .pointer (some ⟨1, 0, none⟩)), (6, .int .i64 x.2.1)] [(1, .cells [.int .u8 x.2.2.1, .int .u32 x.2.2.2.1, .bool x.2.2.2.2.1, ls 1 false (encI .u8) x.2.2.2.2.2.1, ls 5 false enc78 x.2.2.2.2.2.2] 78 5)] 2 [0]) (Kblock 0 (Kseq Try.prog w0 S 58 (cR (cR (cR (cR (cR (cR (cR (cB Try.f68)))))))) (KEnd Try.prog Try.f68 (FEnd w0 S (.returned (tl 1 0 (encI .u8) r)) (mkW 1 [0] []))))) := by
  refine identifier_L2.partial_correctness (fun (x : (List Int) × Int × Int × Int × Bool × (List Int) × (List S78)) (r : (List Int)) => ∀ (W0 w0 : World) (S : Own), Std W0 w0 S 0 → HL Try.prog w0 S 58 (cL (cL (cL (cR (cR (cR (cR (cR (cR (cB Try.f68)))))))))) (mkS [(0, tl 1 0 (encI .u8) x.1), (3, .pointer (some ⟨1, 0, none⟩)), (6, .int .i64 x.2.1)] [(1, .cells [.int .u8 x.2.2.1, .int .u32 x.2.2.2.1, .bool x.2.2.2.2.1, ls 1 false (encI .u8) x.2.2.2.2.2.1, ls 5 false enc78 x.2.2.2.2.2.2] 78 5)] 2 [0]) (Kblock 0 (Kseq Try.prog w0 S 58 (cR (cR (cR (cR (cR (cR (cR (cB Try.f68)))))))) (KEnd Try.prog Try.f68 (FEnd w0 S (.returned (tl 1 0 (encI .u8) r)) (mkW 1 [0] [])))))) ?_
  intro self ih_identifier_L2 x r h
  intro W0 w0 S hS
  haveI := hS.noEx Try.prog
  refine HL.round ?_
  refine H.seqP (by kernel_rfl) ?_
  refine H.sg (by kernel_rfl) ?_
  refine HO.goP 4 (by kernel_rfl) ?_
  obtain ⟨y3, hy, h⟩ := bindS h
  refine HO.valA (shr_aop hy (by kernel_rfl)) ?_
  refine HO.fin 1 (by kernel_rfl) ?_
  refine H.condS (b := decide (0 < y3)) (by kernel_rfl) (by kernel_rfl) (fun hb => ?_) (fun hb => ?_)
  · rw [if_pos (of_decide_eq_true hb)] at h
    refine H.skipP (by kernel_rfl) ?_
    refine Kseq_norm ?_
    refine H.blockI 1 (by kernel_rfl) ?_
    refine H.regP (by kernel_rfl) ?_
    refine HO.goP 3 (by kernel_rfl) ?_
    refine HO.done (by kernel_rfl) ?_
    refine Kblock_norm ?_
    refine Kloop_norm ?_
    exact HL.ren hS [0, 1] _ _ _ (by kernel_rfl) (ih_identifier_L2 (x.1, (IntKind.i64.wrap (x.2.1 + 7)), x.2.2.1, x.2.2.2.1, x.2.2.2.2.1, x.2.2.2.2.2.1, x.2.2.2.2.2.2) r h W0 w0 S hS)
  rw [if_neg (of_decide_eq_false hb)] at h
  refine H.exitI 0 (by kernel_rfl) ?_
  refine Kseq_exit ?_
  refine Kloop_exit ?_
  refine Kblock_hit ?_
  refine Kseq_norm ?_
  refine H.seqP (by kernel_rfl) ?_
  refine H.blockI 2 (by kernel_rfl) ?_
  refine H.loopP (by kernel_rfl) ?_
  exact HL.ren hS [0, 1] _ _ _ (by kernel_rfl) (identifier_L3_ok (x.1, x.2.1, x.2.2.1, x.2.2.2.1, x.2.2.2.2.1, x.2.2.2.2.2.1, x.2.2.2.2.2.2) r h W0 w0 S hS)
def identifier_L1 (x : Int × Int × Int × Bool × (List Int) × (List S78)) : Option ((List Int)) :=
  if x.2.2.1 < 31 then
    (app' 1 [] [(bOr .u8 x.1 (IntKind.u8.wrap x.2.2.1))]) >>= fun y1 =>
    some y1
  else
    (app' 1 [] [(bOr .u8 x.1 31)]) >>= fun y2 =>
    identifier_L2 (y2, 0, x.2.1, x.2.2.1, x.2.2.2.1, x.2.2.2.2.1, x.2.2.2.2.2)
theorem identifier_L1_ok : ∀ (x : Int × Int × Int × Bool × (List Int) × (List S78)) (r : (List Int)), identifier_L1 x = some r → ∀ (W0 w0 : World) (S : Own), Std W0 w0 S 0 → H Try.prog w0 S 58 (cR (cR (cR (cB Try.f68)))) (mkS [(0, .slice none 0 0), (3, .pointer (some ⟨0, 0, none⟩)), (5, .int .u8 x.1)] [(0, .cells [.int .u8 x.2.1, .int .u32 x.2.2.1, .bool x.2.2.2.1, ls 1 false (encI .u8) x.2.2.2.2.1, ls 5 false enc78 x.2.2.2.2.2] 78 5)] 1 []) (KEnd Try.prog Try.f68 (FEnd w0 S (.returned (tl 1 0 (encI .u8) r)) (mkW 1 [0] []))) := by
  intro x r h
  unfold identifier_L1 at h
  intro W0 w0 S hS
  haveI := hS.noEx Try.prog
  refine H.seqP (by kernel_rfl) ?_
  refine H.sr 3 (by kernel_rfl) ?_
  refine H.condS (b := decide (x.2.2.1 < 31)) (by kernel_rfl) (by kernel_rfl) (fun hb => ?_) (fun hb => ?_)
  · rw [if_pos (of_decide_eq_true hb)] at h
    refine H.sg (by kernel_rfl) ?_
    refine HO.goP 7 (by kernel_rfl) ?_
    refine HO.tok 17 1 (es := #[]) (by kernel_rfl) ?_
    obtain ⟨y1, hy, h⟩ := bindS h
    refine HO.effA (app1_aop (enc := (encI .u8)) (k := 1) false 1 [.int .u8 (bOr .u8 x.1 (IntKind.u8.wrap x.2.2.1))] [] hy (by kernel_rfl) (by kernel_rfl) (by kernel_rfl)) ?_
    refine HO.fin 1 (by kernel_rfl) ?_
    refine H.retP (by kernel_rfl) ?_
    refine Kseq_ret ?_
    obtain rfl := Option.some.inj h
    exact KEnd.of (v := tl 1 3 (encI .u8) y1) (by kernel_rfl) (by kernel_rfl) (FEnd.ren hS [3] _ _ (by kernel_rfl))
  rw [if_neg (of_decide_eq_false hb)] at h
  refine H.skipP (by kernel_rfl) ?_
  refine Kseq_norm ?_
  refine H.sg (by kernel_rfl) ?_
  refine HO.goP 4 (by kernel_rfl) ?_
  refine HO.tok 25 1 (es := #[]) (by kernel_rfl) ?_
  obtain ⟨y2, hy, h⟩ := bindS h
  refine HO.effA (app1_aop (enc := (encI .u8)) (k := 1) false 1 [.int .u8 (bOr .u8 x.1 31)] [] hy (by kernel_rfl) (by kernel_rfl) (by kernel_rfl)) ?_
  refine HO.fin 1 (by kernel_rfl) ?_
  refine H.sr 1 (by kernel_rfl) ?_
  refine H.seqP (by kernel_rfl) ?_
  refine H.blockI 0 (by kernel_rfl) ?_
  refine H.loopP (by kernel_rfl) ?_
  exact HL.ren hS [3, 0] _ _ _ (by kernel_rfl) (identifier_L2_ok (y2, 0, x.2.1, x.2.2.1, x.2.2.2.1, x.2.2.2.2.1, x.2.2.2.2.2) r h W0 w0 S hS)
def identifier (x : Int × Int × Bool × (List Int) × (List S78)) : Option ((List Int)) :=
  if x.2.2.1 = true then
    identifier_L1 ((bOr .u8 (shlI .u8 x.1 6) 32), x.1, x.2.1, x.2.2.1, x.2.2.2.1, x.2.2.2.2)
  else
    identifier_L1 ((shlI .u8 x.1 6), x.1, x.2.1, x.2.2.1, x.2.2.2.1, x.2.2.2.2)
theorem identifier_ok : ∀ (x : Int × Int × Bool × (List Int) × (List S78)) (r : (List Int)), identifier x = some r → ∀ W0 : World, FTo Try.prog W0 68 #[.slice none 0 0, .agg #[.int .u8 x.1, .int .u32 x.2.1, .bool x.2.2.1, ls 1 false (encI .u8) x.2.2.2.1, ls 5 false enc78 x.2.2.2.2]] (mkW 0 [] []) (.returned (tl 1 0 (encI .u8) r)) (mkW 1 [0] []) := by
  intro x r h
  unfold identifier at h
  intro W0
  refine FTo.of_body (fn := Try.f68) (code := cB Try.f68) Try.func68 rfl rfl ?_
  intro w0 S hS
  haveI := hS.noEx Try.prog
  refine H.sr 2 (by kernel_rfl) ?_
  refine H.sr 4 (by kernel_rfl) ?_
  refine H.seqP (by kernel_rfl) ?_
  refine H.sr 2 (by kernel_rfl) ?_
  refine H.condS (b := x.2.2.1) (by kernel_rfl) (by kernel_rfl) (fun hb => ?_) (fun hb => ?_)
  rotate_left
  · rw [if_neg (ne_true hb)] at h
    refine H.skipP (by kernel_rfl) ?_
    refine Kseq_norm ?_
    exact H.ren hS [0] _ _ _ (by kernel_rfl) (identifier_L1_ok ((shlI .u8 x.1 6), x.1, x.2.1, x.2.2.1, x.2.2.2.1, x.2.2.2.2) r h W0 w0 S hS)
  rw [if_pos hb] at h
  refine H.regP (by kernel_rfl) ?_
  refine HO.fin 3 (by kernel_rfl) ?_
  exact H.ren hS [0] _ _ _ (by kernel_rfl) (identifier_L1_ok ((bOr .u8 (shlI .u8 x.1 6) 32), x.1, x.2.1, x.2.2.1, x.2.2.2.1, x.2.2.2.2) r h W0 w0 S hS)
def size_L3 (x : (List Int) × Int × Int) : Option ((List Int)) :=
  if 0 ≤ x.2.2 then
    (shr' .i64 x.2.1 (IntKind.i64.wrap (8 * x.2.2))) >>= fun y4 =>
    (app' 1 x.1 [(IntKind.u8.wrap y4)]) >>= fun y5 =>
    size_L3 (y5, x.2.1, (IntKind.i64.wrap (x.2.2 - 1)))
  else
    some x.1
partial_fixpoint
theorem size_L3_ok : ∀ (x : (List Int) × Int × Int) (r : (List Int)), size_L3 x = some r → ∀ (W0 w0 : World) (S : Own), Std W0 w0 S 1 → HL Try.prog w0 S 47 (cL (cL (cR (cL (cR (cR (cR (cR (cR (cB Try.f67)))))))))) (mkS [(0, tl 1 1 (encI .u8) x.1), (1, .int .i64 x.2.1), (7, .int .i64 x.2.2)] [] 2 [1]) (Kblock 3 (Kseq Try.prog w0 S 47 (cR (cR (cR (cR (cR (cR (cB Try.f67))))))) (KEnd Try.prog Try.f67 (FEnd w0 S (.returned (tl 1 1 (encI .u8) r)) (mkW 2 [1] []))))) := by
  refine size_L3.partial_correctness (fun (x : (List Int) × Int × Int) (r : (List Int)) => ∀ (W0 w0 : World) (S : Own), Std W0 w0 S 1 → HL Try.prog w0 S 47 (cL (cL (cR (cL (cR (cR (cR (cR (cR (cB Try.f67)))))))))) (mkS [(0, tl 1 1 (encI .u8) x.1), (1, .int .i64 x.2.1), (7, .int .i64 x.2.2)] [] 2 [1]) (Kblock 3 (Kseq Try.prog w0 S 47 (cR (cR (cR (cR (cR (cR (cB Try.f67))))))) (KEnd Try.prog Try.f67 (FEnd w0 S (.returned (tl 1 1 (encI .u8) r)) (mkW 2 [1] [])))))) ?_
  intro self ih_size_L3 x r h
  intro W0 w0 S hS
  haveI := hS.noEx Try.prog
  refine HL.round ?_
  refine H.seqP (by kernel_rfl) ?_
  refine H.sr 2 (by kernel_rfl) ?_
  refine H.condS (b := decide (0 ≤ x.2.2)) (by kernel_rfl) (by kernel_rfl) (fun hb => ?_) (fun hb => ?_)
  rotate_left
  · rw [if_neg (of_decide_eq_false hb)] at h
    refine H.exitI 3 (by kernel_rfl) ?_
    refine Kseq_exit ?_
    refine Kloop_exit ?_
    refine Kblock_hit ?_
    refine Kseq_norm ?_
    refine H.sr 2 (by kernel_rfl) ?_
    refine H.retP (by kernel_rfl) ?_
    obtain rfl := Option.some.inj h
    exact KEnd.of (v := tl 1 1 (encI .u8) x.1) (by kernel_rfl) (by kernel_rfl) (FEnd.ren hS [0, 1] _ _ (by kernel_rfl))
  rw [if_pos (of_decide_eq_true hb)] at h
  refine H.skipP (by kernel_rfl) ?_
  refine Kseq_norm ?_
  refine H.seqP (by kernel_rfl) ?_
  refine H.blockI 4 (by kernel_rfl) ?_
  refine H.regP (by kernel_rfl) ?_
  refine HO.goP 4 (by kernel_rfl) ?_
  obtain ⟨y4, hy, h⟩ := bindS h
  refine HO.valA (shr_aop hy (by kernel_rfl)) ?_
  refine HO.goP 2 (by kernel_rfl) ?_
  obtain ⟨y5, hy, h⟩ := bindS h
  refine HO.effA (app1_aop (enc := (encI .u8)) (k := 1) false 1 [.int .u8 (IntKind.u8.wrap y4)] [] hy (by kernel_rfl) (by kernel_rfl) (by kernel_rfl)) ?_
  refine HO.goP 1 (by kernel_rfl) ?_
  refine HO.done (by kernel_rfl) ?_
  refine Kblock_norm ?_
  refine Kseq_norm ?_
  refine H.regP (by kernel_rfl) ?_
  refine HO.goP 3 (by kernel_rfl) ?_
  refine HO.done (by kernel_rfl) ?_
  refine Kloop_norm ?_
  exact HL.ren hS [0, 3] _ _ _ (by kernel_rfl) (ih_size_L3 (y5, x.2.1, (IntKind.i64.wrap (x.2.2 - 1))) r h W0 w0 S hS)
def size_L2 (x : (List Int) × Int × Int) : Option ((List Int)) :=
  (app' 1 x.1 [(IntKind.u8.wrap (128 + (IntKind.u8.wrap x.2.2)))]) >>= fun y3 =>
  size_L3 (y3, x.2.1, (IntKind.i64.wrap (x.2.2 - 1)))
theorem size_L2_ok : ∀ (x : (List Int) × Int × Int) (r : (List Int)), size_L2 x = some r → ∀ (W0 w0 : World) (S : Own), Std W0 w0 S 1 → H Try.prog w0 S 47 (cR (cR (cR (cR (cB Try.f67))))) (mkS [(0, tl 1 0 (encI .u8) x.1), (1, .int .i64 x.2.1), (7, .int .i64 x.2.2)] [] 1 [0]) (KEnd Try.prog Try.f67 (FEnd w0 S (.returned (tl 1 1 (encI .u8) r)) (mkW 2 [1] []))) := by
  intro x r h
  unfold size_L2 at h
  intro W0 w0 S hS
  haveI := hS.noEx Try.prog
  refine H.sg (by kernel_rfl) ?_
  refine HO.goP 5 (by kernel_rfl) ?_
  obtain ⟨y3, hy, h⟩ := bindS h
  refine HO.effA (app1_aop (enc := (encI .u8)) (k := 1) false 1 [.int .u8 (IntKind.u8.wrap (128 + (IntKind.u8.wrap x.2.2)))] [] hy (by kernel_rfl) (by kernel_rfl) (by kernel_rfl)) ?_
  refine HO.fin 1 (by kernel_rfl) ?_
  refine H.seqP (by kernel_rfl) ?_
  refine H.sr 3 (by kernel_rfl) ?_
  refine H.blockI 3 (by kernel_rfl) ?_
  refine H.loopP (by kernel_rfl) ?_
  exact HL.ren hS [0, 2] _ _ _ (by kernel_rfl) (size_L3_ok (y3, x.2.1, (IntKind.i64.wrap (x.2.2 - 1))) r h W0 w0 S hS)
def size_L1 (x : (List Int) × Int × Int × Int) : Option ((List Int)) :=
  (shr' .i64 x.2.1 (IntKind.i64.wrap (8 * x.2.2.2))) >>= fun y1 =>
  if 0 < y1 then
    size_L1 (x.1, x.2.1, x.2.2.1, (IntKind.i64.wrap (x.2.2.2 + 1)))
  else
    if x.2.2.1 = 2 then
      size_L2 (x.1, x.2.1, 4)
    else
      if x.2.1 < 128 then
        (app' 1 x.1 [(IntKind.u8.wrap x.2.1)]) >>= fun y2 =>
        some y2
      else
        size_L2 (x.1, x.2.1, x.2.2.2)
partial_fixpoint
theorem size_L1_ok : ∀ (x : (List Int) × Int × Int × Int) (r : (List Int)), size_L1 x = some r → ∀ (W0 w0 : World) (S : Own), Std W0 w0 S 1 → HL Try.prog w0 S 47 (cL (cL (cL (cR (cR (cB Try.f67)))))) (mkS [(0, tl 1 0 (encI .u8) x.1), (1, .int .i64 x.2.1), (2, .int .u8 x.2.2.1), (7, .int .i64 x.2.2.2)] [] 1 [0]) (Kblock 0 (Kseq Try.prog w0 S 47 (cR (cR (cR (cB Try.f67)))) (KEnd Try.prog Try.f67 (FEnd w0 S (.returned (tl 1 1 (encI .u8) r)) (mkW 2 [1] []))))) := by
  refine size_L1.partial_correctness (fun (x : (List Int) × Int × Int × Int) (r : (List Int)) => ∀ (W0 w0 : World) (S : Own), Std W0 w0 S 1 → HL Try.prog w0 S 47 (cL (cL (cL (cR (cR (cB Try.f67)))))) (mkS [(0, tl 1 0 (encI .u8) x.1), (1, .int .i64 x.2.1), (2, .int .u8 x.2.2.1), (7, .int .i64 x.2.2.2)] [] 1 [0]) (Kblock 0 (Kseq Try.prog w0 S 47 (cR (cR (cR (cB Try.f67)))) (KEnd Try.prog Try.f67 (FEnd w0 S (.returned (tl 1 1 (encI .u8) r)) (mkW 2 [1] [])))))) ?_
  intro self ih_size_L1 x r h
  intro W0 w0 S hS
  haveI := hS.noEx Try.prog
  refine HL.round ?_
  refine H.seqP (by kernel_rfl) ?_
  refine H.sg (by kernel_rfl) ?_
  refine HO.goP 3 (by kernel_rfl) ?_
  obtain ⟨y1, hy, h⟩ := bindS h
  refine HO.valA (shr_aop hy (by kernel_rfl)) ?_
  refine HO.fin 1 (by kernel_rfl) ?_
  refine H.condS (b := decide (0 < y1)) (by kernel_rfl) (by kernel_rfl) (fun hb => ?_) (fun hb => ?_)
  · rw [if_pos (of_decide_eq_true hb)] at h
    refine H.skipP (by kernel_rfl) ?_
    refine Kseq_norm ?_
    refine H.blockI 1 (by kernel_rfl) ?_
    refine H.regP (by kernel_rfl) ?_
    refine HO.goP 3 (by kernel_rfl) ?_
    refine HO.done (by kernel_rfl) ?_
    refine Kblock_norm ?_
    refine Kloop_norm ?_
    exact HL.ren hS [0] _ _ _ (by kernel_rfl) (ih_size_L1 (x.1, x.2.1, x.2.2.1, (IntKind.i64.wrap (x.2.2.2 + 1))) r h W0 w0 S hS)
  rw [if_neg (of_decide_eq_false hb)] at h
  refine H.exitI 0 (by kernel_rfl) ?_
  refine Kseq_exit ?_
  refine Kloop_exit ?_
  refine Kblock_hit ?_
  refine Kseq_norm ?_
  refine H.seqP (by kernel_rfl) ?_
  refine H.blockI 2 (by kernel_rfl) ?_
  refine H.sr 3 (by kernel_rfl) ?_
  refine H.condS (b := decide (x.2.2.1 = 2)) (by kernel_rfl) (by kernel_rfl) (fun hb => ?_) (fun hb => ?_)
  · rw [if_pos (of_decide_eq_true hb)] at h
    refine H.regP (by kernel_rfl) ?_
    refine HO.goP 1 (by kernel_rfl) ?_
    refine HO.done (by kernel_rfl) ?_
    refine Kblock_norm ?_
    refine Kseq_norm ?_
    exact H.ren hS [0] _ _ _ (by kernel_rfl) (size_L2_ok (x.1, x.2.1, 4) r h W0 w0 S hS)
  rw [if_neg (of_decide_eq_false hb)] at h
  refine H.sr 3 (by kernel_rfl) ?_
  refine H.condS (b := decide (x.2.1 < 128)) (by kernel_rfl) (by kernel_rfl) (fun hb => ?_) (fun hb => ?_)
  rotate_left
  · rw [if_neg (of_decide_eq_false hb)] at h
    refine H.skipP (by kernel_rfl) ?_
    refine Kblock_norm ?_
    refine Kseq_norm ?_
    exact H.ren hS [0] _ _ _ (by kernel_rfl) (size_L2_ok (x.1, x.2.1, x.2.2.2) r h W0 w0 S hS)
  rw [if_pos (of_decide_eq_true hb)] at h
  refine H.sg (by kernel_rfl) ?_
  refine HO.goP 4 (by kernel_rfl) ?_
  obtain ⟨y2, hy, h⟩ := bindS h
  refine HO.effA (app1_aop (enc := (encI .u8)) (k := 1) false 1 [.int .u8 (IntKind.u8.wrap x.2.1)] [] hy (by kernel_rfl) (by kernel_rfl) (by kernel_rfl)) ?_
  refine HO.fin 1 (by kernel_rfl) ?_
  refine H.retP (by kernel_rfl) ?_
  refine Kblock_ret ?_
  refine Kseq_ret ?_
  obtain rfl := Option.some.inj h
  exact KEnd.of (v := tl 1 2 (encI .u8) y2) (by kernel_rfl) (by kernel_rfl) (FEnd.ren hS [0, 2] _ _ (by kernel_rfl))
def size (x : (List Int) × Int × Int) : Option ((List Int)) :=
  size_L1 (x.1, x.2.1, x.2.2, 0)
theorem size_ok : ∀ (x : (List Int) × Int × Int) (r : (List Int)), size x = some r → ∀ W0 : World, FTo Try.prog W0 67 #[tl 1 0 (encI .u8) x.1, .int .i64 x.2.1, .int .u8 x.2.2] (mkW 1 [0] []) (.returned (tl 1 1 (encI .u8) r)) (mkW 2 [1] []) := by
  intro x r h
  unfold size at h
  intro W0
  refine FTo.of_body (fn := Try.f67) (code := cB Try.f67) Try.func67 rfl rfl ?_
  intro w0 S hS
  haveI := hS.noEx Try.prog
  refine H.sr 1 (by kernel_rfl) ?_
  refine H.sr 1 (by kernel_rfl) ?_
  refine H.seqP (by kernel_rfl) ?_
  refine H.blockI 0 (by kernel_rfl) ?_
  refine H.loopP (by kernel_rfl) ?_
  exact HL.ren hS [0] _ _ _ (by kernel_rfl) (size_L1_ok (x.1, x.2.1, x.2.2, 0) r h W0 w0 S hS)
mutual
def long_L1 (x : Int × (List S78) × Int × Int × Int × Int × Bool × (List Int)) : Option (Int) :=
  if x.2.2.2.1 < x.2.2.1 then
    (at' x.2.1 x.2.2.2.1) >>= fun y1 =>
    (long (y1.c0, y1.c1, y1.c2, y1.c3, y1.c4)) >>= fun y2 =>
    long_L1 ((IntKind.i64.wrap (x.1 + y2)), x.2.1, x.2.2.1, (IntKind.i64.wrap (x.2.2.2.1 + 1)), x.2.2.2.2.1, x.2.2.2.2.2.1, x.2.2.2.2.2.2.1, x.2.2.2.2.2.2.2)
  else
    (identifier (x.2.2.2.2.1, x.2.2.2.2.2.1, x.2.2.2.2.2.2.1, x.2.2.2.2.2.2.2, x.2.1)) >>= fun y3 =>
    (size (y3, x.1, 0)) >>= fun y4 =>
    some (IntKind.i64.wrap (x.1 + (y4.length : Int)))
partial_fixpoint
def long (x : Int × Int × Bool × (List Int) × (List S78)) : Option (Int) :=
  long_L1 ((x.2.2.2.1.length : Int), x.2.2.2.2, (x.2.2.2.2.length : Int), 0, x.1, x.2.1, x.2.2.1, x.2.2.2.1)
partial_fixpoint
end
theorem long_L1_grp : (∀ (x : Int × (List S78) × Int × Int × Int × Int × Bool × (List Int)) (r : Int), long_L1 x = some r → ∀ (W0 w0 : World) (S : Own), Std W0 w0 S 0 → HL Try.prog w0 S 28 (cL (cL (cR (cL (cR (cR (cB Try.f55))))))) (mkS [(1, .pointer (some ⟨0, 0, none⟩)), (3, .int .i64 x.1), (10, ls 5 false enc78 x.2.1), (11, .int .i64 x.2.2.1), (12, .int .i64 x.2.2.2.1)] [(0, .cells [.int .u8 x.2.2.2.2.1, .int .u32 x.2.2.2.2.2.1, .bool x.2.2.2.2.2.2.1, ls 1 false (encI .u8) x.2.2.2.2.2.2.2, ls 5 false enc78 x.2.1] 78 5)] 1 []) (Kblock 0 (Kseq Try.prog w0 S 28 (cR (cR (cR (cB Try.f55)))) (KEnd Try.prog Try.f55 (PEnd w0 S (.returned (.int .i64 r))))))) ∧
  (∀ (x : Int × Int × Bool × (List Int) × (List S78)) (r : Int), long x = some r → ∀ W0 : World, PTo Try.prog W0 55 #[.agg #[.int .u8 x.1, .int .u32 x.2.1, .bool x.2.2.1, ls 1 false (encI .u8) x.2.2.2.1, ls 5 false enc78 x.2.2.2.2]] (.returned (.int .i64 r))) := by
  refine long_L1.mutual_partial_correctness (fun (x : Int × (List S78) × Int × Int × Int × Int × Bool × (List Int)) (r : Int) => ∀ (W0 w0 : World) (S : Own), Std W0 w0 S 0 → HL Try.prog w0 S 28 (cL (cL (cR (cL (cR (cR (cB Try.f55))))))) (mkS [(1, .pointer (some ⟨0, 0, none⟩)), (3, .int .i64 x.1), (10, ls 5 false enc78 x.2.1), (11, .int .i64 x.2.2.1), (12, .int .i64 x.2.2.2.1)] [(0, .cells [.int .u8 x.2.2.2.2.1, .int .u32 x.2.2.2.2.2.1, .bool x.2.2.2.2.2.2.1, ls 1 false (encI .u8) x.2.2.2.2.2.2.2, ls 5 false enc78 x.2.1] 78 5)] 1 []) (Kblock 0 (Kseq Try.prog w0 S 28 (cR (cR (cR (cB Try.f55)))) (KEnd Try.prog Try.f55 (PEnd w0 S (.returned (.int .i64 r))))))) (fun (x : Int × Int × Bool × (List Int) × (List S78)) (r : Int) => ∀ W0 : World, PTo Try.prog W0 55 #[.agg #[.int .u8 x.1, .int .u32 x.2.1, .bool x.2.2.1, ls 1 false (encI .u8) x.2.2.2.1, ls 5 false enc78 x.2.2.2.2]] (.returned (.int .i64 r))) ?_ ?_
  · intro g_long_L1 g_long ih_long_L1 ih_long x r h
    intro W0 w0 S hS
    haveI := hS.noEx Try.prog
    refine HL.round ?_
    refine H.sr 1 (by kernel_rfl) ?_
    refine H.seqP (by kernel_rfl) ?_
    refine H.condS (b := decide (x.2.2.2.1 < x.2.2.1)) (by kernel_rfl) (by kernel_rfl) (fun hb => ?_) (fun hb => ?_)
    rotate_left
    · rw [if_neg (of_decide_eq_false hb)] at h
      refine H.exitI 0 (by kernel_rfl) ?_
      refine Kseq_exit ?_
      refine Kloop_exit ?_
      refine Kblock_hit ?_
      refine Kseq_norm ?_
      refine H.sg (by kernel_rfl) ?_
      refine HO.goP 2 (by kernel_rfl) ?_
      obtain ⟨y3, hy, h⟩ := bindS h
      refine HO.callFW hS (tl 1 1 (encI .u8) y3) 2 [1] [(0, .cells [.int .u8 x.2.2.2.2.1, .int .u32 x.2.2.2.2.2.1, .bool x.2.2.2.2.2.2.1, ls 1 false (encI .u8) x.2.2.2.2.2.2.2, ls 5 false enc78 x.2.1] 78 5)] [] [.keep, .agg [.keep, .keep, .keep, .list 1 false, .list 5 false]] (identifier_ok (x.2.2.2.2.1, x.2.2.2.2.2.1, x.2.2.2.2.2.2.1, x.2.2.2.2.2.2.2, x.2.1) y3 hy W0) (by kernel_rfl) (by kernel_rfl) ?_
      refine HO.goP 1 (by kernel_rfl) ?_
      obtain ⟨y4, hy, h⟩ := bindS h
      refine HO.callFW hS (tl 1 2 (encI .u8) y4) 3 [2] [(0, .cells [.int .u8 x.2.2.2.2.1, .int .u32 x.2.2.2.2.2.1, .bool x.2.2.2.2.2.2.1, ls 1 false (encI .u8) x.2.2.2.2.2.2.2, ls 5 false enc78 x.2.1] 78 5)] [1] [.keep, .keep, .keep] (size_ok (y3, x.1, 0) y4 hy W0) (by kernel_rfl) (by kernel_rfl) ?_
      refine HO.len (by kernel_rfl) (by kernel_rfl) (ls_size (encI .u8) y4) ?_
      refine HO.fin 2 (by kernel_rfl) ?_
      refine H.retP (by kernel_rfl) ?_
      obtain rfl := Option.some.inj h
      exact KEnd.ret (by kernel_rfl) (by kernel_rfl) (by kernel_rfl)
    rw [if_pos (of_decide_eq_true hb)] at h
    refine H.skipP (by kernel_rfl) ?_
    refine Kseq_norm ?_
    refine H.seqP (by kernel_rfl) ?_
    refine H.blockI 1 (by kernel_rfl) ?_
    refine H.sg (by kernel_rfl) ?_
    obtain ⟨y1, hy, h⟩ := bindS h
    refine HO.idx (.agg #[.int .u8 y1.c0, .int .u32 y1.c1, .bool y1.c2, ls 1 false (encI .u8) y1.c3, ls 5 false enc78 y1.c4]) hy (enc78_eq y1) (by kernel_rfl) ?_
    refine HO.fin 3 (by kernel_rfl) ?_
    refine H.regP (by kernel_rfl) ?_
    refine HO.goP 2 (by kernel_rfl) ?_
    obtain ⟨y2, hy, h⟩ := bindS h
    refine HO.callW hS [.agg [.keep, .keep, .keep, .list 1 false, .list 5 false]] (ih_long (y1.c0, y1.c1, y1.c2, y1.c3, y1.c4) y2 hy W0) (by kernel_rfl) (by kernel_rfl) ?_
    refine HO.goP 2 (by kernel_rfl) ?_
    refine HO.done (by kernel_rfl) ?_
    refine Kblock_norm ?_
    refine Kseq_norm ?_
    refine H.regP (by kernel_rfl) ?_
    refine HO.goP 2 (by kernel_rfl) ?_
    refine HO.done (by kernel_rfl) ?_
    refine Kloop_norm ?_
    exact HL.ren hS [0] _ _ _ (by kernel_rfl) (ih_long_L1 ((IntKind.i64.wrap (x.1 + y2)), x.2.1, x.2.2.1, (IntKind.i64.wrap (x.2.2.2.1 + 1)), x.2.2.2.2.1, x.2.2.2.2.2.1, x.2.2.2.2.2.2.1, x.2.2.2.2.2.2.2) r h W0 w0 S hS)
  · intro g_long_L1 ih_long_L1 x r h
    intro W0
    refine PTo.of_body (fn := Try.f55) (code := cB Try.f55) Try.func55 rfl rfl ?_
    intro w0 S hS
    haveI := hS.noEx Try.prog
    refine H.sr 2 (by kernel_rfl) ?_
    refine H.sg (by kernel_rfl) ?_
    refine HO.goP 2 (by kernel_rfl) ?_
    refine HO.len (by kernel_rfl) (by kernel_rfl) (ls_size (encI .u8) x.2.2.2.1) ?_
    refine HO.fin 1 (by kernel_rfl) ?_
    refine H.seqP (by kernel_rfl) ?_
    refine H.sg (by kernel_rfl) ?_
    refine HO.goP 2 (by kernel_rfl) ?_
    refine HO.len (by kernel_rfl) (by kernel_rfl) (ls_size enc78 x.2.2.2.2) ?_
    refine HO.fin 1 (by kernel_rfl) ?_
    refine H.blockI 0 (by kernel_rfl) ?_
    refine H.loopP (by kernel_rfl) ?_
    exact HL.ren hS [0] _ _ _ (by kernel_rfl) (ih_long_L1 ((x.2.2.2.1.length : Int), x.2.2.2.2, (x.2.2.2.2.length : Int), 0, x.1, x.2.1, x.2.2.1, x.2.2.2.1) r h W0 w0 S hS)
theorem long_L1_ok : ∀ (x : Int × (List S78) × Int × Int × Int × Int × Bool × (List Int)) (r : Int), long_L1 x = some r → ∀ (W0 w0 : World) (S : Own), Std W0 w0 S 0 → HL Try.prog w0 S 28 (cL (cL (cR (cL (cR (cR (cB Try.f55))))))) (mkS [(1, .pointer (some ⟨0, 0, none⟩)), (3, .int .i64 x.1), (10, ls 5 false enc78 x.2.1), (11, .int .i64 x.2.2.1), (12, .int .i64 x.2.2.2.1)] [(0, .cells [.int .u8 x.2.2.2.2.1, .int .u32 x.2.2.2.2.2.1, .bool x.2.2.2.2.2.2.1, ls 1 false (encI .u8) x.2.2.2.2.2.2.2, ls 5 false enc78 x.2.1] 78 5)] 1 []) (Kblock 0 (Kseq Try.prog w0 S 28 (cR (cR (cR (cB Try.f55)))) (KEnd Try.prog Try.f55 (PEnd w0 S (.returned (.int .i64 r)))))) := long_L1_grp.1
theorem long_ok : ∀ (x : Int × Int × Bool × (List Int) × (List S78)) (r : Int), long x = some r → ∀ W0 : World, PTo Try.prog W0 55 #[.agg #[.int .u8 x.1, .int .u32 x.2.1, .bool x.2.2.1, ls 1 false (encI .u8) x.2.2.2.1, ls 5 false enc78 x.2.2.2.2]] (.returned (.int .i64 r)) := long_L1_grp.2
def identifier_1_L3 (x : (List Int) × Int × Int × Int × Bool × (List Int) × (List S78)) : Option ((List Int)) :=
  if 0 < x.2.1 then
    (shr' .u32 x.2.2.2.1 x.2.1) >>= fun y4 =>
    (app' 1 x.1 [(bOr .u8 (IntKind.u8.wrap y4) 128)]) >>= fun y5 =>
    identifier_1_L3 (y5, (IntKind.i64.wrap (x.2.1 - 7)), x.2.2.1, x.2.2.2.1, x.2.2.2.2.1, x.2.2.2.2.2.1, x.2.2.2.2.2.2)
  else
    (app' 1 x.1 [(IntKind.u8.wrap (bAnd .u32 x.2.2.2.1 127))]) >>= fun y6 =>
    some y6
partial_fixpoint
theorem identifier_1_L3_ok : ∀ (x : (List Int) × Int × Int × Int × Bool × (List Int) × (List S78)) (r : (List Int)), identifier_1_L3 x = some r → ∀ (W0 w0 : World) (S : Own), Std W0 w0 S 1 → HL Try.prog w0 S 58 (cL (cL (cL (cR (cR (cR (cR (cR (cR (cR (cB Try.f68))))))))))) (mkS [(0, tl 1 1 (encI .u8) x.1), (3, .pointer (some ⟨2, 0, none⟩)), (6, .int .i64 x.2.1)] [(2, .cells [.int .u8 x.2.2.1, .int .u32 x.2.2.2.1, .bool x.2.2.2.2.1, ls 1 false (encI .u8) x.2.2.2.2.2.1, ls 5 false enc78 x.2.2.2.2.2.2] 78 5)] 3 [1]) (Kblock 2 (Kseq Try.prog w0 S 58 (cR (cR (cR (cR (cR (cR (cR (cR (cB Try.f68))))))))) (KEnd Try.prog Try.f68 (FEnd w0 S (.returned (tl 1 1 (encI .u8) r)) (mkW 2 [1] []))))) := by
  refine identifier_1_L3.partial_correctness (fun (x : (List Int) × Int × Int × Int × Bool × (List Int) × (List S78)) (r : (List Int)) => ∀ (W0 w0 : World) (S : Own), Std W0 w0 S 1 → HL Try.prog w0 S 58 (cL (cL (cL (cR (cR (cR (cR (cR (cR (cR (cB Try.f68))))))))))) (mkS [(0, tl 1 1 (encI .u8) x.1), (3, .pointer (some ⟨2, 0, none⟩)), (6, .int .i64 x.2.1)] [(2, .cells [.int .u8 x.2.2.1, .int .u32 x.2.2.2.1, .bool x.2.2.2.2.1, ls 1 false (encI .u8) x.2.2.2.2.2.1, ls 5 false enc78 x.2.2.2.2.2.2] 78 5)] 3 [1]) (Kblock 2 (Kseq Try.prog w0 S 58 (cR (cR (cR (cR (cR (cR (cR (cR (cB Try.f68))))))))) (KEnd Try.prog Try.f68 (FEnd w0 S (.returned (tl 1 1 (encI .u8) r)) (mkW 2 [1] [])))))) ?_
  intro self ih_identifier_1_L3 x r h
  intro W0 w0 S hS
  haveI := hS.noEx Try.prog
  refine HL.round ?_
  refine H.seqP (by kernel_rfl) ?_
  refine H.sr 2 (by kernel_rfl) ?_
  refine H.condS (b := decide (0 < x.2.1)) (by kernel_rfl) (by kernel_rfl) (fun hb => ?_) (fun hb => ?_)
  rotate_left
  · rw [if_neg (of_decide_eq_false hb)] at h
    refine H.exitI 2 (by kernel_rfl) ?_
    refine Kseq_exit ?_
    refine Kloop_exit ?_
    refine Kblock_hit ?_
    refine Kseq_norm ?_
    refine H.sg (by kernel_rfl) ?_
    refine HO.goP 6 (by kernel_rfl) ?_
    obtain ⟨y6, hy, h⟩ := bindS h
    refine HO.effA (app1_aop (enc := (encI .u8)) (k := 1) false 1 [.int .u8 (IntKind.u8.wrap (bAnd .u32 x.2.2.2.1 127))] [] hy (by kernel_rfl) (by kernel_rfl) (by kernel_rfl)) ?_
    refine HO.fin 1 (by kernel_rfl) ?_
    refine H.retP (by kernel_rfl) ?_
    obtain rfl := Option.some.inj h
    exact KEnd.of (v := tl 1 4 (encI .u8) y6) (by kernel_rfl) (by kernel_rfl) (FEnd.ren hS [0, 4] _ _ (by kernel_rfl))
  rw [if_pos (of_decide_eq_true hb)] at h
  refine H.skipP (by kernel_rfl) ?_
  refine Kseq_norm ?_
  refine H.seqP (by kernel_rfl) ?_
  refine H.blockI 3 (by kernel_rfl) ?_
  refine H.regP (by kernel_rfl) ?_
  refine HO.goP 4 (by kernel_rfl) ?_
  obtain ⟨y4, hy, h⟩ := bindS h
  refine HO.valA (shr_aop hy (by kernel_rfl)) ?_
  refine HO.goP 3 (by kernel_rfl) ?_
  obtain ⟨y5, hy, h⟩ := bindS h
  refine HO.effA (app1_aop (enc := (encI .u8)) (k := 1) false 1 [.int .u8 (bOr .u8 (IntKind.u8.wrap y4) 128)] [] hy (by kernel_rfl) (by kernel_rfl) (by kernel_rfl)) ?_
  refine HO.goP 1 (by kernel_rfl) ?_
  refine HO.done (by kernel_rfl) ?_
  refine Kblock_norm ?_
  refine Kseq_norm ?_
  refine H.regP (by kernel_rfl) ?_
  refine HO.goP 3 (by kernel_rfl) ?_
  refine HO.done (by kernel_rfl) ?_
  refine Kloop_norm ?_
  exact HL.ren hS [0, 4, 2] _ _ _ (by kernel_rfl) (ih_identifier_1_L3 (y5, (IntKind.i64.wrap (x.2.1 - 7)), x.2.2.1, x.2.2.2.1, x.2.2.2.2.1, x.2.2.2.2.2.1, x.2.2.2.2.2.2) r h W0 w0 S hS)
def identifier_1_L2 (x : (List Int) × Int × Int × Int × Bool × (List Int) × (List S78)) : Option ((List Int)) :=
  (shr' .u32 x.2.2.2.1 (IntKind.i64.wrap (x.2.1 + 7))) >>= fun y3 =>
  if 0 < y3 then
    identifier_1_L2 (x.1, (IntKind.i64.wrap (x.2.1 + 7)), x.2.2.1, x.2.2.2.1, x.2.2.2.2.1, x.2.2.2.2.2.1, x.2.2.2.2.2.2)
  else
    identifier_1_L3 (x.1, x.2.1, x.2.2.1, x.2.2.2.1, x.2.2.2.2.1, x.2.2.2.2.2.1, x.2.2.2.2.2.2)
partial_fixpoint
theorem identifier_1_L2_ok : ∀ (x : (List Int) × Int × Int × Int × Bool × (List Int) × (List S78)) (r : (List Int)), identifier_1_L2 x = some r → ∀ (W0 w0 : World) (S : Own), Std W0 w0 S 1 → HL Try.prog w0 S 58 (cL (cL (cL (cR (cR (cR (cR (cR (cR (cB Try.f68)))))))))) (mkS [(0, tl 1 1 (encI .u8) x.1), (3, .pointer (some ⟨2, 0, none⟩)), (6, .int .i64 x.2.1)] [(2, .cells [.int .u8 x.2.2.1, .int .u32 x.2.2.2.1, .bool x.2.2.2.2.1, ls 1 false (encI .u8) x.2.2.2.2.2.1, ls 5 false enc78 x.2.2.2.2.2.2] 78 5)] 3 [1]) (Kblock 0 (Kseq Try.prog w0 S 58 (cR (cR (cR (cR (cR (cR (cR (cB Try.f68)))))))) (KEnd Try.prog Try.f68 (FEnd w0 S (.returned (tl 1 1 (encI .u8) r)) (mkW 2 [1] []))))) := by
  refine identifier_1_L2.partial_correctness (fun (x : (List Int) × Int × Int × Int × Bool × (List Int) × (List S78)) (r : (List Int)) => ∀ (W0 w0 : World) (S : Own), Std W0 w0 S 1 → HL Try.prog w0 S 58 (cL (cL (cL (cR (cR (cR (cR (cR (cR (cB Try.f68)))))))))) (mkS [(0, tl 1 1 (encI .u8) x.1), (3, .pointer (some ⟨2, 0, none⟩)), (6, .int .i64 x.2.1)] [(2, .cells [.int .u8 x.2.2.1, .int .u32 x.2.2.2.1, .bool x.2.2.2.2.1, ls 1 false (encI .u8) x.2.2.2.2.2.1, ls 5 false enc78 x.2.2.2.2.2.2] 78 5)] 3 [1]) (Kblock 0 (Kseq Try.prog w0 S 58 (cR (cR (cR (cR (cR (cR (cR (cB Try.f68)))))))) (KEnd Try.prog Try.f68 (FEnd w0 S (.returned (tl 1 1 (encI .u8) r)) (mkW 2 [1] [])))))) ?_
  intro self ih_identifier_1_L2 x r h
  intro W0 w0 S hS
  haveI := hS.noEx Try.prog
  refine HL.round ?_
  refine H.seqP (by kernel_rfl) ?_
  refine H.sg (by kernel_rfl) ?_
  refine HO.goP 4 (by kernel_rfl) ?_
  obtain ⟨y3, hy, h⟩ := bindS h
  refine HO.valA (shr_aop hy (by kernel_rfl)) ?_
  refine HO.fin 1 (by kernel_rfl) ?_
  refine H.condS (b := decide (0 < y3)) (by kernel_rfl) (by kernel_rfl) (fun hb => ?_) (fun hb => ?_)
  · rw [if_pos (of_decide_eq_true hb)] at h
    refine H.skipP (by kernel_rfl) ?_
    refine Kseq_norm ?_
    refine H.blockI 1 (by kernel_rfl) ?_
    refine H.regP (by kernel_rfl) ?_
    refine HO.goP 3 (by kernel_rfl) ?_
    refine HO.done (by kernel_rfl) ?_
    refine Kblock_norm ?_
    refine Kloop_norm ?_
    exact HL.ren hS [0, 1, 2] _ _ _ (by kernel_rfl) (ih_identifier_1_L2 (x.1, (IntKind.i64.wrap (x.2.1 + 7)), x.2.2.1, x.2.2.2.1, x.2.2.2.2.1, x.2.2.2.2.2.1, x.2.2.2.2.2.2) r h W0 w0 S hS)
  rw [if_neg (of_decide_eq_false hb)] at h
  refine H.exitI 0 (by kernel_rfl) ?_
  refine Kseq_exit ?_
  refine Kloop_exit ?_
  refine Kblock_hit ?_
  refine Kseq_norm ?_
  refine H.seqP (by kernel_rfl) ?_
  refine H.blockI 2 (by kernel_rfl) ?_
  refine H.loopP (by kernel_rfl) ?_
  exact HL.ren hS [0, 1, 2] _ _ _ (by kernel_rfl) (identifier_1_L3_ok (x.1, x.2.1, x.2.2.1, x.2.2.2.1, x.2.2.2.2.1, x.2.2.2.2.2.1, x.2.2.2.2.2.2) r h W0 w0 S hS)
def identifier_1_L1 (x : (List Int) × Int × Int × Int × Bool × (List Int) × (List S78)) : Option ((List Int)) :=
  if x.2.2.2.1 < 31 then
    (app' 1 x.1 [(bOr .u8 x.2.1 (IntKind.u8.wrap x.2.2.2.1))]) >>= fun y1 =>
    some y1
  else
    (app' 1 x.1 [(bOr .u8 x.2.1 31)]) >>= fun y2 =>
    identifier_1_L2 (y2, 0, x.2.2.1, x.2.2.2.1, x.2.2.2.2.1, x.2.2.2.2.2.1, x.2.2.2.2.2.2)
theorem identifier_1_L1_ok : ∀ (x : (List Int) × Int × Int × Int × Bool × (List Int) × (List S78)) (r : (List Int)), identifier_1_L1 x = some r → ∀ (W0 w0 : World) (S : Own), Std W0 w0 S 1 → H Try.prog w0 S 58 (cR (cR (cR (cB Try.f68)))) (mkS [(0, tl 1 0 (encI .u8) x.1), (3, .pointer (some ⟨1, 0, none⟩)), (5, .int .u8 x.2.1)] [(1, .cells [.int .u8 x.2.2.1, .int .u32 x.2.2.2.1, .bool x.2.2.2.2.1, ls 1 false (encI .u8) x.2.2.2.2.2.1, ls 5 false enc78 x.2.2.2.2.2.2] 78 5)] 2 [0]) (KEnd Try.prog Try.f68 (FEnd w0 S (.returned (tl 1 1 (encI .u8) r)) (mkW 2 [1] []))) := by
  intro x r h
  unfold identifier_1_L1 at h
  intro W0 w0 S hS
  haveI := hS.noEx Try.prog
  refine H.seqP (by kernel_rfl) ?_
  refine H.sr 3 (by kernel_rfl) ?_
  refine H.condS (b := decide (x.2.2.2.1 < 31)) (by kernel_rfl) (by kernel_rfl) (fun hb => ?_) (fun hb => ?_)
  · rw [if_pos (of_decide_eq_true hb)] at h
    refine H.sg (by kernel_rfl) ?_
    refine HO.goP 7 (by kernel_rfl) ?_
    obtain ⟨y1, hy, h⟩ := bindS h
    refine HO.effA (app1_aop (enc := (encI .u8)) (k := 1) false 1 [.int .u8 (bOr .u8 x.2.1 (IntKind.u8.wrap x.2.2.2.1))] [] hy (by kernel_rfl) (by kernel_rfl) (by kernel_rfl)) ?_
    refine HO.fin 1 (by kernel_rfl) ?_
    refine H.retP (by kernel_rfl) ?_
    refine Kseq_ret ?_
    obtain rfl := Option.some.inj h
    exact KEnd.of (v := tl 1 3 (encI .u8) y1) (by kernel_rfl) (by kernel_rfl) (FEnd.ren hS [0, 3] _ _ (by kernel_rfl))
  rw [if_neg (of_decide_eq_false hb)] at h
  refine H.skipP (by kernel_rfl) ?_
  refine Kseq_norm ?_
  refine H.sg (by kernel_rfl) ?_
  refine HO.goP 4 (by kernel_rfl) ?_
  obtain ⟨y2, hy, h⟩ := bindS h
  refine HO.effA (app1_aop (enc := (encI .u8)) (k := 1) false 1 [.int .u8 (bOr .u8 x.2.1 31)] [] hy (by kernel_rfl) (by kernel_rfl) (by kernel_rfl)) ?_
  refine HO.fin 1 (by kernel_rfl) ?_
  refine H.sr 1 (by kernel_rfl) ?_
  refine H.seqP (by kernel_rfl) ?_
  refine H.blockI 0 (by kernel_rfl) ?_
  refine H.loopP (by kernel_rfl) ?_
  exact HL.ren hS [0, 3, 1] _ _ _ (by kernel_rfl) (identifier_1_L2_ok (y2, 0, x.2.2.1, x.2.2.2.1, x.2.2.2.2.1, x.2.2.2.2.2.1, x.2.2.2.2.2.2) r h W0 w0 S hS)
def identifier_1 (x : (List Int) × Int × Int × Bool × (List Int) × (List S78)) : Option ((List Int)) :=
  if x.2.2.2.1 = true then
    identifier_1_L1 (x.1, (bOr .u8 (shlI .u8 x.2.1 6) 32), x.2.1, x.2.2.1, x.2.2.2.1, x.2.2.2.2.1, x.2.2.2.2.2)
  else
    identifier_1_L1 (x.1, (shlI .u8 x.2.1 6), x.2.1, x.2.2.1, x.2.2.2.1, x.2.2.2.2.1, x.2.2.2.2.2)
theorem identifier_1_ok : ∀ (x : (List Int) × Int × Int × Bool × (List Int) × (List S78)) (r : (List Int)), identifier_1 x = some r → ∀ W0 : World, FTo Try.prog W0 68 #[tl 1 0 (encI .u8) x.1, .agg #[.int .u8 x.2.1, .int .u32 x.2.2.1, .bool x.2.2.2.1, ls 1 false (encI .u8) x.2.2.2.2.1, ls 5 false enc78 x.2.2.2.2.2]] (mkW 1 [0] []) (.returned (tl 1 1 (encI .u8) r)) (mkW 2 [1] []) := by
  intro x r h
  unfold identifier_1 at h
  intro W0
  refine FTo.of_body (fn := Try.f68) (code := cB Try.f68) Try.func68 rfl rfl ?_
  intro w0 S hS
  haveI := hS.noEx Try.prog
  refine H.sr 2 (by kernel_rfl) ?_
  refine H.sr 4 (by kernel_rfl) ?_
  refine H.seqP (by kernel_rfl) ?_
  refine H.sr 2 (by kernel_rfl) ?_
  refine H.condS (b := x.2.2.2.1) (by kernel_rfl) (by kernel_rfl) (fun hb => ?_) (fun hb => ?_)
  rotate_left
  · rw [if_neg (ne_true hb)] at h
    refine H.skipP (by kernel_rfl) ?_
    refine Kseq_norm ?_
    exact H.ren hS [0, 1] _ _ _ (by kernel_rfl) (identifier_1_L1_ok (x.1, (shlI .u8 x.2.1 6), x.2.1, x.2.2.1, x.2.2.2.1, x.2.2.2.2.1, x.2.2.2.2.2) r h W0 w0 S hS)
  rw [if_pos hb] at h
  refine H.regP (by kernel_rfl) ?_
  refine HO.fin 3 (by kernel_rfl) ?_
  exact H.ren hS [0, 1] _ _ _ (by kernel_rfl) (identifier_1_L1_ok (x.1, (bOr .u8 (shlI .u8 x.2.1 6) 32), x.2.1, x.2.2.1, x.2.2.2.1, x.2.2.2.2.1, x.2.2.2.2.2) r h W0 w0 S hS)
def clip (x : (List Int)) : Option ((List Int)) :=
  (sub' x 0 (x.length : Int)) >>= fun y1 =>
  some y1
theorem clip_ok : ∀ (x : (List Int)) (r : (List Int)), clip x = some r → ∀ W0 : World, PTo Try.prog W0 57 #[ls 1 false (encI .u8) x] (.returned (ls 1 true (encI .u8) r)) := by
  intro x r h
  unfold clip at h
  intro W0
  refine PTo.of_body (fn := Try.f57) (code := cB Try.f57) Try.func57 rfl rfl ?_
  intro w0 S hS
  haveI := hS.noEx Try.prog
  refine H.sr 1 (by kernel_rfl) ?_
  refine H.sg (by kernel_rfl) ?_
  refine HO.goP 2 (by kernel_rfl) ?_
  refine HO.len (by kernel_rfl) (by kernel_rfl) (ls_size (encI .u8) x) ?_
  refine HO.goP 1 (by kernel_rfl) ?_
  refine HO.len (by kernel_rfl) (by kernel_rfl) (ls_size (encI .u8) x) ?_
  obtain ⟨y1, hy, h⟩ := bindS h
  refine HO.valA (sl4_aop (enc := (encI .u8)) (k := 1) (j := .i64) (j' := .i64) false hy (by kernel_rfl)) ?_
  refine HO.fin 1 (by kernel_rfl) ?_
  refine H.retP (by kernel_rfl) ?_
  obtain rfl := Option.some.inj h
  exact KEnd.retW (v := ls 1 true (encI .u8) y1) (.list 1 true) (by kernel_rfl) (by kernel_rfl) (by kernel_rfl) (by kernel_rfl)
def encode_1_L4 (x : (List Int)) : Option ((List Int)) :=
  (app' 1 x [0, 0]) >>= fun y7 =>
  some y7
theorem encode_1_L4_ok : ∀ (x : (List Int)) (r : (List Int)), encode_1_L4 x = some r → ∀ (W0 w0 : World) (S : Own), Std W0 w0 S 1 → H Try.prog w0 S 52 (cR (cL (cR (cL (cR (cR (cR (cR (cR (cB Try.f56)))))))))) (mkS [(0, tl 1 1 (encI .u8) x)] [] 2 [1]) (Kseq Try.prog w0 S 52 (cR (cR (cR (cR (cR (cR (cB Try.f56))))))) (KEnd Try.prog Try.f56 (FEnd w0 S (.returned (tl 1 1 (encI .u8) r)) (mkW 2 [1] [])))) := by
  intro x r h
  unfold encode_1_L4 at h
  intro W0 w0 S hS
  haveI := hS.noEx Try.prog
  refine H.sg (by kernel_rfl) ?_
  refine HO.goP 2 (by kernel_rfl) ?_
  obtain ⟨y7, hy, h⟩ := bindS h
  refine HO.effA (app1_aop (enc := (encI .u8)) (k := 1) false 2 [.int .u8 0, .int .u8 0] [] hy (by kernel_rfl) (by kernel_rfl) (by kernel_rfl)) ?_
  refine HO.fin 1 (by kernel_rfl) ?_
  refine H.retP (by kernel_rfl) ?_
  refine Kseq_ret ?_
  obtain rfl := Option.some.inj h
  exact KEnd.of (v := tl 1 3 (encI .u8) y7) (by kernel_rfl) (by kernel_rfl) (FEnd.ren hS [0, 3] _ _ (by kernel_rfl))
def encode_1_L5 (x : (List Int)) : Option ((List Int)) :=
  some x
theorem encode_1_L5_ok : ∀ (x : (List Int)) (r : (List Int)), encode_1_L5 x = some r → ∀ (W0 w0 : World) (S : Own), Std W0 w0 S 1 → H Try.prog w0 S 52 (cR (cR (cR (cR (cR (cR (cR (cB Try.f56)))))))) (mkS [(6, tl 1 1 (encI .u8) x)] [] 2 [1]) (KEnd Try.prog Try.f56 (FEnd w0 S (.returned (tl 1 1 (encI .u8) r)) (mkW 2 [1] []))) := by
  intro x r h
  unfold encode_1_L5 at h
  intro W0 w0 S hS
  haveI := hS.noEx Try.prog
  refine H.retP (by kernel_rfl) ?_
  obtain rfl := Option.some.inj h
  exact KEnd.of (v := tl 1 1 (encI .u8) x) (by kernel_rfl) (by kernel_rfl) (FEnd.ren hS [0, 1] _ _ (by kernel_rfl))
mutual
def encode_1_L3 (x : (List Int) × Int × (List Int) × (List S78) × Int × Int) : Option ((List Int)) :=
  if x.2.2.2.2.2 < x.2.2.2.2.1 then
    (at' x.2.2.2.1 x.2.2.2.2.2) >>= fun y3 =>
    (encode_1 (x.2.2.1, y3.c0, y3.c1, y3.c2, y3.c3, y3.c4, x.2.1)) >>= fun y4 =>
    encode_1_L3 (x.1, x.2.1, y4, x.2.2.2.1, x.2.2.2.2.1, (IntKind.i64.wrap (x.2.2.2.2.2 + 1)))
  else
    if x.2.1 = 1 then
      (app' 1 x.1 [128]) >>= fun y5 =>
      (app' 1 y5 x.2.2.1) >>= fun y6 =>
      if x.2.2.1.length = 0 then
        encode_1_L4 y5
      else
        encode_1_L4 y6
    else
      (size (x.1, (x.2.2.1.length : Int), x.2.1)) >>= fun y8 =>
      (app' 1 y8 x.2.2.1) >>= fun y9 =>
      if x.2.2.1.length = 0 then
        encode_1_L5 y8
      else
        encode_1_L5 y9
partial_fixpoint
def encode_1 (x : (List Int) × Int × Int × Bool × (List Int) × (List S78) × Int) : Option ((List Int)) :=
  (identifier_1 (x.1, x.2.1, x.2.2.1, x.2.2.2.1, x.2.2.2.2.1, x.2.2.2.2.2.1)) >>= fun y1 =>
  if (!x.2.2.2.1) = true then
    encode_1_L1 (y1, x.2.2.2.2.2.2, (!decide (x.2.2.2.2.2.2 = 2)), x.2.1, x.2.2.1, x.2.2.2.1, x.2.2.2.2.1, x.2.2.2.2.2.1)
  else
    encode_1_L1 (y1, x.2.2.2.2.2.2, false, x.2.1, x.2.2.1, x.2.2.2.1, x.2.2.2.2.1, x.2.2.2.2.2.1)
partial_fixpoint
def encode_1_L1 (x : (List Int) × Int × Bool × Int × Int × Bool × (List Int) × (List S78)) : Option ((List Int)) :=
  if x.2.2.1 = true then
    encode_1_L2 (x.1, 0, x.2.2.2.1, x.2.2.2.2.1, x.2.2.2.2.2.1, x.2.2.2.2.2.2.1, x.2.2.2.2.2.2.2)
  else
    encode_1_L2 (x.1, x.2.1, x.2.2.2.1, x.2.2.2.2.1, x.2.2.2.2.2.1, x.2.2.2.2.2.2.1, x.2.2.2.2.2.2.2)
partial_fixpoint
def encode_1_L2 (x : (List Int) × Int × Int × Int × Bool × (List Int) × (List S78)) : Option ((List Int)) :=
  (clip x.2.2.2.2.2.1) >>= fun y2 =>
  encode_1_L3 (x.1, x.2.1, y2, x.2.2.2.2.2.2, (x.2.2.2.2.2.2.length : Int), 0)
partial_fixpoint
end
theorem encode_1_L3_grp : (∀ (x : (List Int) × Int × (List Int) × (List S78) × Int × Int) (r : (List Int)), encode_1_L3 x = some r → ∀ (W0 w0 : World) (S : Own), Std W0 w0 S 1 → HL Try.prog w0 S 52 (cL (cL (cR (cL (cR (cR (cR (cR (cB Try.f56))))))))) (mkS [(0, tl 1 1 (encI .u8) x.1), (2, .int .u8 x.2.1), (7, tl 1 2 (encI .u8) x.2.2.1), (24, ls 5 false enc78 x.2.2.2.1), (25, .int .i64 x.2.2.2.2.1), (26, .int .i64 x.2.2.2.2.2)] [] 3 [2, 1]) (Kblock 0 (Kseq Try.prog w0 S 52 (cR (cR (cR (cR (cR (cB Try.f56)))))) (KEnd Try.prog Try.f56 (FEnd w0 S (.returned (tl 1 1 (encI .u8) r)) (mkW 2 [1] [])))))) ∧
  (∀ (x : (List Int) × Int × Int × Bool × (List Int) × (List S78) × Int) (r : (List Int)), encode_1 x = some r → ∀ W0 : World, FTo Try.prog W0 56 #[tl 1 0 (encI .u8) x.1, .agg #[.int .u8 x.2.1, .int .u32 x.2.2.1, .bool x.2.2.2.1, ls 1 false (encI .u8) x.2.2.2.2.1, ls 5 false enc78 x.2.2.2.2.2.1], .int .u8 x.2.2.2.2.2.2] (mkW 1 [0] []) (.returned (tl 1 1 (encI .u8) r)) (mkW 2 [1] [])) ∧
  (∀ (x : (List Int) × Int × Bool × Int × Int × Bool × (List Int) × (List S78)) (r : (List Int)), encode_1_L1 x = some r → ∀ (W0 w0 : World) (S : Own), Std W0 w0 S 1 → H Try.prog w0 S 52 (cR (cL (cR (cR (cB Try.f56))))) (mkS [(0, tl 1 1 (encI .u8) x.1), (2, .int .u8 x.2.1), (4, .pointer (some ⟨2, 0, none⟩)), (19, .bool x.2.2.1)] [(2, .cells [.int .u8 x.2.2.2.1, .int .u32 x.2.2.2.2.1, .bool x.2.2.2.2.2.1, ls 1 false (encI .u8) x.2.2.2.2.2.2.1, ls 5 false enc78 x.2.2.2.2.2.2.2] 78 5)] 3 [1]) (Kseq Try.prog w0 S 52 (cR (cR (cR (cB Try.f56)))) (KEnd Try.prog Try.f56 (FEnd w0 S (.returned (tl 1 1 (encI .u8) r)) (mkW 2 [1] []))))) ∧
  (∀ (x : (List Int) × Int × Int × Int × Bool × (List Int) × (List S78)) (r : (List Int)), encode_1_L2 x = some r → ∀ (W0 w0 : World) (S : Own), Std W0 w0 S 1 → H Try.prog w0 S 52 (cR (cR (cR (cB Try.f56)))) (mkS [(0, tl 1 1 (encI .u8) x.1), (2, .int .u8 x.2.1), (4, .pointer (some ⟨2, 0, none⟩))] [(2, .cells [.int .u8 x.2.2.1, .int .u32 x.2.2.2.1, .bool x.2.2.2.2.1, ls 1 false (encI .u8) x.2.2.2.2.2.1, ls 5 false enc78 x.2.2.2.2.2.2] 78 5)] 3 [1]) (KEnd Try.prog Try.f56 (FEnd w0 S (.returned (tl 1 1 (encI .u8) r)) (mkW 2 [1] [])))) := by
  refine encode_1_L3.mutual_partial_correctness (fun (x : (List Int) × Int × (List Int) × (List S78) × Int × Int) (r : (List Int)) => ∀ (W0 w0 : World) (S : Own), Std W0 w0 S 1 → HL Try.prog w0 S 52 (cL (cL (cR (cL (cR (cR (cR (cR (cB Try.f56))))))))) (mkS [(0, tl 1 1 (encI .u8) x.1), (2, .int .u8 x.2.1), (7, tl 1 2 (encI .u8) x.2.2.1), (24, ls 5 false enc78 x.2.2.2.1), (25, .int .i64 x.2.2.2.2.1), (26, .int .i64 x.2.2.2.2.2)] [] 3 [2, 1]) (Kblock 0 (Kseq Try.prog w0 S 52 (cR (cR (cR (cR (cR (cB Try.f56)))))) (KEnd Try.prog Try.f56 (FEnd w0 S (.returned (tl 1 1 (encI .u8) r)) (mkW 2 [1] [])))))) (fun (x : (List Int) × Int × Int × Bool × (List Int) × (List S78) × Int) (r : (List Int)) => ∀ W0 : World, FTo Try.prog W0 56 #[tl 1 0 (encI .u8) x.1, .agg #[.int .u8 x.2.1, .int .u32 x.2.2.1, .bool x.2.2.2.1, ls 1 false (encI .u8) x.2.2.2.2.1, ls 5 false enc78 x.2.2.2.2.2.1], .int .u8 x.2.2.2.2.2.2] (mkW 1 [0] []) (.returned (tl 1 1 (encI .u8) r)) (mkW 2 [1] [])) (fun (x : (List Int) × Int × Bool × Int × Int × Bool × (List Int) × (List S78)) (r : (List Int)) => ∀ (W0 w0 : World) (S : Own), Std W0 w0 S 1 → H Try.prog w0 S 52 (cR (cL (cR (cR (cB Try.f56))))) (mkS [(0, tl 1 1 (encI .u8) x.1), (2, .int .u8 x.2.1), (4, .pointer (some ⟨2, 0, none⟩)), (19, .bool x.2.2.1)] [(2, .cells [.int .u8 x.2.2.2.1, .int .u32 x.2.2.2.2.1, .bool x.2.2.2.2.2.1, ls 1 false (encI .u8) x.2.2.2.2.2.2.1, ls 5 false enc78 x.2.2.2.2.2.2.2] 78 5)] 3 [1]) (Kseq Try.prog w0 S 52 (cR (cR (cR (cB Try.f56)))) (KEnd Try.prog Try.f56 (FEnd w0 S (.returned (tl 1 1 (encI .u8) r)) (mkW 2 [1] []))))) (fun (x : (List Int) × Int × Int × Int × Bool × (List Int) × (List S78)) (r : (List Int)) => ∀ (W0 w0 : World) (S : Own), Std W0 w0 S 1 → H Try.prog w0 S 52 (cR (cR (cR (cB Try.f56)))) (mkS [(0, tl 1 1 (encI .u8) x.1), (2, .int .u8 x.2.1), (4, .pointer (some ⟨2, 0, none⟩))] [(2, .cells [.int .u8 x.2.2.1, .int .u32 x.2.2.2.1, .bool x.2.2.2.2.1, ls 1 false (encI .u8) x.2.2.2.2.2.1, ls 5 false enc78 x.2.2.2.2.2.2] 78 5)] 3 [1]) (KEnd Try.prog Try.f56 (FEnd w0 S (.returned (tl 1 1 (encI .u8) r)) (mkW 2 [1] [])))) ?_ ?_ ?_ ?_
  · intro g_encode_1_L3 g_encode_1 ih_encode_1_L3 ih_encode_1 x r h
    intro W0 w0 S hS
    haveI := hS.noEx Try.prog
    refine HL.round ?_
    refine H.sr 1 (by kernel_rfl) ?_
    refine H.seqP (by kernel_rfl) ?_
    refine H.condS (b := decide (x.2.2.2.2.2 < x.2.2.2.2.1)) (by kernel_rfl) (by kernel_rfl) (fun hb => ?_) (fun hb => ?_)
    · rw [if_pos (of_decide_eq_true hb)] at h
      refine H.skipP (by kernel_rfl) ?_
      refine Kseq_norm ?_
      refine H.seqP (by kernel_rfl) ?_
      refine H.blockI 1 (by kernel_rfl) ?_
      refine H.sg (by kernel_rfl) ?_
      obtain ⟨y3, hy, h⟩ := bindS h
      refine HO.idx (.agg #[.int .u8 y3.c0, .int .u32 y3.c1, .bool y3.c2, ls 1 false (encI .u8) y3.c3, ls 5 false enc78 y3.c4]) hy (enc78_eq y3) (by kernel_rfl) ?_
      refine HO.fin 3 (by kernel_rfl) ?_
      refine H.regP (by kernel_rfl) ?_
      refine HO.goP 3 (by kernel_rfl) ?_
      obtain ⟨y4, hy, h⟩ := bindS h
      refine HO.callFW hS (tl 1 4 (encI .u8) y4) 5 [4, 1] [(3, .cells [.int .u8 y3.c0, .int .u32 y3.c1, .bool y3.c2, ls 1 false (encI .u8) y3.c3, ls 5 false enc78 y3.c4] 78 5)] [2] [.keep, .agg [.keep, .keep, .keep, .list 1 false, .list 5 false], .keep] (ih_encode_1 (x.2.2.1, y3.c0, y3.c1, y3.c2, y3.c3, y3.c4, x.2.1) y4 hy W0) (by kernel_rfl) (by kernel_rfl) ?_
      refine HO.goP 1 (by kernel_rfl) ?_
      refine HO.done (by kernel_rfl) ?_
      refine Kblock_norm ?_
      refine Kseq_norm ?_
      refine H.regP (by kernel_rfl) ?_
      refine HO.goP 2 (by kernel_rfl) ?_
      refine HO.done (by kernel_rfl) ?_
      refine Kloop_norm ?_
      exact HL.ren hS [0, 1, 4] _ _ _ (by kernel_rfl) (ih_encode_1_L3 (x.1, x.2.1, y4, x.2.2.2.1, x.2.2.2.2.1, (IntKind.i64.wrap (x.2.2.2.2.2 + 1))) r h W0 w0 S hS)
    rw [if_neg (of_decide_eq_false hb)] at h
    refine H.exitI 0 (by kernel_rfl) ?_
    refine Kseq_exit ?_
    refine Kloop_exit ?_
    refine Kblock_hit ?_
    refine Kseq_norm ?_
    refine H.seqP (by kernel_rfl) ?_
    refine H.sr 2 (by kernel_rfl) ?_
    refine H.condS (b := decide (x.2.1 = 1)) (by kernel_rfl) (by kernel_rfl) (fun hb => ?_) (fun hb => ?_)
    · rw [if_pos (of_decide_eq_true hb)] at h
      refine H.sg (by kernel_rfl) ?_
      refine HO.goP 2 (by kernel_rfl) ?_
      obtain ⟨y5, hy, h⟩ := bindS h
      refine HO.effA (app1_aop (enc := (encI .u8)) (k := 1) false 1 [.int .u8 128] [2] hy (by kernel_rfl) (by kernel_rfl) (by kernel_rfl)) ?_
      refine HO.goP 1 (by kernel_rfl) ?_
      obtain ⟨y6, hy, h⟩ := bindS h
      by_cases hb : x.2.2.1.length = 0
      · rw [if_pos hb] at h
        refine HO.valA (appN_aop (ag := false) [2] (encI_ok .u8) hy hb (by kernel_rfl)) ?_
        refine HO.fin 1 (by kernel_rfl) ?_
        exact H.ren hS [0, 4] _ _ _ (by kernel_rfl) (encode_1_L4_ok y5 r h W0 w0 S hS)
      rw [if_neg hb] at h
      refine HO.effA (appL_aop (ag := false) [2] (encI_ok .u8) hy hb (by kernel_rfl)) ?_
      refine HO.fin 1 (by kernel_rfl) ?_
      exact H.ren hS [0, 5] _ _ _ (by kernel_rfl) (encode_1_L4_ok y6 r h W0 w0 S hS)
    rw [if_neg (of_decide_eq_false hb)] at h
    refine H.skipP (by kernel_rfl) ?_
    refine Kseq_norm ?_
    refine H.sg (by kernel_rfl) ?_
    refine HO.goP 2 (by kernel_rfl) ?_
    refine HO.len (by kernel_rfl) (by kernel_rfl) (ls_size (encI .u8) x.2.2.1) ?_
    refine HO.goP 1 (by kernel_rfl) ?_
    obtain ⟨y8, hy, h⟩ := bindS h
    refine HO.callFW hS (tl 1 3 (encI .u8) y8) 4 [3, 2] [] [1] [.keep, .keep, .keep] (size_ok (x.1, (x.2.2.1.length : Int), x.2.1) y8 hy W0) (by kernel_rfl) (by kernel_rfl) ?_
    refine HO.goP 1 (by kernel_rfl) ?_
    obtain ⟨y9, hy, h⟩ := bindS h
    by_cases hb : x.2.2.1.length = 0
    · rw [if_pos hb] at h
      refine HO.valA (appN_aop (ag := false) [2] (encI_ok .u8) hy hb (by kernel_rfl)) ?_
      refine HO.fin 1 (by kernel_rfl) ?_
      exact H.ren hS [0, 3] _ _ _ (by kernel_rfl) (encode_1_L5_ok y8 r h W0 w0 S hS)
    rw [if_neg hb] at h
    refine HO.effA (appL_aop (ag := false) [2] (encI_ok .u8) hy hb (by kernel_rfl)) ?_
    refine HO.fin 1 (by kernel_rfl) ?_
    exact H.ren hS [0, 4] _ _ _ (by kernel_rfl) (encode_1_L5_ok y9 r h W0 w0 S hS)
  · intro g_encode_1_L1 ih_encode_1_L1 x r h
    intro W0
    refine FTo.of_body (fn := Try.f56) (code := cB Try.f56) Try.func56 rfl rfl ?_
    intro w0 S hS
    haveI := hS.noEx Try.prog
    refine H.sr 2 (by kernel_rfl) ?_
    refine H.sg (by kernel_rfl) ?_
    refine HO.goP 2 (by kernel_rfl) ?_
    obtain ⟨y1, hy, h⟩ := bindS h
    refine HO.callFW hS (tl 1 2 (encI .u8) y1) 3 [2] [(1, .cells [.int .u8 x.2.1, .int .u32 x.2.2.1, .bool x.2.2.2.1, ls 1 false (encI .u8) x.2.2.2.2.1, ls 5 false enc78 x.2.2.2.2.2.1] 78 5)] [0] [.keep, .agg [.keep, .keep, .keep, .list 1 false, .list 5 false]] (identifier_1_ok (x.1, x.2.1, x.2.2.1, x.2.2.2.1, x.2.2.2.2.1, x.2.2.2.2.2.1) y1 hy W0) (by kernel_rfl) (by kernel_rfl) ?_
    refine HO.fin 1 (by kernel_rfl) ?_
    refine H.seqP (by kernel_rfl) ?_
    refine H.sg (by kernel_rfl) ?_
    refine HO.goP 3 (by kernel_rfl) ?_
    refine HO.boolP (!x.2.2.2.1) (by kernel_rfl) (by kernel_rfl) (fun hb => ?_) (fun hb => ?_)
    · rw [if_pos hb] at h
      refine HO.fin 3 (by kernel_rfl) ?_
      exact H.ren hS [0, 2, 1] _ _ _ (by kernel_rfl) (ih_encode_1_L1 (y1, x.2.2.2.2.2.2, (!decide (x.2.2.2.2.2.2 = 2)), x.2.1, x.2.2.1, x.2.2.2.1, x.2.2.2.2.1, x.2.2.2.2.2.1) r h W0 w0 S hS)
    rw [if_neg (ne_true hb)] at h
    refine HO.fin 3 (by kernel_rfl) ?_
    exact H.ren hS [0, 2, 1] _ _ _ (by kernel_rfl) (ih_encode_1_L1 (y1, x.2.2.2.2.2.2, false, x.2.1, x.2.2.1, x.2.2.2.1, x.2.2.2.2.1, x.2.2.2.2.2.1) r h W0 w0 S hS)
  · intro g_encode_1_L2 ih_encode_1_L2 x r h
    intro W0 w0 S hS
    haveI := hS.noEx Try.prog
    refine H.condS (b := x.2.2.1) (by kernel_rfl) (by kernel_rfl) (fun hb => ?_) (fun hb => ?_)
    rotate_left
    · rw [if_neg (ne_true hb)] at h
      refine H.skipP (by kernel_rfl) ?_
      refine Kseq_norm ?_
      exact H.ren hS [0, 1, 2] _ _ _ (by kernel_rfl) (ih_encode_1_L2 (x.1, x.2.1, x.2.2.2.1, x.2.2.2.2.1, x.2.2.2.2.2.1, x.2.2.2.2.2.2.1, x.2.2.2.2.2.2.2) r h W0 w0 S hS)
    rw [if_pos hb] at h
    refine H.regP (by kernel_rfl) ?_
    refine HO.fin 1 (by kernel_rfl) ?_
    exact H.ren hS [0, 1, 2] _ _ _ (by kernel_rfl) (ih_encode_1_L2 (x.1, 0, x.2.2.2.1, x.2.2.2.2.1, x.2.2.2.2.2.1, x.2.2.2.2.2.2.1, x.2.2.2.2.2.2.2) r h W0 w0 S hS)
  · intro g_encode_1_L3 ih_encode_1_L3 x r h
    intro W0 w0 S hS
    haveI := hS.noEx Try.prog
    refine H.sg (by kernel_rfl) ?_
    refine HO.goP 2 (by kernel_rfl) ?_
    obtain ⟨y2, hy, h⟩ := bindS h
    refine HO.callW hS [.list 1 false] (clip_ok x.2.2.2.2.2.1 y2 hy W0) (by kernel_rfl) (by kernel_rfl) ?_
    refine HO.fin 1 (by kernel_rfl) ?_
    refine H.seqP (by kernel_rfl) ?_
    refine H.sg (by kernel_rfl) ?_
    refine HO.goP 2 (by kernel_rfl) ?_
    refine HO.len (by kernel_rfl) (by kernel_rfl) (ls_size enc78 x.2.2.2.2.2.2) ?_
    refine HO.fin 1 (by kernel_rfl) ?_
    refine H.blockI 0 (by kernel_rfl) ?_
    refine H.loopP (by kernel_rfl) ?_
    refine HL.tok 7 1 (es := (y2.map (encI .u8)).toArray) (by kernel_rfl) ?_
    exact HL.ren hS [0, 1, 3] _ _ _ (by kernel_rfl) (ih_encode_1_L3 (x.1, x.2.1, y2, x.2.2.2.2.2.2, (x.2.2.2.2.2.2.length : Int), 0) r h W0 w0 S hS)
theorem encode_1_L3_ok : ∀ (x : (List Int) × Int × (List Int) × (List S78) × Int × Int) (r : (List Int)), encode_1_L3 x = some r → ∀ (W0 w0 : World) (S : Own), Std W0 w0 S 1 → HL Try.prog w0 S 52 (cL (cL (cR (cL (cR (cR (cR (cR (cB Try.f56))))))))) (mkS [(0, tl 1 1 (encI .u8) x.1), (2, .int .u8 x.2.1), (7, tl 1 2 (encI .u8) x.2.2.1), (24, ls 5 false enc78 x.2.2.2.1), (25, .int .i64 x.2.2.2.2.1), (26, .int .i64 x.2.2.2.2.2)] [] 3 [2, 1]) (Kblock 0 (Kseq Try.prog w0 S 52 (cR (cR (cR (cR (cR (cB Try.f56)))))) (KEnd Try.prog Try.f56 (FEnd w0 S (.returned (tl 1 1 (encI .u8) r)) (mkW 2 [1] []))))) := encode_1_L3_grp.1
theorem encode_1_ok : ∀ (x : (List Int) × Int × Int × Bool × (List Int) × (List S78) × Int) (r : (List Int)), encode_1 x = some r → ∀ W0 : World, FTo Try.prog W0 56 #[tl 1 0 (encI .u8) x.1, .agg #[.int .u8 x.2.1, .int .u32 x.2.2.1, .bool x.2.2.2.1, ls 1 false (encI .u8) x.2.2.2.2.1, ls 5 false enc78 x.2.2.2.2.2.1], .int .u8 x.2.2.2.2.2.2] (mkW 1 [0] []) (.returned (tl 1 1 (encI .u8) r)) (mkW 2 [1] []) := encode_1_L3_grp.2.1
theorem encode_1_L1_ok : ∀ (x : (List Int) × Int × Bool × Int × Int × Bool × (List Int) × (List S78)) (r : (List Int)), encode_1_L1 x = some r → ∀ (W0 w0 : World) (S : Own), Std W0 w0 S 1 → H Try.prog w0 S 52 (cR (cL (cR (cR (cB Try.f56))))) (mkS [(0, tl 1 1 (encI .u8) x.1), (2, .int .u8 x.2.1), (4, .pointer (some ⟨2, 0, none⟩)), (19, .bool x.2.2.1)] [(2, .cells [.int .u8 x.2.2.2.1, .int .u32 x.2.2.2.2.1, .bool x.2.2.2.2.2.1, ls 1 false (encI .u8) x.2.2.2.2.2.2.1, ls 5 false enc78 x.2.2.2.2.2.2.2] 78 5)] 3 [1]) (Kseq Try.prog w0 S 52 (cR (cR (cR (cB Try.f56)))) (KEnd Try.prog Try.f56 (FEnd w0 S (.returned (tl 1 1 (encI .u8) r)) (mkW 2 [1] [])))) := encode_1_L3_grp.2.2.1
theorem encode_1_L2_ok : ∀ (x : (List Int) × Int × Int × Int × Bool × (List Int) × (List S78)) (r : (List Int)), encode_1_L2 x = some r → ∀ (W0 w0 : World) (S : Own), Std W0 w0 S 1 → H Try.prog w0 S 52 (cR (cR (cR (cB Try.f56)))) (mkS [(0, tl 1 1 (encI .u8) x.1), (2, .int .u8 x.2.1), (4, .pointer (some ⟨2, 0, none⟩))] [(2, .cells [.int .u8 x.2.2.1, .int .u32 x.2.2.2.1, .bool x.2.2.2.2.1, ls 1 false (encI .u8) x.2.2.2.2.2.1, ls 5 false enc78 x.2.2.2.2.2.2] 78 5)] 3 [1]) (KEnd Try.prog Try.f56 (FEnd w0 S (.returned (tl 1 1 (encI .u8) r)) (mkW 2 [1] []))) := encode_1_L3_grp.2.2.2
def encode_L4 (x : (List Int)) : Option ((List Int)) :=
  (app' 1 x [0, 0]) >>= fun y7 =>
  some y7
theorem encode_L4_ok : ∀ (x : (List Int)) (r : (List Int)), encode_L4 x = some r → ∀ (W0 w0 : World) (S : Own), Std W0 w0 S 0 → H Try.prog w0 S 52 (cR (cL (cR (cL (cR (cR (cR (cR (cR (cB Try.f56)))))))))) (mkS [(0, tl 1 0 (encI .u8) x)] [] 1 [0]) (Kseq Try.prog w0 S 52 (cR (cR (cR (cR (cR (cR (cB Try.f56))))))) (KEnd Try.prog Try.f56 (FEnd w0 S (.returned (tl 1 0 (encI .u8) r)) (mkW 1 [0] [])))) := by
  intro x r h
  unfold encode_L4 at h
  intro W0 w0 S hS
  haveI := hS.noEx Try.prog
  refine H.sg (by kernel_rfl) ?_
  refine HO.goP 2 (by kernel_rfl) ?_
  obtain ⟨y7, hy, h⟩ := bindS h
  refine HO.effA (app1_aop (enc := (encI .u8)) (k := 1) false 2 [.int .u8 0, .int .u8 0] [] hy (by kernel_rfl) (by kernel_rfl) (by kernel_rfl)) ?_
  refine HO.fin 1 (by kernel_rfl) ?_
  refine H.retP (by kernel_rfl) ?_
  refine Kseq_ret ?_
  obtain rfl := Option.some.inj h
  exact KEnd.of (v := tl 1 2 (encI .u8) y7) (by kernel_rfl) (by kernel_rfl) (FEnd.ren hS [2] _ _ (by kernel_rfl))
def encode_L5 (x : (List Int)) : Option ((List Int)) :=
  some x
theorem encode_L5_ok : ∀ (x : (List Int)) (r : (List Int)), encode_L5 x = some r → ∀ (W0 w0 : World) (S : Own), Std W0 w0 S 0 → H Try.prog w0 S 52 (cR (cR (cR (cR (cR (cR (cR (cB Try.f56)))))))) (mkS [(6, tl 1 0 (encI .u8) x)] [] 1 [0]) (KEnd Try.prog Try.f56 (FEnd w0 S (.returned (tl 1 0 (encI .u8) r)) (mkW 1 [0] []))) := by
  intro x r h
  unfold encode_L5 at h
  intro W0 w0 S hS
  haveI := hS.noEx Try.prog
  refine H.retP (by kernel_rfl) ?_
  obtain rfl := Option.some.inj h
  exact KEnd.of (v := tl 1 0 (encI .u8) x) (by kernel_rfl) (by kernel_rfl) (FEnd.ren hS [0] _ _ (by kernel_rfl))
def encode_L3 (x : (List Int) × Int × (List Int) × (List S78) × Int × Int) : Option ((List Int)) :=
  if x.2.2.2.2.2 < x.2.2.2.2.1 then
    (at' x.2.2.2.1 x.2.2.2.2.2) >>= fun y3 =>
    (encode_1 (x.2.2.1, y3.c0, y3.c1, y3.c2, y3.c3, y3.c4, x.2.1)) >>= fun y4 =>
    encode_L3 (x.1, x.2.1, y4, x.2.2.2.1, x.2.2.2.2.1, (IntKind.i64.wrap (x.2.2.2.2.2 + 1)))
  else
    if x.2.1 = 1 then
      (app' 1 x.1 [128]) >>= fun y5 =>
      (app' 1 y5 x.2.2.1) >>= fun y6 =>
      if x.2.2.1.length = 0 then
        encode_L4 y5
      else
        encode_L4 y6
    else
      (size (x.1, (x.2.2.1.length : Int), x.2.1)) >>= fun y8 =>
      (app' 1 y8 x.2.2.1) >>= fun y9 =>
      if x.2.2.1.length = 0 then
        encode_L5 y8
      else
        encode_L5 y9
partial_fixpoint
theorem encode_L3_ok : ∀ (x : (List Int) × Int × (List Int) × (List S78) × Int × Int) (r : (List Int)), encode_L3 x = some r → ∀ (W0 w0 : World) (S : Own), Std W0 w0 S 0 → HL Try.prog w0 S 52 (cL (cL (cR (cL (cR (cR (cR (cR (cB Try.f56))))))))) (mkS [(0, tl 1 0 (encI .u8) x.1), (2, .int .u8 x.2.1), (7, tl 1 1 (encI .u8) x.2.2.1), (24, ls 5 false enc78 x.2.2.2.1), (25, .int .i64 x.2.2.2.2.1), (26, .int .i64 x.2.2.2.2.2)] [] 2 [1, 0]) (Kblock 0 (Kseq Try.prog w0 S 52 (cR (cR (cR (cR (cR (cB Try.f56)))))) (KEnd Try.prog Try.f56 (FEnd w0 S (.returned (tl 1 0 (encI .u8) r)) (mkW 1 [0] []))))) := by
  refine encode_L3.partial_correctness (fun (x : (List Int) × Int × (List Int) × (List S78) × Int × Int) (r : (List Int)) => ∀ (W0 w0 : World) (S : Own), Std W0 w0 S 0 → HL Try.prog w0 S 52 (cL (cL (cR (cL (cR (cR (cR (cR (cB Try.f56))))))))) (mkS [(0, tl 1 0 (encI .u8) x.1), (2, .int .u8 x.2.1), (7, tl 1 1 (encI .u8) x.2.2.1), (24, ls 5 false enc78 x.2.2.2.1), (25, .int .i64 x.2.2.2.2.1), (26, .int .i64 x.2.2.2.2.2)] [] 2 [1, 0]) (Kblock 0 (Kseq Try.prog w0 S 52 (cR (cR (cR (cR (cR (cB Try.f56)))))) (KEnd Try.prog Try.f56 (FEnd w0 S (.returned (tl 1 0 (encI .u8) r)) (mkW 1 [0] [])))))) ?_
  intro self ih_encode_L3 x r h
  intro W0 w0 S hS
  haveI := hS.noEx Try.prog
  refine HL.round ?_
  refine H.sr 1 (by kernel_rfl) ?_
  refine H.seqP (by kernel_rfl) ?_
  refine H.condS (b := decide (x.2.2.2.2.2 < x.2.2.2.2.1)) (by kernel_rfl) (by kernel_rfl) (fun hb => ?_) (fun hb => ?_)
  · rw [if_pos (of_decide_eq_true hb)] at h
    refine H.skipP (by kernel_rfl) ?_
    refine Kseq_norm ?_
    refine H.seqP (by kernel_rfl) ?_
    refine H.blockI 1 (by kernel_rfl) ?_
    refine H.sg (by kernel_rfl) ?_
    obtain ⟨y3, hy, h⟩ := bindS h
    refine HO.idx (.agg #[.int .u8 y3.c0, .int .u32 y3.c1, .bool y3.c2, ls 1 false (encI .u8) y3.c3, ls 5 false enc78 y3.c4]) hy (enc78_eq y3) (by kernel_rfl) ?_
    refine HO.fin 3 (by kernel_rfl) ?_
    refine H.regP (by kernel_rfl) ?_
    refine HO.goP 3 (by kernel_rfl) ?_
    obtain ⟨y4, hy, h⟩ := bindS h
    refine HO.callFW hS (tl 1 3 (encI .u8) y4) 4 [3, 0] [(2, .cells [.int .u8 y3.c0, .int .u32 y3.c1, .bool y3.c2, ls 1 false (encI .u8) y3.c3, ls 5 false enc78 y3.c4] 78 5)] [1] [.keep, .agg [.keep, .keep, .keep, .list 1 false, .list 5 false], .keep] (encode_1_ok (x.2.2.1, y3.c0, y3.c1, y3.c2, y3.c3, y3.c4, x.2.1) y4 hy W0) (by kernel_rfl) (by kernel_rfl) ?_
    refine HO.goP 1 (by kernel_rfl) ?_
    refine HO.done (by kernel_rfl) ?_
    refine Kblock_norm ?_
    refine Kseq_norm ?_
    refine H.regP (by kernel_rfl) ?_
    refine HO.goP 2 (by kernel_rfl) ?_
    refine HO.done (by kernel_rfl) ?_
    refine Kloop_norm ?_
    exact HL.ren hS [0, 3] _ _ _ (by kernel_rfl) (ih_encode_L3 (x.1, x.2.1, y4, x.2.2.2.1, x.2.2.2.2.1, (IntKind.i64.wrap (x.2.2.2.2.2 + 1))) r h W0 w0 S hS)
  rw [if_neg (of_decide_eq_false hb)] at h
  refine H.exitI 0 (by kernel_rfl) ?_
  refine Kseq_exit ?_
  refine Kloop_exit ?_
  refine Kblock_hit ?_
  refine Kseq_norm ?_
  refine H.seqP (by kernel_rfl) ?_
  refine H.sr 2 (by kernel_rfl) ?_
  refine H.condS (b := decide (x.2.1 = 1)) (by kernel_rfl) (by kernel_rfl) (fun hb => ?_) (fun hb => ?_)
  · rw [if_pos (of_decide_eq_true hb)] at h
    refine H.sg (by kernel_rfl) ?_
    refine HO.goP 2 (by kernel_rfl) ?_
    obtain ⟨y5, hy, h⟩ := bindS h
    refine HO.effA (app1_aop (enc := (encI .u8)) (k := 1) false 1 [.int .u8 128] [1] hy (by kernel_rfl) (by kernel_rfl) (by kernel_rfl)) ?_
    refine HO.goP 1 (by kernel_rfl) ?_
    obtain ⟨y6, hy, h⟩ := bindS h
    by_cases hb : x.2.2.1.length = 0
    · rw [if_pos hb] at h
      refine HO.valA (appN_aop (ag := false) [1] (encI_ok .u8) hy hb (by kernel_rfl)) ?_
      refine HO.fin 1 (by kernel_rfl) ?_
      exact H.ren hS [3] _ _ _ (by kernel_rfl) (encode_L4_ok y5 r h W0 w0 S hS)
    rw [if_neg hb] at h
    refine HO.effA (appL_aop (ag := false) [1] (encI_ok .u8) hy hb (by kernel_rfl)) ?_
    refine HO.fin 1 (by kernel_rfl) ?_
    exact H.ren hS [4] _ _ _ (by kernel_rfl) (encode_L4_ok y6 r h W0 w0 S hS)
  rw [if_neg (of_decide_eq_false hb)] at h
  refine H.skipP (by kernel_rfl) ?_
  refine Kseq_norm ?_
  refine H.sg (by kernel_rfl) ?_
  refine HO.goP 2 (by kernel_rfl) ?_
  refine HO.len (by kernel_rfl) (by kernel_rfl) (ls_size (encI .u8) x.2.2.1) ?_
  refine HO.goP 1 (by kernel_rfl) ?_
  obtain ⟨y8, hy, h⟩ := bindS h
  refine HO.callFW hS (tl 1 2 (encI .u8) y8) 3 [2, 1] [] [0] [.keep, .keep, .keep] (size_ok (x.1, (x.2.2.1.length : Int), x.2.1) y8 hy W0) (by kernel_rfl) (by kernel_rfl) ?_
  refine HO.goP 1 (by kernel_rfl) ?_
  obtain ⟨y9, hy, h⟩ := bindS h
  by_cases hb : x.2.2.1.length = 0
  · rw [if_pos hb] at h
    refine HO.valA (appN_aop (ag := false) [1] (encI_ok .u8) hy hb (by kernel_rfl)) ?_
    refine HO.fin 1 (by kernel_rfl) ?_
    exact H.ren hS [2] _ _ _ (by kernel_rfl) (encode_L5_ok y8 r h W0 w0 S hS)
  rw [if_neg hb] at h
  refine HO.effA (appL_aop (ag := false) [1] (encI_ok .u8) hy hb (by kernel_rfl)) ?_
  refine HO.fin 1 (by kernel_rfl) ?_
  exact H.ren hS [3] _ _ _ (by kernel_rfl) (encode_L5_ok y9 r h W0 w0 S hS)
def encode_L2 (x : (List Int) × Int × Int × Int × Bool × (List Int) × (List S78)) : Option ((List Int)) :=
  (clip x.2.2.2.2.2.1) >>= fun y2 =>
  encode_L3 (x.1, x.2.1, y2, x.2.2.2.2.2.2, (x.2.2.2.2.2.2.length : Int), 0)
theorem encode_L2_ok : ∀ (x : (List Int) × Int × Int × Int × Bool × (List Int) × (List S78)) (r : (List Int)), encode_L2 x = some r → ∀ (W0 w0 : World) (S : Own), Std W0 w0 S 0 → H Try.prog w0 S 52 (cR (cR (cR (cB Try.f56)))) (mkS [(0, tl 1 0 (encI .u8) x.1), (2, .int .u8 x.2.1), (4, .pointer (some ⟨1, 0, none⟩))] [(1, .cells [.int .u8 x.2.2.1, .int .u32 x.2.2.2.1, .bool x.2.2.2.2.1, ls 1 false (encI .u8) x.2.2.2.2.2.1, ls 5 false enc78 x.2.2.2.2.2.2] 78 5)] 2 [0]) (KEnd Try.prog Try.f56 (FEnd w0 S (.returned (tl 1 0 (encI .u8) r)) (mkW 1 [0] []))) := by
  intro x r h
  unfold encode_L2 at h
  intro W0 w0 S hS
  haveI := hS.noEx Try.prog
  refine H.sg (by kernel_rfl) ?_
  refine HO.goP 2 (by kernel_rfl) ?_
  obtain ⟨y2, hy, h⟩ := bindS h
  refine HO.callW hS [.list 1 false] (clip_ok x.2.2.2.2.2.1 y2 hy W0) (by kernel_rfl) (by kernel_rfl) ?_
  refine HO.fin 1 (by kernel_rfl) ?_
  refine H.seqP (by kernel_rfl) ?_
  refine H.sg (by kernel_rfl) ?_
  refine HO.goP 2 (by kernel_rfl) ?_
  refine HO.len (by kernel_rfl) (by kernel_rfl) (ls_size enc78 x.2.2.2.2.2.2) ?_
  refine HO.fin 1 (by kernel_rfl) ?_
  refine H.blockI 0 (by kernel_rfl) ?_
  refine H.loopP (by kernel_rfl) ?_
  refine HL.tok 7 1 (es := (y2.map (encI .u8)).toArray) (by kernel_rfl) ?_
  exact HL.ren hS [0, 2] _ _ _ (by kernel_rfl) (encode_L3_ok (x.1, x.2.1, y2, x.2.2.2.2.2.2, (x.2.2.2.2.2.2.length : Int), 0) r h W0 w0 S hS)
def encode_L1 (x : (List Int) × Int × Bool × Int × Int × Bool × (List Int) × (List S78)) : Option ((List Int)) :=
  if x.2.2.1 = true then
    encode_L2 (x.1, 0, x.2.2.2.1, x.2.2.2.2.1, x.2.2.2.2.2.1, x.2.2.2.2.2.2.1, x.2.2.2.2.2.2.2)
  else
    encode_L2 (x.1, x.2.1, x.2.2.2.1, x.2.2.2.2.1, x.2.2.2.2.2.1, x.2.2.2.2.2.2.1, x.2.2.2.2.2.2.2)
theorem encode_L1_ok : ∀ (x : (List Int) × Int × Bool × Int × Int × Bool × (List Int) × (List S78)) (r : (List Int)), encode_L1 x = some r → ∀ (W0 w0 : World) (S : Own), Std W0 w0 S 0 → H Try.prog w0 S 52 (cR (cL (cR (cR (cB Try.f56))))) (mkS [(0, tl 1 0 (encI .u8) x.1), (2, .int .u8 x.2.1), (4, .pointer (some ⟨1, 0, none⟩)), (19, .bool x.2.2.1)] [(1, .cells [.int .u8 x.2.2.2.1, .int .u32 x.2.2.2.2.1, .bool x.2.2.2.2.2.1, ls 1 false (encI .u8) x.2.2.2.2.2.2.1, ls 5 false enc78 x.2.2.2.2.2.2.2] 78 5)] 2 [0]) (Kseq Try.prog w0 S 52 (cR (cR (cR (cB Try.f56)))) (KEnd Try.prog Try.f56 (FEnd w0 S (.returned (tl 1 0 (encI .u8) r)) (mkW 1 [0] [])))) := by
  intro x r h
  unfold encode_L1 at h
  intro W0 w0 S hS
  haveI := hS.noEx Try.prog
  refine H.condS (b := x.2.2.1) (by kernel_rfl) (by kernel_rfl) (fun hb => ?_) (fun hb => ?_)
  rotate_left
  · rw [if_neg (ne_true hb)] at h
    refine H.skipP (by kernel_rfl) ?_
    refine Kseq_norm ?_
    exact H.ren hS [0, 1] _ _ _ (by kernel_rfl) (encode_L2_ok (x.1, x.2.1, x.2.2.2.1, x.2.2.2.2.1, x.2.2.2.2.2.1, x.2.2.2.2.2.2.1, x.2.2.2.2.2.2.2) r h W0 w0 S hS)
  rw [if_pos hb] at h
  refine H.regP (by kernel_rfl) ?_
  refine HO.fin 1 (by kernel_rfl) ?_
  exact H.ren hS [0, 1] _ _ _ (by kernel_rfl) (encode_L2_ok (x.1, 0, x.2.2.2.1, x.2.2.2.2.1, x.2.2.2.2.2.1, x.2.2.2.2.2.2.1, x.2.2.2.2.2.2.2) r h W0 w0 S hS)
def encode (x : Int × Int × Bool × (List Int) × (List S78) × Int) : Option ((List Int)) :=
  (identifier_1 ([], x.1, x.2.1, x.2.2.1, x.2.2.2.1, x.2.2.2.2.1)) >>= fun y1 =>
  if (!x.2.2.1) = true then
    encode_L1 (y1, x.2.2.2.2.2, (!decide (x.2.2.2.2.2 = 2)), x.1, x.2.1, x.2.2.1, x.2.2.2.1, x.2.2.2.2.1)
  else
    encode_L1 (y1, x.2.2.2.2.2, false, x.1, x.2.1, x.2.2.1, x.2.2.2.1, x.2.2.2.2.1)
theorem encode_ok : ∀ (x : Int × Int × Bool × (List Int) × (List S78) × Int) (r : (List Int)), encode x = some r → ∀ W0 : World, FTo Try.prog W0 56 #[.slice none 0 0, .agg #[.int .u8 x.1, .int .u32 x.2.1, .bool x.2.2.1, ls 1 false (encI .u8) x.2.2.2.1, ls 5 false enc78 x.2.2.2.2.1], .int .u8 x.2.2.2.2.2] (mkW 0 [] []) (.returned (tl 1 0 (encI .u8) r)) (mkW 1 [0] []) := by
  intro x r h
  unfold encode at h
  intro W0
  refine FTo.of_body (fn := Try.f56) (code := cB Try.f56) Try.func56 rfl rfl ?_
  intro w0 S hS
  haveI := hS.noEx Try.prog
  refine H.sr 2 (by kernel_rfl) ?_
  refine H.sg (by kernel_rfl) ?_
  refine HO.goP 2 (by kernel_rfl) ?_
  refine HO.tok 10 1 (es := #[]) (by kernel_rfl) ?_
  obtain ⟨y1, hy, h⟩ := bindS h
  refine HO.callFW hS (tl 1 2 (encI .u8) y1) 3 [2] [(0, .cells [.int .u8 x.1, .int .u32 x.2.1, .bool x.2.2.1, ls 1 false (encI .u8) x.2.2.2.1, ls 5 false enc78 x.2.2.2.2.1] 78 5)] [1] [.keep, .agg [.keep, .keep, .keep, .list 1 false, .list 5 false]] (identifier_1_ok ([], x.1, x.2.1, x.2.2.1, x.2.2.2.1, x.2.2.2.2.1) y1 hy W0) (by kernel_rfl) (by kernel_rfl) ?_
  refine HO.fin 1 (by kernel_rfl) ?_
  refine H.seqP (by kernel_rfl) ?_
  refine H.sg (by kernel_rfl) ?_
  refine HO.goP 3 (by kernel_rfl) ?_
  refine HO.boolP (!x.2.2.1) (by kernel_rfl) (by kernel_rfl) (fun hb => ?_) (fun hb => ?_)
  · rw [if_pos hb] at h
    refine HO.fin 3 (by kernel_rfl) ?_
    exact H.ren hS [2, 0] _ _ _ (by kernel_rfl) (encode_L1_ok (y1, x.2.2.2.2.2, (!decide (x.2.2.2.2.2 = 2)), x.1, x.2.1, x.2.2.1, x.2.2.2.1, x.2.2.2.2.1) r h W0 w0 S hS)
  rw [if_neg (ne_true hb)] at h
  refine HO.fin 3 (by kernel_rfl) ?_
  exact H.ren hS [2, 0] _ _ _ (by kernel_rfl) (encode_L1_ok (y1, x.2.2.2.2.2, false, x.1, x.2.1, x.2.2.1, x.2.2.2.1, x.2.2.2.2.1) r h W0 w0 S hS)
def encodeAs (x : Int × Int × Bool × (List Int) × (List S78) × Int) : Option ((List Int) × Int) :=
  (check (x.1, x.2.1, x.2.2.1, x.2.2.2.1, x.2.2.2.2.1)) >>= fun y1 =>
  if (!decide (y1 = 0)) = true then
    some ([], y1)
  else
    if 2 < x.2.2.2.2.2 then
      some ([], 1)
    else
      (long (x.1, x.2.1, x.2.2.1, x.2.2.2.1, x.2.2.2.2.1)) >>= fun y2 =>
      if 65536 < y2 then
        some ([], 3)
      else
        (encode (x.1, x.2.1, x.2.2.1, x.2.2.2.1, x.2.2.2.2.1, x.2.2.2.2.2)) >>= fun y3 =>
        if 65536 < (y3.length : Int) then
          some ([], 3)
        else
          (clip y3) >>= fun y4 =>
          some (y4, 0)
theorem encodeAs_ok : ∀ (x : Int × Int × Bool × (List Int) × (List S78) × Int) (r : (List Int) × Int), encodeAs x = some r → ∀ W0 : World, PTo Try.prog W0 32 #[.agg #[.int .u8 x.1, .int .u32 x.2.1, .bool x.2.2.1, ls 1 false (encI .u8) x.2.2.2.1, ls 5 false enc78 x.2.2.2.2.1], .int .u8 x.2.2.2.2.2] (.returned (.tuple #[ls 1 true (encI .u8) r.1, .int .i64 r.2])) := by
  intro x r h
  unfold encodeAs at h
  intro W0
  refine PTo.of_body (fn := Try.f32) (code := cB Try.f32) Try.func32 rfl rfl ?_
  intro w0 S hS
  haveI := hS.noEx Try.prog
  refine H.sr 3 (by kernel_rfl) ?_
  refine H.seqP (by kernel_rfl) ?_
  refine H.sg (by kernel_rfl) ?_
  refine HO.goP 1 (by kernel_rfl) ?_
  obtain ⟨y1, hy, h⟩ := bindS h
  refine HO.callW hS [.agg [.keep, .keep, .keep, .list 1 false, .list 5 false]] (check_ok (x.1, x.2.1, x.2.2.1, x.2.2.2.1, x.2.2.2.2.1) y1 hy W0) (by kernel_rfl) (by kernel_rfl) ?_
  refine HO.fin 1 (by kernel_rfl) ?_
  refine H.blockI 0 (by kernel_rfl) ?_
  refine H.sr 3 (by kernel_rfl) ?_
  refine H.condS (b := !decide (y1 = 0)) (by kernel_rfl) (by kernel_rfl) (fun hb => ?_) (fun hb => ?_)
  · rw [if_pos hb] at h
    refine H.sr 3 (by kernel_rfl) ?_
    refine H.retP (by kernel_rfl) ?_
    refine Kblock_ret ?_
    refine Kseq_ret ?_
    obtain rfl := Option.some.inj h
    exact KEnd.retW (v := .tuple #[.slice none 0 0, .int .i64 y1]) (.tuple [.list 1 true, .keep]) (by kernel_rfl) (by kernel_rfl) (by kernel_rfl) (by kernel_rfl)
  rw [if_neg (ne_true hb)] at h
  refine H.sr 3 (by kernel_rfl) ?_
  refine H.condS (b := decide (2 < x.2.2.2.2.2)) (by kernel_rfl) (by kernel_rfl) (fun hb => ?_) (fun hb => ?_)
  · rw [if_pos (of_decide_eq_true hb)] at h
    refine H.sr 2 (by kernel_rfl) ?_
    refine H.retP (by kernel_rfl) ?_
    refine Kblock_ret ?_
    refine Kseq_ret ?_
    obtain rfl := Option.some.inj h
    exact KEnd.retW (v := .tuple #[.slice none 0 0, .int .i64 1]) (.tuple [.list 1 true, .keep]) (by kernel_rfl) (by kernel_rfl) (by kernel_rfl) (by kernel_rfl)
  rw [if_neg (of_decide_eq_false hb)] at h
  refine H.skipP (by kernel_rfl) ?_
  refine Kblock_norm ?_
  refine Kseq_norm ?_
  refine H.seqP (by kernel_rfl) ?_
  refine H.sg (by kernel_rfl) ?_
  refine HO.goP 1 (by kernel_rfl) ?_
  obtain ⟨y2, hy, h⟩ := bindS h
  refine HO.callW hS [.agg [.keep, .keep, .keep, .list 1 false, .list 5 false]] (long_ok (x.1, x.2.1, x.2.2.1, x.2.2.2.1, x.2.2.2.2.1) y2 hy W0) (by kernel_rfl) (by kernel_rfl) ?_
  refine HO.fin 1 (by kernel_rfl) ?_
  refine H.condS (b := decide (65536 < y2)) (by kernel_rfl) (by kernel_rfl) (fun hb => ?_) (fun hb => ?_)
  · rw [if_pos (of_decide_eq_true hb)] at h
    refine H.sr 2 (by kernel_rfl) ?_
    refine H.retP (by kernel_rfl) ?_
    refine Kseq_ret ?_
    obtain rfl := Option.some.inj h
    exact KEnd.retW (v := .tuple #[.slice none 0 0, .int .i64 3]) (.tuple [.list 1 true, .keep]) (by kernel_rfl) (by kernel_rfl) (by kernel_rfl) (by kernel_rfl)
  rw [if_neg (of_decide_eq_false hb)] at h
  refine H.skipP (by kernel_rfl) ?_
  refine Kseq_norm ?_
  refine H.sg (by kernel_rfl) ?_
  refine HO.goP 2 (by kernel_rfl) ?_
  obtain ⟨y3, hy, h⟩ := bindS h
  refine HO.callFW hS (tl 1 1 (encI .u8) y3) 2 [1] [(0, .cells [.int .u8 x.1, .int .u32 x.2.1, .bool x.2.2.1, ls 1 false (encI .u8) x.2.2.2.1, ls 5 false enc78 x.2.2.2.2.1] 78 5)] [] [.keep, .agg [.keep, .keep, .keep, .list 1 false, .list 5 false], .keep] (encode_ok (x.1, x.2.1, x.2.2.1, x.2.2.2.1, x.2.2.2.2.1, x.2.2.2.2.2) y3 hy W0) (by kernel_rfl) (by kernel_rfl) ?_
  refine HO.fin 1 (by kernel_rfl) ?_
  refine H.seqP (by kernel_rfl) ?_
  refine H.sg (by kernel_rfl) ?_
  refine HO.goP 1 (by kernel_rfl) ?_
  refine HO.len (by kernel_rfl) (by kernel_rfl) (ls_size (encI .u8) y3) ?_
  refine HO.fin 1 (by kernel_rfl) ?_
  refine H.condS (b := decide (65536 < (y3.length : Int))) (by kernel_rfl) (by kernel_rfl) (fun hb => ?_) (fun hb => ?_)
  · rw [if_pos (of_decide_eq_true hb)] at h
    refine H.sr 2 (by kernel_rfl) ?_
    refine H.retP (by kernel_rfl) ?_
    refine Kseq_ret ?_
    obtain rfl := Option.some.inj h
    exact KEnd.retW (v := .tuple #[.slice none 0 0, .int .i64 3]) (.tuple [.list 1 true, .keep]) (by kernel_rfl) (by kernel_rfl) (by kernel_rfl) (by kernel_rfl)
  rw [if_neg (of_decide_eq_false hb)] at h
  refine H.skipP (by kernel_rfl) ?_
  refine Kseq_norm ?_
  refine H.sg (by kernel_rfl) ?_
  refine HO.goP 1 (by kernel_rfl) ?_
  obtain ⟨y4, hy, h⟩ := bindS h
  refine HO.callW hS [.list 1 false] (clip_ok y3 y4 hy W0) (by kernel_rfl) (by kernel_rfl) ?_
  refine HO.fin 2 (by kernel_rfl) ?_
  refine H.retP (by kernel_rfl) ?_
  obtain rfl := Option.some.inj h
  exact KEnd.retW (v := .tuple #[ls 1 true (encI .u8) y4, .int .i64 0]) (.tuple [.list 1 true, .keep]) (by kernel_rfl) (by kernel_rfl) (by kernel_rfl) (by kernel_rfl)
end Vf
