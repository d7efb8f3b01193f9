import Derived.Test.YtcokmnpgeokfpaaDoorProg
import Derived.Test.YtcokmnpgeokfpaaDoorVxD
set_option linter.unusedVariables false
set_option linter.unusedSimpArgs false
set_option maxHeartbeats 4000000
namespace Vf
open Go Go.Vx Go.Proofs
structure S63 where
  mk ::
  c0 : Int
  c1 : Int
  c2 : Int
  c3 : Int
  c4 : Int
  c5 : (List Int)
  deriving Inhabited
def enc63 (x : S63) : Value := .agg #[.int .u8 x.c0, .int .u8 x.c1, .int .u8 x.c2, .int .u8 x.c3, .int .u8 x.c4, ls 1 false (encI .u8) x.c5]
theorem enc63_eq (x : S63) : enc63 x = .agg #[.int .u8 x.c0, .int .u8 x.c1, .int .u8 x.c2, .int .u8 x.c3, .int .u8 x.c4, ls 1 false (encI .u8) x.c5] := rfl
theorem enc63_ok : EncOk 6 true enc63 := by
  refine ⟨fun x => by rw [enc63_eq]; rfl, fun x c h => ?_, fun x => ⟨_, enc63_eq x⟩⟩
  rw [enc63_eq] at h
  simp only [Value.cells, List.mem_cons, List.not_mem_nil, or_false] at h
  rcases h with rfl | rfl | rfl | rfl | rfl | rfl <;> exact ⟨rfl, rfl⟩
structure S70 where
  mk ::
  c0 : Int
  c1 : Int
  c2 : Int
  c3 : Int
  c4 : Int
  c5 : (List Int)
  deriving Inhabited
def enc70 (x : S70) : Value := .agg #[.int .u8 x.c0, .int .i64 x.c1, .int .i64 x.c2, .int .i64 x.c3, .int .u8 x.c4, ls 1 false (encI .u8) x.c5]
theorem enc70_eq (x : S70) : enc70 x = .agg #[.int .u8 x.c0, .int .i64 x.c1, .int .i64 x.c2, .int .i64 x.c3, .int .u8 x.c4, ls 1 false (encI .u8) x.c5] := rfl
theorem enc70_ok : EncOk 6 true enc70 := by
  refine ⟨fun x => by rw [enc70_eq]; rfl, fun x c h => ?_, fun x => ⟨_, enc70_eq x⟩⟩
  rw [enc70_eq] at h
  simp only [Value.cells, List.mem_cons, List.not_mem_nil, or_false] at h
  rcases h with rfl | rfl | rfl | rfl | rfl | rfl <;> exact ⟨rfl, rfl⟩
structure S65 where
  mk ::
  c0 : Int
  c1 : Int
  c2 : Bool
  c3 : (List Int)
  c4 : Int
  deriving Inhabited
def enc65 (x : S65) : Value := .agg #[.int .u8 x.c0, .int .u32 x.c1, .bool x.c2, ls 1 false (encI .u8) x.c3, .int .u8 x.c4]
theorem enc65_eq (x : S65) : enc65 x = .agg #[.int .u8 x.c0, .int .u32 x.c1, .bool x.c2, ls 1 false (encI .u8) x.c3, .int .u8 x.c4] := rfl
theorem enc65_ok : EncOk 5 true enc65 := by
  refine ⟨fun x => by rw [enc65_eq]; rfl, fun x c h => ?_, fun x => ⟨_, enc65_eq x⟩⟩
  rw [enc65_eq] at h
  simp only [Value.cells, List.mem_cons, List.not_mem_nil, or_false] at h
  rcases h with rfl | rfl | rfl | rfl | rfl <;> exact ⟨rfl, rfl⟩
structure S36 where
  mk ::
  c0 : Int
  c1 : Int
  c2 : Bool
  c3 : (List Int)
  c4 : (List S36)
  deriving Inhabited
mutual
def enc36 : S36 → Value
  | .mk c0 c1 c2 c3 c4 => .agg #[.int .u8 c0, .int .u32 c1, .bool c2, ls 1 false (encI .u8) c3, lst 5 false (enc36L c4).toArray]
def enc36L : List S36 → List Value
  | [] => []
  | a :: l => enc36 a :: enc36L l
end
theorem enc36L_eq : ∀ l : List S36, enc36L l = l.map enc36
  | [] => by rw [enc36L]; rfl
  | a :: l => by rw [enc36L, enc36L_eq l]; rfl
theorem enc36_eq (x : S36) : enc36 x = .agg #[.int .u8 x.c0, .int .u32 x.c1, .bool x.c2, ls 1 false (encI .u8) x.c3, ls 5 false enc36 x.c4] := by
  cases x
  rw [enc36]
  simp only [enc36L_eq]
  rfl
theorem enc36_ok : EncOk 5 true enc36 := by
  refine ⟨fun x => by rw [enc36_eq]; rfl, fun x c h => ?_, fun x => ⟨_, enc36_eq x⟩⟩
  rw [enc36_eq] at h
  simp only [Value.cells, List.mem_cons, List.not_mem_nil, or_false] at h
  rcases h with rfl | rfl | rfl | rfl | rfl <;> exact ⟨rfl, rfl⟩
def cloneB (x : List Int) : Option (List Int) := app' 1 [] x
theorem cloneB_L1 (x : List Int) : ∀ (W0 w0 : World) (S : Own), Std W0 w0 S 0 → H Tryd.prog w0 S 8 (cR (cR (cR (cB Tryd.f87)))) (mkS [(2, tl 1 0 (encI .u8) x)] [] 1 [0]) (KEnd Tryd.prog Tryd.f87 (PEnd w0 S (.returned (ls 1 false (encI .u8) x)))) := by
  intro W0 w0 S hS
  haveI := hS.noEx Tryd.prog
  refine H.ret' ?_
  exact KEnd.retW (v := tl 1 0 (encI .u8) x) (.list 1 false) (by kernel_rfl) (by kernel_rfl) (by kernel_rfl) (by kernel_rfl)
theorem cloneB_ok : ∀ (x : List Int) (r : List Int), cloneB x = some r → ∀ W0 : World, PTo Tryd.prog W0 87 #[ls 1 false (encI .u8) x] (.returned (ls 1 false (encI .u8) r)) := by
  intro x r h
  unfold cloneB at h
  intro W0
  refine PTo.of_body (fn := Tryd.f87) (code := cB Tryd.f87) Tryd.func87 rfl rfl ?_
  intro w0 S hS
  haveI := hS.noEx Tryd.prog
  refine H.seq' ?_
  refine H.reg' ?_
  refine HO.go' 1 ?_
  refine HO.end' ?_
  refine Kseq_norm ?_
  refine H.seq' ?_
  refine H.seq' ?_
  refine H.reg' ?_
  refine HO.go' 1 ?_
  refine HO.nilB (eq := true) (es := (x.map (encI .u8)).toArray) (by kernel_rfl) (fun b hb0 => ?_)
  cases b with
  | true =>
    have hx : x = [] := List.eq_nil_of_length_eq_zero (by simpa using hb0 rfl)
    subst hx
    have hr : r = [] := by
      have := (app'_spec h).2
      simpa using this
    subst hr
    refine HO.end' ?_
    refine Kseq_norm ?_
    refine H.cT' ?_
    refine H.seq' ?_
    refine H.reg' ?_
    refine HO.go' 1 ?_
    refine HO.end' ?_
    refine Kseq_norm ?_
    refine H.ret' ?_
    refine Kseq_ret ?_
    exact KEnd.retW (v := .slice none 0 0) (.list 1 false) (by kernel_rfl) (by kernel_rfl) (by kernel_rfl) (by kernel_rfl)
  | false =>
    refine HO.end' ?_
    refine Kseq_norm ?_
    refine H.cF' ?_
    refine H.skp' ?_
    refine Kseq_norm ?_
    refine H.seq' ?_
    refine H.reg' ?_
    refine HO.go' 2 ?_
    refine HO.tkz [5] 0 0 0 1 5 ([].map (encI .u8)).toArray [] (by kernel_rfl) ?_
    have hr := (app'_spec h).2
    by_cases hb : x.length = 0
    · have hr0 : r = [] := by rw [hr]; simpa using List.eq_nil_of_length_eq_zero hb
      subst hr0
      refine HO.valA (appN_aop (ag := false) [] (encI_ok .u8) h hb (by kernel_rfl)) ?_
      refine HO.go' 1 ?_
      refine HO.end' ?_
      refine Kseq_norm ?_
      exact H.ren' hS [1] (cloneB_L1 [] W0 w0 S hS)
    · refine HO.effA (appL_aop (ag := false) [] (encI_ok .u8) h hb (by kernel_rfl)) ?_
      refine HO.go' 1 ?_
      refine HO.end' ?_
      refine Kseq_norm ?_
      exact H.ren' hS [2] (cloneB_L1 r W0 w0 S hS)

def cloneS (x : List Int) : Option (List Int) := app' 1 [] x
theorem cloneS_L1 (x : List Int) : ∀ (W0 w0 : World) (S : Own), Std W0 w0 S 0 → H Tryd.prog w0 S 8 (cR (cR (cR (cB Tryd.f89)))) (mkS [(2, tl 1 0 (encI .u8) x)] [] 1 [0]) (KEnd Tryd.prog Tryd.f89 (PEnd w0 S (.returned (ls 1 false (encI .u8) x)))) := by
  intro W0 w0 S hS
  haveI := hS.noEx Tryd.prog
  refine H.ret' ?_
  exact KEnd.retW (v := tl 1 0 (encI .u8) x) (.list 1 false) (by kernel_rfl) (by kernel_rfl) (by kernel_rfl) (by kernel_rfl)
theorem cloneS_ok : ∀ (x : List Int) (r : List Int), cloneS x = some r → ∀ W0 : World, PTo Tryd.prog W0 89 #[ls 1 false (encI .u8) x] (.returned (ls 1 false (encI .u8) r)) := by
  intro x r h
  unfold cloneS at h
  intro W0
  refine PTo.of_body (fn := Tryd.f89) (code := cB Tryd.f89) Tryd.func89 rfl rfl ?_
  intro w0 S hS
  haveI := hS.noEx Tryd.prog
  refine H.seq' ?_
  refine H.reg' ?_
  refine HO.go' 1 ?_
  refine HO.end' ?_
  refine Kseq_norm ?_
  refine H.seq' ?_
  refine H.seq' ?_
  refine H.reg' ?_
  refine HO.go' 1 ?_
  refine HO.nilB (eq := true) (es := (x.map (encI .u8)).toArray) (by kernel_rfl) (fun b hb0 => ?_)
  cases b with
  | true =>
    have hx : x = [] := List.eq_nil_of_length_eq_zero (by simpa using hb0 rfl)
    subst hx
    have hr : r = [] := by
      have := (app'_spec h).2
      simpa using this
    subst hr
    refine HO.end' ?_
    refine Kseq_norm ?_
    refine H.cT' ?_
    refine H.seq' ?_
    refine H.reg' ?_
    refine HO.go' 1 ?_
    refine HO.end' ?_
    refine Kseq_norm ?_
    refine H.ret' ?_
    refine Kseq_ret ?_
    exact KEnd.retW (v := .slice none 0 0) (.list 1 false) (by kernel_rfl) (by kernel_rfl) (by kernel_rfl) (by kernel_rfl)
  | false =>
    refine HO.end' ?_
    refine Kseq_norm ?_
    refine H.cF' ?_
    refine H.skp' ?_
    refine Kseq_norm ?_
    refine H.seq' ?_
    refine H.reg' ?_
    refine HO.go' 2 ?_
    refine HO.tkz [5] 0 0 0 1 5 ([].map (encI .u8)).toArray [] (by kernel_rfl) ?_
    have hr := (app'_spec h).2
    by_cases hb : x.length = 0
    · have hr0 : r = [] := by rw [hr]; simpa using List.eq_nil_of_length_eq_zero hb
      subst hr0
      refine HO.valA (appN_aop (ag := false) [] (encI_ok .u8) h hb (by kernel_rfl)) ?_
      refine HO.go' 1 ?_
      refine HO.end' ?_
      refine Kseq_norm ?_
      exact H.ren' hS [1] (cloneS_L1 [] W0 w0 S hS)
    · refine HO.effA (appL_aop (ag := false) [] (encI_ok .u8) h hb (by kernel_rfl)) ?_
      refine HO.go' 1 ?_
      refine HO.end' ?_
      refine Kseq_norm ?_
      exact H.ren' hS [2] (cloneS_L1 r W0 w0 S hS)

def grown_L4 (x : Int × Int × Int × Bool × (List Int)) : Option (Int × Int × Bool × (List Int) × (List S36) × Int) :=
  some (x.2.1, x.2.2.1, x.2.2.2.1, x.2.2.2.2, [], x.1)
theorem grown_L4_ok : ∀ (x : Int × Int × Int × Bool × (List Int)) (r : Int × Int × Bool × (List Int) × (List S36) × Int), grown_L4 x = some r → ∀ (W0 w0 : World) (S : Own), Std W0 w0 S 0 → H Tryd.prog w0 S 102 (cR (cL (cR (cL (cR (cR (cR (cR (cR (cR (cB Tryd.f45))))))))))) (mkS [(6, .pointer (some ⟨0, 0, none⟩)), (9, .pointer (some ⟨1, 0, none⟩)), (10, .int .i64 x.1)] [(0, .cells [.int .u8 0, .int .u32 0, .bool false, .slice none 0 0, .slice none 0 0] 36 5), (1, .cells [.int .u8 x.2.1, .int .u32 x.2.2.1, .bool x.2.2.2.1, tl 1 2 (encI .u8) x.2.2.2.2, .slice none 0 0] 36 5)] 3 [2]) (Kseq Tryd.prog w0 S 102 (cR (cR (cR (cR (cR (cR (cR (cB Tryd.f45)))))))) (KEnd Tryd.prog Tryd.f45 (PEnd w0 S (.returned (.tuple #[.agg #[.int .u8 r.1, .int .u32 r.2.1, .bool r.2.2.1, ls 1 false (encI .u8) r.2.2.2.1, ls 5 false enc36 r.2.2.2.2.1], .int .i64 r.2.2.2.2.2]))))) := by
  intro x r h
  unfold grown_L4 at h
  intro W0 w0 S hS
  haveI := hS.noEx Tryd.prog
  refine H.sr' 4 ?_
  refine H.ret' ?_
  refine Kseq_ret ?_
  obtain rfl := Option.some.inj h
  exact KEnd.retW (v := .tuple #[.agg #[.int .u8 x.2.1, .int .u32 x.2.2.1, .bool x.2.2.2.1, tl 1 2 (encI .u8) x.2.2.2.2, .slice none 0 0], .int .i64 x.1]) (.tuple [.agg [.keep, .keep, .keep, .list 1 false, .list 5 false], .keep]) (by kernel_rfl) (by kernel_rfl) (by kernel_rfl) (by kernel_rfl)
mutual
def grown_L6 (x : (List S65) × Int × Int × Int × Bool × Int × Int × Bool × (List Int) × Int × Int × Int × (List S36)) : Option (Int × Int × Bool × (List Int) × (List S36) × Int) :=
  if x.2.2.2.2.1 = true then
    (grown (x.1, x.2.2.1, (IntKind.i64.wrap (x.2.1 + 1)))) >>= fun y4 =>
    (app' 64 x.2.2.2.2.2.2.2.2.2.2.2.2 [(S36.mk y4.1 y4.2.1 y4.2.2.1 y4.2.2.2.1 y4.2.2.2.2.1)]) >>= fun y5 =>
    grown_L5 (x.1, x.2.1, y4.2.2.2.2.2, (IntKind.i64.wrap (x.2.2.2.1 + 1)), x.2.2.2.2.2.1, x.2.2.2.2.2.2.1, x.2.2.2.2.2.2.2.1, x.2.2.2.2.2.2.2.2.1, x.2.2.2.2.2.2.2.2.2.1, x.2.2.2.2.2.2.2.2.2.2.1, x.2.2.2.2.2.2.2.2.2.2.2.1, y5)
  else
    some (x.2.2.2.2.2.2.2.2.2.2.1, x.2.2.2.2.2.2.2.2.2.2.2.1, x.2.2.2.2.2.2.2.1, [], x.2.2.2.2.2.2.2.2.2.2.2.2, x.2.2.1)
partial_fixpoint
def grown_L5 (x : (List S65) × Int × Int × Int × Int × Int × Bool × (List Int) × Int × Int × Int × (List S36)) : Option (Int × Int × Bool × (List Int) × (List S36) × Int) :=
  if x.2.2.2.1 < (IntKind.i64.wrap (remI .u8 x.2.2.2.2.2.2.2.2.1 4)) then
    if x.2.1 < 10 then
      if x.2.2.1 < (x.1.length : Int) then
        grown_L6 (x.1, x.2.1, x.2.2.1, x.2.2.2.1, (decide (x.2.2.1 < 40)), x.2.2.2.2.1, x.2.2.2.2.2.1, x.2.2.2.2.2.2.1, x.2.2.2.2.2.2.2.1, x.2.2.2.2.2.2.2.2.1, x.2.2.2.2.2.2.2.2.2.1, x.2.2.2.2.2.2.2.2.2.2.1, x.2.2.2.2.2.2.2.2.2.2.2)
      else
        grown_L6 (x.1, x.2.1, x.2.2.1, x.2.2.2.1, false, x.2.2.2.2.1, x.2.2.2.2.2.1, x.2.2.2.2.2.2.1, x.2.2.2.2.2.2.2.1, x.2.2.2.2.2.2.2.2.1, x.2.2.2.2.2.2.2.2.2.1, x.2.2.2.2.2.2.2.2.2.2.1, x.2.2.2.2.2.2.2.2.2.2.2)
    else
      grown_L6 (x.1, x.2.1, x.2.2.1, x.2.2.2.1, false, x.2.2.2.2.1, x.2.2.2.2.2.1, x.2.2.2.2.2.2.1, x.2.2.2.2.2.2.2.1, x.2.2.2.2.2.2.2.2.1, x.2.2.2.2.2.2.2.2.2.1, x.2.2.2.2.2.2.2.2.2.2.1, x.2.2.2.2.2.2.2.2.2.2.2)
  else
    grown_L6 (x.1, x.2.1, x.2.2.1, x.2.2.2.1, false, x.2.2.2.2.1, x.2.2.2.2.2.1, x.2.2.2.2.2.2.1, x.2.2.2.2.2.2.2.1, x.2.2.2.2.2.2.2.2.1, x.2.2.2.2.2.2.2.2.2.1, x.2.2.2.2.2.2.2.2.2.2.1, x.2.2.2.2.2.2.2.2.2.2.2)
partial_fixpoint
def grown (x : (List S65) × Int × Int) : Option (Int × Int × Bool × (List Int) × (List S36) × Int) :=
  if (x.1.length : Int) ≤ x.2.1 then
    grown_L1 (x.1, x.2.1, x.2.2, true)
  else
    grown_L1 (x.1, x.2.1, x.2.2, (decide (40 ≤ x.2.1)))
partial_fixpoint
def grown_L1 (x : (List S65) × Int × Int × Bool) : Option (Int × Int × Bool × (List Int) × (List S36) × Int) :=
  if x.2.2.2 = true then
    some (3, 1, false, [], [], (IntKind.i64.wrap (x.2.1 + 1)))
  else
    (at' x.1 x.2.1) >>= fun y1 =>
    if (remI .u8 y1.c0 4) = 0 then
      grown_L2 (x.1, x.2.1, x.2.2.1, (decide ((remI .u32 y1.c1 2097152) = 0)), y1.c0, y1.c1, y1.c2, y1.c3, y1.c4, (remI .u8 y1.c0 4), (remI .u32 y1.c1 2097152))
    else
      grown_L2 (x.1, x.2.1, x.2.2.1, false, y1.c0, y1.c1, y1.c2, y1.c3, y1.c4, (remI .u8 y1.c0 4), (remI .u32 y1.c1 2097152))
partial_fixpoint
def grown_L2 (x : (List S65) × Int × Int × Bool × Int × Int × Bool × (List Int) × Int × Int × Int) : Option (Int × Int × Bool × (List Int) × (List S36) × Int) :=
  if x.2.2.2.1 = true then
    grown_L3 (x.1, x.2.1, x.2.2.1, x.2.2.2.2.1, x.2.2.2.2.2.1, x.2.2.2.2.2.2.1, x.2.2.2.2.2.2.2.1, x.2.2.2.2.2.2.2.2.1, x.2.2.2.2.2.2.2.2.2.1, 2)
  else
    grown_L3 (x.1, x.2.1, x.2.2.1, x.2.2.2.2.1, x.2.2.2.2.2.1, x.2.2.2.2.2.2.1, x.2.2.2.2.2.2.2.1, x.2.2.2.2.2.2.2.2.1, x.2.2.2.2.2.2.2.2.2.1, x.2.2.2.2.2.2.2.2.2.2)
partial_fixpoint
def grown_L3 (x : (List S65) × Int × Int × Int × Int × Bool × (List Int) × Int × Int × Int) : Option (Int × Int × Bool × (List Int) × (List S36) × Int) :=
  if (!x.2.2.2.2.2.1) = true then
    (sub' x.2.2.2.2.2.2.1 0 (minI (x.2.2.2.2.2.2.1.length : Int) 300)) >>= fun y2 =>
    (app' 1 [] y2) >>= fun y3 =>
    if y2.length = 0 then
      grown_L4 ((IntKind.i64.wrap (x.2.1 + 1)), x.2.2.2.2.2.2.2.2.1, x.2.2.2.2.2.2.2.2.2, x.2.2.2.2.2.1, [])
    else
      grown_L4 ((IntKind.i64.wrap (x.2.1 + 1)), x.2.2.2.2.2.2.2.2.1, x.2.2.2.2.2.2.2.2.2, x.2.2.2.2.2.1, y3)
  else
    grown_L5 (x.1, x.2.2.1, (IntKind.i64.wrap (x.2.1 + 1)), 0, x.2.2.2.1, x.2.2.2.2.1, x.2.2.2.2.2.1, x.2.2.2.2.2.2.1, x.2.2.2.2.2.2.2.1, x.2.2.2.2.2.2.2.2.1, x.2.2.2.2.2.2.2.2.2, [])
partial_fixpoint
end
theorem grown_L6_grp : (∀ (x : (List S65) × Int × Int × Int × Bool × Int × Int × Bool × (List Int) × Int × Int × Int × (List S36)) (r : Int × Int × Bool × (List Int) × (List S36) × Int), grown_L6 x = some r → ∀ (W0 w0 : World) (S : Own), Std W0 w0 S 0 → H Tryd.prog w0 S 102 (cR (cL (cL (cL (cR (cL (cR (cR (cR (cR (cR (cR (cR (cB Tryd.f45)))))))))))))) (mkS [(0, ls 5 false enc65 x.1), (2, .int .i64 x.2.1), (6, .pointer (some ⟨0, 0, none⟩)), (8, .pointer (some ⟨1, 0, none⟩)), (9, .pointer (some ⟨2, 0, none⟩)), (10, .int .i64 x.2.2.1), (11, .int .i64 x.2.2.2.1), (83, .bool x.2.2.2.2.1)] [(0, .cells [.int .u8 0, .int .u32 0, .bool false, .slice none 0 0, .slice none 0 0] 36 5), (1, .cells [.int .u8 x.2.2.2.2.2.1, .int .u32 x.2.2.2.2.2.2.1, .bool x.2.2.2.2.2.2.2.1, ls 1 false (encI .u8) x.2.2.2.2.2.2.2.2.1, .int .u8 x.2.2.2.2.2.2.2.2.2.1] 65 5), (2, .cells [.int .u8 x.2.2.2.2.2.2.2.2.2.2.1, .int .u32 x.2.2.2.2.2.2.2.2.2.2.2.1, .bool x.2.2.2.2.2.2.2.1, .slice none 0 0, tl 5 3 enc36 x.2.2.2.2.2.2.2.2.2.2.2.2] 36 5)] 4 [3]) (Kseq Tryd.prog w0 S 102 (cR (cL (cL (cR (cL (cR (cR (cR (cR (cR (cR (cR (cB Tryd.f45))))))))))))) (Kloop Tryd.prog w0 S 102 (cL (cL (cR (cL (cR (cR (cR (cR (cR (cR (cR (cB Tryd.f45)))))))))))) (Kblock 0 (Kseq Tryd.prog w0 S 102 (cR (cR (cR (cR (cR (cR (cR (cR (cB Tryd.f45))))))))) (KEnd Tryd.prog Tryd.f45 (PEnd w0 S (.returned (.tuple #[.agg #[.int .u8 r.1, .int .u32 r.2.1, .bool r.2.2.1, ls 1 false (encI .u8) r.2.2.2.1, ls 5 false enc36 r.2.2.2.2.1], .int .i64 r.2.2.2.2.2]))))))))) ∧
  (∀ (x : (List S65) × Int × Int × Int × Int × Int × Bool × (List Int) × Int × Int × Int × (List S36)) (r : Int × Int × Bool × (List Int) × (List S36) × Int), grown_L5 x = some r → ∀ (W0 w0 : World) (S : Own), Std W0 w0 S 0 → HL Tryd.prog w0 S 102 (cL (cL (cR (cL (cR (cR (cR (cR (cR (cR (cR (cB Tryd.f45)))))))))))) (mkS [(0, ls 5 false enc65 x.1), (2, .int .i64 x.2.1), (6, .pointer (some ⟨0, 0, none⟩)), (8, .pointer (some ⟨1, 0, none⟩)), (9, .pointer (some ⟨2, 0, none⟩)), (10, .int .i64 x.2.2.1), (11, .int .i64 x.2.2.2.1)] [(0, .cells [.int .u8 0, .int .u32 0, .bool false, .slice none 0 0, .slice none 0 0] 36 5), (1, .cells [.int .u8 x.2.2.2.2.1, .int .u32 x.2.2.2.2.2.1, .bool x.2.2.2.2.2.2.1, ls 1 false (encI .u8) x.2.2.2.2.2.2.2.1, .int .u8 x.2.2.2.2.2.2.2.2.1] 65 5), (2, .cells [.int .u8 x.2.2.2.2.2.2.2.2.2.1, .int .u32 x.2.2.2.2.2.2.2.2.2.2.1, .bool x.2.2.2.2.2.2.1, .slice none 0 0, tl 5 3 enc36 x.2.2.2.2.2.2.2.2.2.2.2] 36 5)] 4 [3]) (Kblock 0 (Kseq Tryd.prog w0 S 102 (cR (cR (cR (cR (cR (cR (cR (cR (cB Tryd.f45))))))))) (KEnd Tryd.prog Tryd.f45 (PEnd w0 S (.returned (.tuple #[.agg #[.int .u8 r.1, .int .u32 r.2.1, .bool r.2.2.1, ls 1 false (encI .u8) r.2.2.2.1, ls 5 false enc36 r.2.2.2.2.1], .int .i64 r.2.2.2.2.2]))))))) ∧
  (∀ (x : (List S65) × Int × Int) (r : Int × Int × Bool × (List Int) × (List S36) × Int), grown x = some r → ∀ W0 : World, PTo Tryd.prog W0 45 #[ls 5 false enc65 x.1, .int .i64 x.2.1, .int .i64 x.2.2] (.returned (.tuple #[.agg #[.int .u8 r.1, .int .u32 r.2.1, .bool r.2.2.1, ls 1 false (encI .u8) r.2.2.2.1, ls 5 false enc36 r.2.2.2.2.1], .int .i64 r.2.2.2.2.2]))) ∧
  (∀ (x : (List S65) × Int × Int × Bool) (r : Int × Int × Bool × (List Int) × (List S36) × Int), grown_L1 x = some r → ∀ (W0 w0 : World) (S : Own), Std W0 w0 S 0 → H Tryd.prog w0 S 102 (cR (cL (cR (cB Tryd.f45)))) (mkS [(0, ls 5 false enc65 x.1), (1, .int .i64 x.2.1), (2, .int .i64 x.2.2.1), (6, .pointer (some ⟨0, 0, none⟩)), (20, .bool x.2.2.2)] [(0, .cells [.int .u8 0, .int .u32 0, .bool false, .slice none 0 0, .slice none 0 0] 36 5)] 1 []) (Kseq Tryd.prog w0 S 102 (cR (cR (cB Tryd.f45))) (KEnd Tryd.prog Tryd.f45 (PEnd w0 S (.returned (.tuple #[.agg #[.int .u8 r.1, .int .u32 r.2.1, .bool r.2.2.1, ls 1 false (encI .u8) r.2.2.2.1, ls 5 false enc36 r.2.2.2.2.1], .int .i64 r.2.2.2.2.2])))))) ∧
  (∀ (x : (List S65) × Int × Int × Bool × Int × Int × Bool × (List Int) × Int × Int × Int) (r : Int × Int × Bool × (List Int) × (List S36) × Int), grown_L2 x = some r → ∀ (W0 w0 : World) (S : Own), Std W0 w0 S 0 → H Tryd.prog w0 S 102 (cR (cL (cR (cR (cR (cR (cB Tryd.f45))))))) (mkS [(0, ls 5 false enc65 x.1), (1, .int .i64 x.2.1), (2, .int .i64 x.2.2.1), (6, .pointer (some ⟨0, 0, none⟩)), (8, .pointer (some ⟨1, 0, none⟩)), (9, .pointer (some ⟨2, 0, none⟩)), (45, .bool x.2.2.2.1)] [(0, .cells [.int .u8 0, .int .u32 0, .bool false, .slice none 0 0, .slice none 0 0] 36 5), (1, .cells [.int .u8 x.2.2.2.2.1, .int .u32 x.2.2.2.2.2.1, .bool x.2.2.2.2.2.2.1, ls 1 false (encI .u8) x.2.2.2.2.2.2.2.1, .int .u8 x.2.2.2.2.2.2.2.2.1] 65 5), (2, .cells [.int .u8 x.2.2.2.2.2.2.2.2.2.1, .int .u32 x.2.2.2.2.2.2.2.2.2.2, .bool x.2.2.2.2.2.2.1, .slice none 0 0, .slice none 0 0] 36 5)] 3 []) (Kseq Tryd.prog w0 S 102 (cR (cR (cR (cR (cR (cB Tryd.f45)))))) (KEnd Tryd.prog Tryd.f45 (PEnd w0 S (.returned (.tuple #[.agg #[.int .u8 r.1, .int .u32 r.2.1, .bool r.2.2.1, ls 1 false (encI .u8) r.2.2.2.1, ls 5 false enc36 r.2.2.2.2.1], .int .i64 r.2.2.2.2.2])))))) ∧
  (∀ (x : (List S65) × Int × Int × Int × Int × Bool × (List Int) × Int × Int × Int) (r : Int × Int × Bool × (List Int) × (List S36) × Int), grown_L3 x = some r → ∀ (W0 w0 : World) (S : Own), Std W0 w0 S 0 → H Tryd.prog w0 S 102 (cR (cR (cR (cR (cR (cB Tryd.f45)))))) (mkS [(0, ls 5 false enc65 x.1), (1, .int .i64 x.2.1), (2, .int .i64 x.2.2.1), (6, .pointer (some ⟨0, 0, none⟩)), (8, .pointer (some ⟨1, 0, none⟩)), (9, .pointer (some ⟨2, 0, none⟩))] [(0, .cells [.int .u8 0, .int .u32 0, .bool false, .slice none 0 0, .slice none 0 0] 36 5), (1, .cells [.int .u8 x.2.2.2.1, .int .u32 x.2.2.2.2.1, .bool x.2.2.2.2.2.1, ls 1 false (encI .u8) x.2.2.2.2.2.2.1, .int .u8 x.2.2.2.2.2.2.2.1] 65 5), (2, .cells [.int .u8 x.2.2.2.2.2.2.2.2.1, .int .u32 x.2.2.2.2.2.2.2.2.2, .bool x.2.2.2.2.2.1, .slice none 0 0, .slice none 0 0] 36 5)] 3 []) (KEnd Tryd.prog Tryd.f45 (PEnd w0 S (.returned (.tuple #[.agg #[.int .u8 r.1, .int .u32 r.2.1, .bool r.2.2.1, ls 1 false (encI .u8) r.2.2.2.1, ls 5 false enc36 r.2.2.2.2.1], .int .i64 r.2.2.2.2.2]))))) := by
  refine grown_L6.mutual_partial_correctness (fun (x : (List S65) × Int × Int × Int × Bool × Int × Int × Bool × (List Int) × Int × Int × Int × (List S36)) (r : Int × Int × Bool × (List Int) × (List S36) × Int) => ∀ (W0 w0 : World) (S : Own), Std W0 w0 S 0 → H Tryd.prog w0 S 102 (cR (cL (cL (cL (cR (cL (cR (cR (cR (cR (cR (cR (cR (cB Tryd.f45)))))))))))))) (mkS [(0, ls 5 false enc65 x.1), (2, .int .i64 x.2.1), (6, .pointer (some ⟨0, 0, none⟩)), (8, .pointer (some ⟨1, 0, none⟩)), (9, .pointer (some ⟨2, 0, none⟩)), (10, .int .i64 x.2.2.1), (11, .int .i64 x.2.2.2.1), (83, .bool x.2.2.2.2.1)] [(0, .cells [.int .u8 0, .int .u32 0, .bool false, .slice none 0 0, .slice none 0 0] 36 5), (1, .cells [.int .u8 x.2.2.2.2.2.1, .int .u32 x.2.2.2.2.2.2.1, .bool x.2.2.2.2.2.2.2.1, ls 1 false (encI .u8) x.2.2.2.2.2.2.2.2.1, .int .u8 x.2.2.2.2.2.2.2.2.2.1] 65 5), (2, .cells [.int .u8 x.2.2.2.2.2.2.2.2.2.2.1, .int .u32 x.2.2.2.2.2.2.2.2.2.2.2.1, .bool x.2.2.2.2.2.2.2.1, .slice none 0 0, tl 5 3 enc36 x.2.2.2.2.2.2.2.2.2.2.2.2] 36 5)] 4 [3]) (Kseq Tryd.prog w0 S 102 (cR (cL (cL (cR (cL (cR (cR (cR (cR (cR (cR (cR (cB Tryd.f45))))))))))))) (Kloop Tryd.prog w0 S 102 (cL (cL (cR (cL (cR (cR (cR (cR (cR (cR (cR (cB Tryd.f45)))))))))))) (Kblock 0 (Kseq Tryd.prog w0 S 102 (cR (cR (cR (cR (cR (cR (cR (cR (cB Tryd.f45))))))))) (KEnd Tryd.prog Tryd.f45 (PEnd w0 S (.returned (.tuple #[.agg #[.int .u8 r.1, .int .u32 r.2.1, .bool r.2.2.1, ls 1 false (encI .u8) r.2.2.2.1, ls 5 false enc36 r.2.2.2.2.1], .int .i64 r.2.2.2.2.2]))))))))) (fun (x : (List S65) × Int × Int × Int × Int × Int × Bool × (List Int) × Int × Int × Int × (List S36)) (r : Int × Int × Bool × (List Int) × (List S36) × Int) => ∀ (W0 w0 : World) (S : Own), Std W0 w0 S 0 → HL Tryd.prog w0 S 102 (cL (cL (cR (cL (cR (cR (cR (cR (cR (cR (cR (cB Tryd.f45)))))))))))) (mkS [(0, ls 5 false enc65 x.1), (2, .int .i64 x.2.1), (6, .pointer (some ⟨0, 0, none⟩)), (8, .pointer (some ⟨1, 0, none⟩)), (9, .pointer (some ⟨2, 0, none⟩)), (10, .int .i64 x.2.2.1), (11, .int .i64 x.2.2.2.1)] [(0, .cells [.int .u8 0, .int .u32 0, .bool false, .slice none 0 0, .slice none 0 0] 36 5), (1, .cells [.int .u8 x.2.2.2.2.1, .int .u32 x.2.2.2.2.2.1, .bool x.2.2.2.2.2.2.1, ls 1 false (encI .u8) x.2.2.2.2.2.2.2.1, .int .u8 x.2.2.2.2.2.2.2.2.1] 65 5), (2, .cells [.int .u8 x.2.2.2.2.2.2.2.2.2.1, .int .u32 x.2.2.2.2.2.2.2.2.2.2.1, .bool x.2.2.2.2.2.2.1, .slice none 0 0, tl 5 3 enc36 x.2.2.2.2.2.2.2.2.2.2.2] 36 5)] 4 [3]) (Kblock 0 (Kseq Tryd.prog w0 S 102 (cR (cR (cR (cR (cR (cR (cR (cR (cB Tryd.f45))))))))) (KEnd Tryd.prog Tryd.f45 (PEnd w0 S (.returned (.tuple #[.agg #[.int .u8 r.1, .int .u32 r.2.1, .bool r.2.2.1, ls 1 false (encI .u8) r.2.2.2.1, ls 5 false enc36 r.2.2.2.2.1], .int .i64 r.2.2.2.2.2]))))))) (fun (x : (List S65) × Int × Int) (r : Int × Int × Bool × (List Int) × (List S36) × Int) => ∀ W0 : World, PTo Tryd.prog W0 45 #[ls 5 false enc65 x.1, .int .i64 x.2.1, .int .i64 x.2.2] (.returned (.tuple #[.agg #[.int .u8 r.1, .int .u32 r.2.1, .bool r.2.2.1, ls 1 false (encI .u8) r.2.2.2.1, ls 5 false enc36 r.2.2.2.2.1], .int .i64 r.2.2.2.2.2]))) (fun (x : (List S65) × Int × Int × Bool) (r : Int × Int × Bool × (List Int) × (List S36) × Int) => ∀ (W0 w0 : World) (S : Own), Std W0 w0 S 0 → H Tryd.prog w0 S 102 (cR (cL (cR (cB Tryd.f45)))) (mkS [(0, ls 5 false enc65 x.1), (1, .int .i64 x.2.1), (2, .int .i64 x.2.2.1), (6, .pointer (some ⟨0, 0, none⟩)), (20, .bool x.2.2.2)] [(0, .cells [.int .u8 0, .int .u32 0, .bool false, .slice none 0 0, .slice none 0 0] 36 5)] 1 []) (Kseq Tryd.prog w0 S 102 (cR (cR (cB Tryd.f45))) (KEnd Tryd.prog Tryd.f45 (PEnd w0 S (.returned (.tuple #[.agg #[.int .u8 r.1, .int .u32 r.2.1, .bool r.2.2.1, ls 1 false (encI .u8) r.2.2.2.1, ls 5 false enc36 r.2.2.2.2.1], .int .i64 r.2.2.2.2.2])))))) (fun (x : (List S65) × Int × Int × Bool × Int × Int × Bool × (List Int) × Int × Int × Int) (r : Int × Int × Bool × (List Int) × (List S36) × Int) => ∀ (W0 w0 : World) (S : Own), Std W0 w0 S 0 → H Tryd.prog w0 S 102 (cR (cL (cR (cR (cR (cR (cB Tryd.f45))))))) (mkS [(0, ls 5 false enc65 x.1), (1, .int .i64 x.2.1), (2, .int .i64 x.2.2.1), (6, .pointer (some ⟨0, 0, none⟩)), (8, .pointer (some ⟨1, 0, none⟩)), (9, .pointer (some ⟨2, 0, none⟩)), (45, .bool x.2.2.2.1)] [(0, .cells [.int .u8 0, .int .u32 0, .bool false, .slice none 0 0, .slice none 0 0] 36 5), (1, .cells [.int .u8 x.2.2.2.2.1, .int .u32 x.2.2.2.2.2.1, .bool x.2.2.2.2.2.2.1, ls 1 false (encI .u8) x.2.2.2.2.2.2.2.1, .int .u8 x.2.2.2.2.2.2.2.2.1] 65 5), (2, .cells [.int .u8 x.2.2.2.2.2.2.2.2.2.1, .int .u32 x.2.2.2.2.2.2.2.2.2.2, .bool x.2.2.2.2.2.2.1, .slice none 0 0, .slice none 0 0] 36 5)] 3 []) (Kseq Tryd.prog w0 S 102 (cR (cR (cR (cR (cR (cB Tryd.f45)))))) (KEnd Tryd.prog Tryd.f45 (PEnd w0 S (.returned (.tuple #[.agg #[.int .u8 r.1, .int .u32 r.2.1, .bool r.2.2.1, ls 1 false (encI .u8) r.2.2.2.1, ls 5 false enc36 r.2.2.2.2.1], .int .i64 r.2.2.2.2.2])))))) (fun (x : (List S65) × Int × Int × Int × Int × Bool × (List Int) × Int × Int × Int) (r : Int × Int × Bool × (List Int) × (List S36) × Int) => ∀ (W0 w0 : World) (S : Own), Std W0 w0 S 0 → H Tryd.prog w0 S 102 (cR (cR (cR (cR (cR (cB Tryd.f45)))))) (mkS [(0, ls 5 false enc65 x.1), (1, .int .i64 x.2.1), (2, .int .i64 x.2.2.1), (6, .pointer (some ⟨0, 0, none⟩)), (8, .pointer (some ⟨1, 0, none⟩)), (9, .pointer (some ⟨2, 0, none⟩))] [(0, .cells [.int .u8 0, .int .u32 0, .bool false, .slice none 0 0, .slice none 0 0] 36 5), (1, .cells [.int .u8 x.2.2.2.1, .int .u32 x.2.2.2.2.1, .bool x.2.2.2.2.2.1, ls 1 false (encI .u8) x.2.2.2.2.2.2.1, .int .u8 x.2.2.2.2.2.2.2.1] 65 5), (2, .cells [.int .u8 x.2.2.2.2.2.2.2.2.1, .int .u32 x.2.2.2.2.2.2.2.2.2, .bool x.2.2.2.2.2.1, .slice none 0 0, .slice none 0 0] 36 5)] 3 []) (KEnd Tryd.prog Tryd.f45 (PEnd w0 S (.returned (.tuple #[.agg #[.int .u8 r.1, .int .u32 r.2.1, .bool r.2.2.1, ls 1 false (encI .u8) r.2.2.2.1, ls 5 false enc36 r.2.2.2.2.1], .int .i64 r.2.2.2.2.2]))))) ?_ ?_ ?_ ?_ ?_ ?_
  · intro g_grown_L5 g_grown ih_grown_L5 ih_grown x r h
    intro W0 w0 S hS
    haveI := hS.noEx Tryd.prog
    refine H.cS' (x.2.2.2.2.1) (fun hb => ?_) (fun hb => ?_)
    rotate_left
    · rw [if_neg (ne_true hb)] at h
      refine H.ext' 0 ?_
      refine Kseq_exit ?_
      refine Kloop_exit ?_
      refine Kblock_hit ?_
      refine Kseq_norm ?_
      refine H.sr' 4 ?_
      refine H.ret' ?_
      obtain rfl := Option.some.inj h
      exact KEnd.retW (v := .tuple #[.agg #[.int .u8 x.2.2.2.2.2.2.2.2.2.2.1, .int .u32 x.2.2.2.2.2.2.2.2.2.2.2.1, .bool x.2.2.2.2.2.2.2.1, .slice none 0 0, tl 5 3 enc36 x.2.2.2.2.2.2.2.2.2.2.2.2], .int .i64 x.2.2.1]) (.tuple [.agg [.keep, .keep, .keep, .list 1 false, .list 5 false], .keep]) (by kernel_rfl) (by kernel_rfl) (by kernel_rfl) (by kernel_rfl)
    rw [if_pos hb] at h
    refine H.skp' ?_
    refine Kseq_norm ?_
    refine H.seq' ?_
    refine H.blk' 1 ?_
    refine H.sr' 1 ?_
    refine H.sg' ?_
    refine HO.go' 4 ?_
    obtain ⟨y4, hy, h⟩ := bindS h
    refine HO.callW hS [.list 5 false, .keep, .keep] (ih_grown (x.1, x.2.2.1, (IntKind.i64.wrap (x.2.1 + 1))) y4 hy W0) (by kernel_rfl) (by kernel_rfl) ?_
    refine HO.fin' 5 ?_
    refine H.reg' ?_
    refine HO.go' 4 ?_
    obtain ⟨y5, hy, h⟩ := bindS h
    refine HO.effA (app1_aop (enc := enc36) (k := 5) true 1 [.int .u8 y4.1, .int .u32 y4.2.1, .bool y4.2.2.1, ls 1 false (encI .u8) y4.2.2.2.1, ls 5 false enc36 y4.2.2.2.2.1] [] hy (by kernel_rfl) (by kernel_rfl) (by simp only [List.map_cons, List.map_nil, enc36_eq]; kernel_rfl)) ?_
    refine HO.go' 2 ?_
    refine HO.end' ?_
    refine Kblock_norm ?_
    refine Kseq_norm ?_
    refine H.reg' ?_
    refine HO.go' 3 ?_
    refine HO.end' ?_
    refine Kloop_norm ?_
    exact HL.ren' hS [0, 1, 2, 6] (ih_grown_L5 (x.1, x.2.1, y4.2.2.2.2.2, (IntKind.i64.wrap (x.2.2.2.1 + 1)), x.2.2.2.2.2.1, x.2.2.2.2.2.2.1, x.2.2.2.2.2.2.2.1, x.2.2.2.2.2.2.2.2.1, x.2.2.2.2.2.2.2.2.2.1, x.2.2.2.2.2.2.2.2.2.2.1, x.2.2.2.2.2.2.2.2.2.2.2.1, y5) r h W0 w0 S hS)
  · intro g_grown_L6 ih_grown_L6 x r h
    intro W0 w0 S hS
    haveI := hS.noEx Tryd.prog
    refine HL.round ?_
    refine H.seq' ?_
    refine H.sg' ?_
    refine HO.go' 6 ?_
    refine HO.bo' (decide (x.2.2.2.1 < (IntKind.i64.wrap (remI .u8 x.2.2.2.2.2.2.2.2.1 4)))) (fun hb => ?_) (fun hb => ?_)
    rotate_left
    · rw [if_neg (of_decide_eq_false hb)] at h
      refine HO.fin' 13 ?_
      exact H.ren' hS [0, 1, 2, 3] (ih_grown_L6 (x.1, x.2.1, x.2.2.1, x.2.2.2.1, false, x.2.2.2.2.1, x.2.2.2.2.2.1, x.2.2.2.2.2.2.1, x.2.2.2.2.2.2.2.1, x.2.2.2.2.2.2.2.2.1, x.2.2.2.2.2.2.2.2.2.1, x.2.2.2.2.2.2.2.2.2.2.1, x.2.2.2.2.2.2.2.2.2.2.2) r h W0 w0 S hS)
    rw [if_pos (of_decide_eq_true hb)] at h
    refine HO.go' 3 ?_
    refine HO.bo' (decide (x.2.1 < 10)) (fun hb => ?_) (fun hb => ?_)
    rotate_left
    · rw [if_neg (of_decide_eq_false hb)] at h
      refine HO.fin' 9 ?_
      exact H.ren' hS [0, 1, 2, 3] (ih_grown_L6 (x.1, x.2.1, x.2.2.1, x.2.2.2.1, false, x.2.2.2.2.1, x.2.2.2.2.2.1, x.2.2.2.2.2.2.1, x.2.2.2.2.2.2.2.1, x.2.2.2.2.2.2.2.2.1, x.2.2.2.2.2.2.2.2.2.1, x.2.2.2.2.2.2.2.2.2.2.1, x.2.2.2.2.2.2.2.2.2.2.2) r h W0 w0 S hS)
    rw [if_pos (of_decide_eq_true hb)] at h
    refine HO.go' 2 ?_
    refine HO.len (by kernel_rfl) (by kernel_rfl) (ls_size enc65 x.1) ?_
    refine HO.go' 2 ?_
    refine HO.bo' (decide (x.2.2.1 < (x.1.length : Int))) (fun hb => ?_) (fun hb => ?_)
    · rw [if_pos (of_decide_eq_true hb)] at h
      refine HO.fin' 3 ?_
      exact H.ren' hS [0, 1, 2, 3] (ih_grown_L6 (x.1, x.2.1, x.2.2.1, x.2.2.2.1, (decide (x.2.2.1 < 40)), x.2.2.2.2.1, x.2.2.2.2.2.1, x.2.2.2.2.2.2.1, x.2.2.2.2.2.2.2.1, x.2.2.2.2.2.2.2.2.1, x.2.2.2.2.2.2.2.2.2.1, x.2.2.2.2.2.2.2.2.2.2.1, x.2.2.2.2.2.2.2.2.2.2.2) r h W0 w0 S hS)
    rw [if_neg (of_decide_eq_false hb)] at h
    refine HO.fin' 3 ?_
    exact H.ren' hS [0, 1, 2, 3] (ih_grown_L6 (x.1, x.2.1, x.2.2.1, x.2.2.2.1, false, x.2.2.2.2.1, x.2.2.2.2.2.1, x.2.2.2.2.2.2.1, x.2.2.2.2.2.2.2.1, x.2.2.2.2.2.2.2.2.1, x.2.2.2.2.2.2.2.2.2.1, x.2.2.2.2.2.2.2.2.2.2.1, x.2.2.2.2.2.2.2.2.2.2.2) r h W0 w0 S hS)
  · intro g_grown_L1 ih_grown_L1 x r h
    intro W0
    refine PTo.of_body (fn := Tryd.f45) (code := cB Tryd.f45) Tryd.func45 rfl rfl ?_
    intro w0 S hS
    haveI := hS.noEx Tryd.prog
    refine H.sr' 2 ?_
    refine H.seq' ?_
    refine H.sg' ?_
    refine HO.go' 2 ?_
    refine HO.len (by kernel_rfl) (by kernel_rfl) (ls_size enc65 x.1) ?_
    refine HO.go' 1 ?_
    refine HO.bo' (decide ((x.1.length : Int) ≤ x.2.1)) (fun hb => ?_) (fun hb => ?_)
    · rw [if_pos (of_decide_eq_true hb)] at h
      refine HO.fin' 3 ?_
      exact H.ren' hS [0] (ih_grown_L1 (x.1, x.2.1, x.2.2, true) r h W0 w0 S hS)
    rw [if_neg (of_decide_eq_false hb)] at h
    refine HO.fin' 3 ?_
    exact H.ren' hS [0] (ih_grown_L1 (x.1, x.2.1, x.2.2, (decide (40 ≤ x.2.1))) r h W0 w0 S hS)
  · intro g_grown_L2 ih_grown_L2 x r h
    intro W0 w0 S hS
    haveI := hS.noEx Tryd.prog
    refine H.cS' (x.2.2.2) (fun hb => ?_) (fun hb => ?_)
    · rw [if_pos hb] at h
      refine H.sr' 6 ?_
      refine H.ret' ?_
      refine Kseq_ret ?_
      obtain rfl := Option.some.inj h
      exact KEnd.of (v := .tuple #[.agg #[.int .u8 3, .int .u32 1, .bool false, .slice (some ⟨1, 0, none⟩) 0 0, .slice none 0 0], .int .i64 (IntKind.i64.wrap (x.2.1 + 1))]) (by kernel_rfl) (by kernel_rfl) (PEnd.frz 1 0 0 1 5 true ([].map (encI .u8)).toArray [] (by kernel_rfl) (PEnd.wk (v1 := .tuple #[.agg #[.int .u8 3, .int .u32 1, .bool false, ls 1 false (encI .u8) [], ls 5 false enc36 []], .int .i64 (IntKind.i64.wrap (x.2.1 + 1))]) (.tuple [.agg [.keep, .keep, .keep, .list 1 false, .list 5 false], .keep]) (by kernel_rfl) (PEnd.fin (by kernel_rfl))))
    rw [if_neg (ne_true hb)] at h
    refine H.skp' ?_
    refine Kseq_norm ?_
    refine H.sg' ?_
    refine HO.go' 2 ?_
    obtain ⟨y1, hy, h⟩ := bindS h
    refine HO.idx (.agg #[.int .u8 y1.c0, .int .u32 y1.c1, .bool y1.c2, ls 1 false (encI .u8) y1.c3, .int .u8 y1.c4]) hy (enc65_eq y1) (by kernel_rfl) ?_
    refine HO.fin' 3 ?_
    refine H.sr' 11 ?_
    refine H.seq' ?_
    refine H.sg' ?_
    refine HO.go' 3 ?_
    refine HO.bo' (decide ((remI .u8 y1.c0 4) = 0)) (fun hb => ?_) (fun hb => ?_)
    · rw [if_pos (of_decide_eq_true hb)] at h
      refine HO.fin' 4 ?_
      exact H.ren' hS [0, 1, 2] (ih_grown_L2 (x.1, x.2.1, x.2.2.1, (decide ((remI .u32 y1.c1 2097152) = 0)), y1.c0, y1.c1, y1.c2, y1.c3, y1.c4, (remI .u8 y1.c0 4), (remI .u32 y1.c1 2097152)) r h W0 w0 S hS)
    rw [if_neg (of_decide_eq_false hb)] at h
    refine HO.fin' 4 ?_
    exact H.ren' hS [0, 1, 2] (ih_grown_L2 (x.1, x.2.1, x.2.2.1, false, y1.c0, y1.c1, y1.c2, y1.c3, y1.c4, (remI .u8 y1.c0 4), (remI .u32 y1.c1 2097152)) r h W0 w0 S hS)
  · intro g_grown_L3 ih_grown_L3 x r h
    intro W0 w0 S hS
    haveI := hS.noEx Tryd.prog
    refine H.cS' (x.2.2.2.1) (fun hb => ?_) (fun hb => ?_)
    rotate_left
    · rw [if_neg (ne_true hb)] at h
      refine H.skp' ?_
      refine Kseq_norm ?_
      exact H.ren' hS [0, 1, 2] (ih_grown_L3 (x.1, x.2.1, x.2.2.1, x.2.2.2.2.1, x.2.2.2.2.2.1, x.2.2.2.2.2.2.1, x.2.2.2.2.2.2.2.1, x.2.2.2.2.2.2.2.2.1, x.2.2.2.2.2.2.2.2.2.1, x.2.2.2.2.2.2.2.2.2.2) r h W0 w0 S hS)
    rw [if_pos hb] at h
    refine H.reg' ?_
    refine HO.fin' 2 ?_
    exact H.ren' hS [0, 1, 2] (ih_grown_L3 (x.1, x.2.1, x.2.2.1, x.2.2.2.2.1, x.2.2.2.2.2.1, x.2.2.2.2.2.2.1, x.2.2.2.2.2.2.2.1, x.2.2.2.2.2.2.2.2.1, x.2.2.2.2.2.2.2.2.2.1, 2) r h W0 w0 S hS)
  · intro g_grown_L5 ih_grown_L5 x r h
    intro W0 w0 S hS
    haveI := hS.noEx Tryd.prog
    refine H.sr' 3 ?_
    refine H.seq' ?_
    refine H.sr' 3 ?_
    refine H.cS' (!x.2.2.2.2.2.1) (fun hb => ?_) (fun hb => ?_)
    rotate_left
    · rw [if_neg (ne_true hb)] at h
      refine H.skp' ?_
      refine Kseq_norm ?_
      refine H.seq' ?_
      refine H.sr' 1 ?_
      refine H.blk' 0 ?_
      refine H.lop' ?_
      refine HL.tkc 2 36 5 4 5 [.int .u8 x.2.2.2.2.2.2.2.2.1, .int .u32 x.2.2.2.2.2.2.2.2.2, .bool x.2.2.2.2.2.1, .slice none 0 0, .slice none 0 0] (.slice none 0 0) #[] (by kernel_rfl) ?_
      exact HL.ren' hS [0, 1, 2, 3] (ih_grown_L5 (x.1, x.2.2.1, (IntKind.i64.wrap (x.2.1 + 1)), 0, x.2.2.2.1, x.2.2.2.2.1, x.2.2.2.2.2.1, x.2.2.2.2.2.2.1, x.2.2.2.2.2.2.2.1, x.2.2.2.2.2.2.2.2.1, x.2.2.2.2.2.2.2.2.2, []) r h W0 w0 S hS)
    rw [if_pos hb] at h
    refine H.sg' ?_
    refine HO.go' 5 ?_
    refine HO.len (by kernel_rfl) (by kernel_rfl) (ls_size (encI .u8) x.2.2.2.2.2.2.1) ?_
    refine HO.go' 1 ?_
    obtain ⟨y2, hy, h⟩ := bindS h
    refine HO.valA (sl2_aop (enc := (encI .u8)) (k := 1) (j := .i64) hy (by kernel_rfl)) ?_
    refine HO.tkz [52] 3 0 0 1 5 ([].map (encI .u8)).toArray [] (by kernel_rfl) ?_
    obtain ⟨y3, hy, h⟩ := bindS h
    by_cases hb : y2.length = 0
    · rw [if_pos hb] at h
      refine HO.valA (appN_aop (ag := false) [] (encI_ok .u8) hy hb (by kernel_rfl)) ?_
      refine HO.fin' 2 ?_
      exact H.ren' hS [0, 2, 4] (grown_L4_ok ((IntKind.i64.wrap (x.2.1 + 1)), x.2.2.2.2.2.2.2.2.1, x.2.2.2.2.2.2.2.2.2, x.2.2.2.2.2.1, []) r h W0 w0 S hS)
    rw [if_neg hb] at h
    refine HO.effA (appL_aop (ag := false) [] (encI_ok .u8) hy hb (by kernel_rfl)) ?_
    refine HO.fin' 2 ?_
    exact H.ren' hS [0, 2, 5] (grown_L4_ok ((IntKind.i64.wrap (x.2.1 + 1)), x.2.2.2.2.2.2.2.2.1, x.2.2.2.2.2.2.2.2.2, x.2.2.2.2.2.1, y3) r h W0 w0 S hS)
theorem grown_L6_ok : ∀ (x : (List S65) × Int × Int × Int × Bool × Int × Int × Bool × (List Int) × Int × Int × Int × (List S36)) (r : Int × Int × Bool × (List Int) × (List S36) × Int), grown_L6 x = some r → ∀ (W0 w0 : World) (S : Own), Std W0 w0 S 0 → H Tryd.prog w0 S 102 (cR (cL (cL (cL (cR (cL (cR (cR (cR (cR (cR (cR (cR (cB Tryd.f45)))))))))))))) (mkS [(0, ls 5 false enc65 x.1), (2, .int .i64 x.2.1), (6, .pointer (some ⟨0, 0, none⟩)), (8, .pointer (some ⟨1, 0, none⟩)), (9, .pointer (some ⟨2, 0, none⟩)), (10, .int .i64 x.2.2.1), (11, .int .i64 x.2.2.2.1), (83, .bool x.2.2.2.2.1)] [(0, .cells [.int .u8 0, .int .u32 0, .bool false, .slice none 0 0, .slice none 0 0] 36 5), (1, .cells [.int .u8 x.2.2.2.2.2.1, .int .u32 x.2.2.2.2.2.2.1, .bool x.2.2.2.2.2.2.2.1, ls 1 false (encI .u8) x.2.2.2.2.2.2.2.2.1, .int .u8 x.2.2.2.2.2.2.2.2.2.1] 65 5), (2, .cells [.int .u8 x.2.2.2.2.2.2.2.2.2.2.1, .int .u32 x.2.2.2.2.2.2.2.2.2.2.2.1, .bool x.2.2.2.2.2.2.2.1, .slice none 0 0, tl 5 3 enc36 x.2.2.2.2.2.2.2.2.2.2.2.2] 36 5)] 4 [3]) (Kseq Tryd.prog w0 S 102 (cR (cL (cL (cR (cL (cR (cR (cR (cR (cR (cR (cR (cB Tryd.f45))))))))))))) (Kloop Tryd.prog w0 S 102 (cL (cL (cR (cL (cR (cR (cR (cR (cR (cR (cR (cB Tryd.f45)))))))))))) (Kblock 0 (Kseq Tryd.prog w0 S 102 (cR (cR (cR (cR (cR (cR (cR (cR (cB Tryd.f45))))))))) (KEnd Tryd.prog Tryd.f45 (PEnd w0 S (.returned (.tuple #[.agg #[.int .u8 r.1, .int .u32 r.2.1, .bool r.2.2.1, ls 1 false (encI .u8) r.2.2.2.1, ls 5 false enc36 r.2.2.2.2.1], .int .i64 r.2.2.2.2.2])))))))) := grown_L6_grp.1
theorem grown_L5_ok : ∀ (x : (List S65) × Int × Int × Int × Int × Int × Bool × (List Int) × Int × Int × Int × (List S36)) (r : Int × Int × Bool × (List Int) × (List S36) × Int), grown_L5 x = some r → ∀ (W0 w0 : World) (S : Own), Std W0 w0 S 0 → HL Tryd.prog w0 S 102 (cL (cL (cR (cL (cR (cR (cR (cR (cR (cR (cR (cB Tryd.f45)))))))))))) (mkS [(0, ls 5 false enc65 x.1), (2, .int .i64 x.2.1), (6, .pointer (some ⟨0, 0, none⟩)), (8, .pointer (some ⟨1, 0, none⟩)), (9, .pointer (some ⟨2, 0, none⟩)), (10, .int .i64 x.2.2.1), (11, .int .i64 x.2.2.2.1)] [(0, .cells [.int .u8 0, .int .u32 0, .bool false, .slice none 0 0, .slice none 0 0] 36 5), (1, .cells [.int .u8 x.2.2.2.2.1, .int .u32 x.2.2.2.2.2.1, .bool x.2.2.2.2.2.2.1, ls 1 false (encI .u8) x.2.2.2.2.2.2.2.1, .int .u8 x.2.2.2.2.2.2.2.2.1] 65 5), (2, .cells [.int .u8 x.2.2.2.2.2.2.2.2.2.1, .int .u32 x.2.2.2.2.2.2.2.2.2.2.1, .bool x.2.2.2.2.2.2.1, .slice none 0 0, tl 5 3 enc36 x.2.2.2.2.2.2.2.2.2.2.2] 36 5)] 4 [3]) (Kblock 0 (Kseq Tryd.prog w0 S 102 (cR (cR (cR (cR (cR (cR (cR (cR (cB Tryd.f45))))))))) (KEnd Tryd.prog Tryd.f45 (PEnd w0 S (.returned (.tuple #[.agg #[.int .u8 r.1, .int .u32 r.2.1, .bool r.2.2.1, ls 1 false (encI .u8) r.2.2.2.1, ls 5 false enc36 r.2.2.2.2.1], .int .i64 r.2.2.2.2.2])))))) := grown_L6_grp.2.1
theorem grown_ok : ∀ (x : (List S65) × Int × Int) (r : Int × Int × Bool × (List Int) × (List S36) × Int), grown x = some r → ∀ W0 : World, PTo Tryd.prog W0 45 #[ls 5 false enc65 x.1, .int .i64 x.2.1, .int .i64 x.2.2] (.returned (.tuple #[.agg #[.int .u8 r.1, .int .u32 r.2.1, .bool r.2.2.1, ls 1 false (encI .u8) r.2.2.2.1, ls 5 false enc36 r.2.2.2.2.1], .int .i64 r.2.2.2.2.2])) := grown_L6_grp.2.2.1
theorem grown_L1_ok : ∀ (x : (List S65) × Int × Int × Bool) (r : Int × Int × Bool × (List Int) × (List S36) × Int), grown_L1 x = some r → ∀ (W0 w0 : World) (S : Own), Std W0 w0 S 0 → H Tryd.prog w0 S 102 (cR (cL (cR (cB Tryd.f45)))) (mkS [(0, ls 5 false enc65 x.1), (1, .int .i64 x.2.1), (2, .int .i64 x.2.2.1), (6, .pointer (some ⟨0, 0, none⟩)), (20, .bool x.2.2.2)] [(0, .cells [.int .u8 0, .int .u32 0, .bool false, .slice none 0 0, .slice none 0 0] 36 5)] 1 []) (Kseq Tryd.prog w0 S 102 (cR (cR (cB Tryd.f45))) (KEnd Tryd.prog Tryd.f45 (PEnd w0 S (.returned (.tuple #[.agg #[.int .u8 r.1, .int .u32 r.2.1, .bool r.2.2.1, ls 1 false (encI .u8) r.2.2.2.1, ls 5 false enc36 r.2.2.2.2.1], .int .i64 r.2.2.2.2.2]))))) := grown_L6_grp.2.2.2.1
theorem grown_L2_ok : ∀ (x : (List S65) × Int × Int × Bool × Int × Int × Bool × (List Int) × Int × Int × Int) (r : Int × Int × Bool × (List Int) × (List S36) × Int), grown_L2 x = some r → ∀ (W0 w0 : World) (S : Own), Std W0 w0 S 0 → H Tryd.prog w0 S 102 (cR (cL (cR (cR (cR (cR (cB Tryd.f45))))))) (mkS [(0, ls 5 false enc65 x.1), (1, .int .i64 x.2.1), (2, .int .i64 x.2.2.1), (6, .pointer (some ⟨0, 0, none⟩)), (8, .pointer (some ⟨1, 0, none⟩)), (9, .pointer (some ⟨2, 0, none⟩)), (45, .bool x.2.2.2.1)] [(0, .cells [.int .u8 0, .int .u32 0, .bool false, .slice none 0 0, .slice none 0 0] 36 5), (1, .cells [.int .u8 x.2.2.2.2.1, .int .u32 x.2.2.2.2.2.1, .bool x.2.2.2.2.2.2.1, ls 1 false (encI .u8) x.2.2.2.2.2.2.2.1, .int .u8 x.2.2.2.2.2.2.2.2.1] 65 5), (2, .cells [.int .u8 x.2.2.2.2.2.2.2.2.2.1, .int .u32 x.2.2.2.2.2.2.2.2.2.2, .bool x.2.2.2.2.2.2.1, .slice none 0 0, .slice none 0 0] 36 5)] 3 []) (Kseq Tryd.prog w0 S 102 (cR (cR (cR (cR (cR (cB Tryd.f45)))))) (KEnd Tryd.prog Tryd.f45 (PEnd w0 S (.returned (.tuple #[.agg #[.int .u8 r.1, .int .u32 r.2.1, .bool r.2.2.1, ls 1 false (encI .u8) r.2.2.2.1, ls 5 false enc36 r.2.2.2.2.1], .int .i64 r.2.2.2.2.2]))))) := grown_L6_grp.2.2.2.2.1
theorem grown_L3_ok : ∀ (x : (List S65) × Int × Int × Int × Int × Bool × (List Int) × Int × Int × Int) (r : Int × Int × Bool × (List Int) × (List S36) × Int), grown_L3 x = some r → ∀ (W0 w0 : World) (S : Own), Std W0 w0 S 0 → H Tryd.prog w0 S 102 (cR (cR (cR (cR (cR (cB Tryd.f45)))))) (mkS [(0, ls 5 false enc65 x.1), (1, .int .i64 x.2.1), (2, .int .i64 x.2.2.1), (6, .pointer (some ⟨0, 0, none⟩)), (8, .pointer (some ⟨1, 0, none⟩)), (9, .pointer (some ⟨2, 0, none⟩))] [(0, .cells [.int .u8 0, .int .u32 0, .bool false, .slice none 0 0, .slice none 0 0] 36 5), (1, .cells [.int .u8 x.2.2.2.1, .int .u32 x.2.2.2.2.1, .bool x.2.2.2.2.2.1, ls 1 false (encI .u8) x.2.2.2.2.2.2.1, .int .u8 x.2.2.2.2.2.2.2.1] 65 5), (2, .cells [.int .u8 x.2.2.2.2.2.2.2.2.1, .int .u32 x.2.2.2.2.2.2.2.2.2, .bool x.2.2.2.2.2.1, .slice none 0 0, .slice none 0 0] 36 5)] 3 []) (KEnd Tryd.prog Tryd.f45 (PEnd w0 S (.returned (.tuple #[.agg #[.int .u8 r.1, .int .u32 r.2.1, .bool r.2.2.1, ls 1 false (encI .u8) r.2.2.2.1, ls 5 false enc36 r.2.2.2.2.1], .int .i64 r.2.2.2.2.2])))) := grown_L6_grp.2.2.2.2.2
def tOf (x : (List S65)) : Option (Int × Int × Bool × (List Int) × (List S36)) :=
  (grown (x, 0, 1)) >>= fun y1 =>
  some (y1.1, y1.2.1, y1.2.2.1, y1.2.2.2.1, y1.2.2.2.2.1)
theorem tOf_ok : ∀ (x : (List S65)) (r : Int × Int × Bool × (List Int) × (List S36)), tOf x = some r → ∀ W0 : World, PTo Tryd.prog W0 15 #[ls 5 false enc65 x] (.returned (.agg #[.int .u8 r.1, .int .u32 r.2.1, .bool r.2.2.1, ls 1 false (encI .u8) r.2.2.2.1, ls 5 false enc36 r.2.2.2.2])) := by
  intro x r h
  unfold tOf at h
  intro W0
  refine PTo.of_body (fn := Tryd.f15) (code := cB Tryd.f15) Tryd.func15 rfl rfl ?_
  intro w0 S hS
  haveI := hS.noEx Tryd.prog
  refine H.sr' 1 ?_
  refine H.sg' ?_
  refine HO.go' 1 ?_
  obtain ⟨y1, hy, h⟩ := bindS h
  refine HO.callW hS [.list 5 false, .keep, .keep] (grown_ok (x, 0, 1) y1 hy W0) (by kernel_rfl) (by kernel_rfl) ?_
  refine HO.fin' 6 ?_
  refine H.sr' 2 ?_
  refine H.ret' ?_
  obtain rfl := Option.some.inj h
  exact KEnd.retW (v := .agg #[.int .u8 y1.1, .int .u32 y1.2.1, .bool y1.2.2.1, ls 1 false (encI .u8) y1.2.2.2.1, ls 5 false enc36 y1.2.2.2.2.1]) (.agg [.keep, .keep, .keep, .list 1 false, .list 5 false]) (by kernel_rfl) (by kernel_rfl) (by kernel_rfl) (by kernel_rfl)
def kOf_L2 (x : Int × Int × Int × Int × (List Int)) : Option (Int × Int × Int × Int × Int × (List Int)) :=
  some (x.1, x.2.1, x.2.2.1, x.2.2.2.1, 0, x.2.2.2.2)
theorem kOf_L2_ok : ∀ (x : Int × Int × Int × Int × (List Int)) (r : Int × Int × Int × Int × Int × (List Int)), kOf_L2 x = some r → ∀ (W0 w0 : World) (S : Own), Std W0 w0 S 0 → H Tryd.prog w0 S 50 (cR (cR (cR (cR (cR (cR (cB Tryd.f31))))))) (mkS [(2, .pointer (some ⟨0, 0, none⟩)), (3, .pointer (some ⟨1, 0, none⟩))] [(0, .cells [.int .u8 0, .int .i64 0, .int .i64 0, .int .i64 0, .int .u8 0, .slice none 0 0] 70 6), (1, .cells [.int .u8 x.1, .int .i64 x.2.1, .int .i64 x.2.2.1, .int .i64 x.2.2.2.1, .int .u8 0, tl 1 2 (encI .u8) x.2.2.2.2] 70 6)] 3 [2]) (KEnd Tryd.prog Tryd.f31 (PEnd w0 S (.returned (.agg #[.int .u8 r.1, .int .i64 r.2.1, .int .i64 r.2.2.1, .int .i64 r.2.2.2.1, .int .u8 r.2.2.2.2.1, ls 1 false (encI .u8) r.2.2.2.2.2])))) := by
  intro x r h
  unfold kOf_L2 at h
  intro W0 w0 S hS
  haveI := hS.noEx Tryd.prog
  refine H.sr' 2 ?_
  refine H.ret' ?_
  obtain rfl := Option.some.inj h
  exact KEnd.retW (v := .agg #[.int .u8 x.1, .int .i64 x.2.1, .int .i64 x.2.2.1, .int .i64 x.2.2.2.1, .int .u8 0, tl 1 2 (encI .u8) x.2.2.2.2]) (.agg [.keep, .keep, .keep, .keep, .keep, .list 1 false]) (by kernel_rfl) (by kernel_rfl) (by kernel_rfl) (by kernel_rfl)
def kOf_L1 (x : Int × Int × Int × Int × Int × (List Int) × Int × Int × Int) : Option (Int × Int × Int × Int × Int × (List Int)) :=
  (sub' x.2.2.2.2.2.1 0 (minI (x.2.2.2.2.2.1.length : Int) 2000)) >>= fun y1 =>
  (app' 1 [] y1) >>= fun y2 =>
  if y1.length = 0 then
    kOf_L2 (x.2.2.2.2.2.2.1, x.2.2.2.2.2.2.2.1, x.2.2.2.2.2.2.2.2, (IntKind.i64.wrap x.2.2.2.1), [])
  else
    kOf_L2 (x.2.2.2.2.2.2.1, x.2.2.2.2.2.2.2.1, x.2.2.2.2.2.2.2.2, (IntKind.i64.wrap x.2.2.2.1), y2)
theorem kOf_L1_ok : ∀ (x : Int × Int × Int × Int × Int × (List Int) × Int × Int × Int) (r : Int × Int × Int × Int × Int × (List Int)), kOf_L1 x = some r → ∀ (W0 w0 : World) (S : Own), Std W0 w0 S 0 → H Tryd.prog w0 S 50 (cR (cR (cR (cR (cB Tryd.f31))))) (mkS [(1, .pointer (some ⟨0, 0, none⟩)), (2, .pointer (some ⟨1, 0, none⟩)), (3, .pointer (some ⟨2, 0, none⟩))] [(0, .cells [.int .u8 x.1, .int .u8 x.2.1, .int .u8 x.2.2.1, .int .u8 x.2.2.2.1, .int .u8 x.2.2.2.2.1, ls 1 false (encI .u8) x.2.2.2.2.2.1] 63 6), (1, .cells [.int .u8 0, .int .i64 0, .int .i64 0, .int .i64 0, .int .u8 0, .slice none 0 0] 70 6), (2, .cells [.int .u8 x.2.2.2.2.2.2.1, .int .i64 x.2.2.2.2.2.2.2.1, .int .i64 x.2.2.2.2.2.2.2.2, .int .i64 0, .int .u8 0, .slice none 0 0] 70 6)] 3 []) (KEnd Tryd.prog Tryd.f31 (PEnd w0 S (.returned (.agg #[.int .u8 r.1, .int .i64 r.2.1, .int .i64 r.2.2.1, .int .i64 r.2.2.2.1, .int .u8 r.2.2.2.2.1, ls 1 false (encI .u8) r.2.2.2.2.2])))) := by
  intro x r h
  unfold kOf_L1 at h
  intro W0 w0 S hS
  haveI := hS.noEx Tryd.prog
  refine H.sr' 5 ?_
  refine H.sg' ?_
  refine HO.go' 5 ?_
  refine HO.len (by kernel_rfl) (by kernel_rfl) (ls_size (encI .u8) x.2.2.2.2.2.1) ?_
  refine HO.go' 1 ?_
  obtain ⟨y1, hy, h⟩ := bindS h
  refine HO.valA (sl2_aop (enc := (encI .u8)) (k := 1) (j := .i64) hy (by kernel_rfl)) ?_
  refine HO.tkz [39] 3 0 0 1 5 ([].map (encI .u8)).toArray [] (by kernel_rfl) ?_
  obtain ⟨y2, hy, h⟩ := bindS h
  by_cases hb : y1.length = 0
  · rw [if_pos hb] at h
    refine HO.valA (appN_aop (ag := false) [] (encI_ok .u8) hy hb (by kernel_rfl)) ?_
    refine HO.fin' 2 ?_
    exact H.ren' hS [1, 2, 4] (kOf_L2_ok (x.2.2.2.2.2.2.1, x.2.2.2.2.2.2.2.1, x.2.2.2.2.2.2.2.2, (IntKind.i64.wrap x.2.2.2.1), []) r h W0 w0 S hS)
  rw [if_neg hb] at h
  refine HO.effA (appL_aop (ag := false) [] (encI_ok .u8) hy hb (by kernel_rfl)) ?_
  refine HO.fin' 2 ?_
  exact H.ren' hS [1, 2, 5] (kOf_L2_ok (x.2.2.2.2.2.2.1, x.2.2.2.2.2.2.2.1, x.2.2.2.2.2.2.2.2, (IntKind.i64.wrap x.2.2.2.1), y2) r h W0 w0 S hS)
def kOf (x : Int × Int × Int × Int × Int × (List Int)) : Option (Int × Int × Int × Int × Int × (List Int)) :=
  if (IntKind.u8.wrap (1 + (remI .u8 x.1 5))) = 5 then
    some ((IntKind.u8.wrap (1 + (remI .u8 x.1 5))), (IntKind.i64.wrap ((IntKind.i64.wrap (remI .u8 x.2.1 128)) - 1)), 0, 0, (IntKind.u8.wrap (1 + (remI .u8 x.2.2.2.2.1 7))), [])
  else
    if (IntKind.u8.wrap (1 + (remI .u8 x.1 5))) = 1 then
      kOf_L1 (x.1, x.2.1, x.2.2.1, x.2.2.2.1, x.2.2.2.2.1, x.2.2.2.2.2, (IntKind.u8.wrap (1 + (remI .u8 x.1 5))), (IntKind.i64.wrap (remI .u8 x.2.1 128)), (IntKind.i64.wrap ((IntKind.i64.wrap (remI .u8 x.2.2.1 129)) - 1)))
    else
      kOf_L1 (x.1, x.2.1, x.2.2.1, x.2.2.2.1, x.2.2.2.2.1, x.2.2.2.2.2, (IntKind.u8.wrap (1 + (remI .u8 x.1 5))), (IntKind.i64.wrap (remI .u8 x.2.1 128)), 0)
theorem kOf_ok : ∀ (x : Int × Int × Int × Int × Int × (List Int)) (r : Int × Int × Int × Int × Int × (List Int)), kOf x = some r → ∀ W0 : World, PTo Tryd.prog W0 31 #[.agg #[.int .u8 x.1, .int .u8 x.2.1, .int .u8 x.2.2.1, .int .u8 x.2.2.2.1, .int .u8 x.2.2.2.2.1, ls 1 false (encI .u8) x.2.2.2.2.2]] (.returned (.agg #[.int .u8 r.1, .int .i64 r.2.1, .int .i64 r.2.2.1, .int .i64 r.2.2.2.1, .int .u8 r.2.2.2.2.1, ls 1 false (encI .u8) r.2.2.2.2.2])) := by
  intro x r h
  unfold kOf at h
  intro W0
  refine PTo.of_body (fn := Tryd.f31) (code := cB Tryd.f31) Tryd.func31 rfl rfl ?_
  intro w0 S hS
  haveI := hS.noEx Tryd.prog
  refine H.sr' 2 ?_
  refine H.sr' 11 ?_
  refine H.seq' ?_
  refine H.sr' 3 ?_
  refine H.cS' (decide ((IntKind.u8.wrap (1 + (remI .u8 x.1 5))) = 5)) (fun hb => ?_) (fun hb => ?_)
  · rw [if_pos (of_decide_eq_true hb)] at h
    refine H.sr' 5 ?_
    refine H.sr' 6 ?_
    refine H.sr' 2 ?_
    refine H.ret' ?_
    refine Kseq_ret ?_
    obtain rfl := Option.some.inj h
    exact KEnd.retW (v := .agg #[.int .u8 (IntKind.u8.wrap (1 + (remI .u8 x.1 5))), .int .i64 (IntKind.i64.wrap ((IntKind.i64.wrap (remI .u8 x.2.1 128)) - 1)), .int .i64 0, .int .i64 0, .int .u8 (IntKind.u8.wrap (1 + (remI .u8 x.2.2.2.2.1 7))), .slice none 0 0]) (.agg [.keep, .keep, .keep, .keep, .keep, .list 1 false]) (by kernel_rfl) (by kernel_rfl) (by kernel_rfl) (by kernel_rfl)
  rw [if_neg (of_decide_eq_false hb)] at h
  refine H.skp' ?_
  refine Kseq_norm ?_
  refine H.seq' ?_
  refine H.sr' 3 ?_
  refine H.cS' (decide ((IntKind.u8.wrap (1 + (remI .u8 x.1 5))) = 1)) (fun hb => ?_) (fun hb => ?_)
  rotate_left
  · rw [if_neg (of_decide_eq_false hb)] at h
    refine H.skp' ?_
    refine Kseq_norm ?_
    exact H.ren' hS [0, 1, 2] (kOf_L1_ok (x.1, x.2.1, x.2.2.1, x.2.2.2.1, x.2.2.2.2.1, x.2.2.2.2.2, (IntKind.u8.wrap (1 + (remI .u8 x.1 5))), (IntKind.i64.wrap (remI .u8 x.2.1 128)), 0) r h W0 w0 S hS)
  rw [if_pos (of_decide_eq_true hb)] at h
  refine H.reg' ?_
  refine HO.fin' 7 ?_
  exact H.ren' hS [0, 1, 2] (kOf_L1_ok (x.1, x.2.1, x.2.2.1, x.2.2.2.1, x.2.2.2.2.1, x.2.2.2.2.2, (IntKind.u8.wrap (1 + (remI .u8 x.1 5))), (IntKind.i64.wrap (remI .u8 x.2.1 128)), (IntKind.i64.wrap ((IntKind.i64.wrap (remI .u8 x.2.2.1 129)) - 1))) r h W0 w0 S hS)
def intC (x : Int) : Option ((List Int)) :=
  if (!decide ((shrI .i64 x 7) = 0)) = true then
    if (!decide ((shrI .i64 x 7) = (-1))) = true then
      if (!decide ((shrI .i64 x 15) = 0)) = true then
        if (!decide ((shrI .i64 x 15) = (-1))) = true then
          if (!decide ((shrI .i64 x 23) = 0)) = true then
            if (!decide ((shrI .i64 x 23) = (-1))) = true then
              if (!decide ((shrI .i64 x 31) = 0)) = true then
                if (!decide ((shrI .i64 x 31) = (-1))) = true then
                  if (!decide ((shrI .i64 x 39) = 0)) = true then
                    if (!decide ((shrI .i64 x 39) = (-1))) = true then
                      if (!decide ((shrI .i64 x 47) = 0)) = true then
                        if (!decide ((shrI .i64 x 47) = (-1))) = true then
                          if (!decide ((shrI .i64 x 55) = 0)) = true then
                            if (!decide ((shrI .i64 x 55) = (-1))) = true then
                              some [(IntKind.u8.wrap (shrI .i64 x 56)), (IntKind.u8.wrap (shrI .i64 x 48)), (IntKind.u8.wrap (shrI .i64 x 40)), (IntKind.u8.wrap (shrI .i64 x 32)), (IntKind.u8.wrap (shrI .i64 x 24)), (IntKind.u8.wrap (shrI .i64 x 16)), (IntKind.u8.wrap (shrI .i64 x 8)), (IntKind.u8.wrap (shrI .i64 x 0))]
                            else
                              some [(IntKind.u8.wrap (shrI .i64 x 48)), (IntKind.u8.wrap (shrI .i64 x 40)), (IntKind.u8.wrap (shrI .i64 x 32)), (IntKind.u8.wrap (shrI .i64 x 24)), (IntKind.u8.wrap (shrI .i64 x 16)), (IntKind.u8.wrap (shrI .i64 x 8)), (IntKind.u8.wrap (shrI .i64 x 0))]
                          else
                            some [(IntKind.u8.wrap (shrI .i64 x 48)), (IntKind.u8.wrap (shrI .i64 x 40)), (IntKind.u8.wrap (shrI .i64 x 32)), (IntKind.u8.wrap (shrI .i64 x 24)), (IntKind.u8.wrap (shrI .i64 x 16)), (IntKind.u8.wrap (shrI .i64 x 8)), (IntKind.u8.wrap (shrI .i64 x 0))]
                        else
                          some [(IntKind.u8.wrap (shrI .i64 x 40)), (IntKind.u8.wrap (shrI .i64 x 32)), (IntKind.u8.wrap (shrI .i64 x 24)), (IntKind.u8.wrap (shrI .i64 x 16)), (IntKind.u8.wrap (shrI .i64 x 8)), (IntKind.u8.wrap (shrI .i64 x 0))]
                      else
                        some [(IntKind.u8.wrap (shrI .i64 x 40)), (IntKind.u8.wrap (shrI .i64 x 32)), (IntKind.u8.wrap (shrI .i64 x 24)), (IntKind.u8.wrap (shrI .i64 x 16)), (IntKind.u8.wrap (shrI .i64 x 8)), (IntKind.u8.wrap (shrI .i64 x 0))]
                    else
                      some [(IntKind.u8.wrap (shrI .i64 x 32)), (IntKind.u8.wrap (shrI .i64 x 24)), (IntKind.u8.wrap (shrI .i64 x 16)), (IntKind.u8.wrap (shrI .i64 x 8)), (IntKind.u8.wrap (shrI .i64 x 0))]
                  else
                    some [(IntKind.u8.wrap (shrI .i64 x 32)), (IntKind.u8.wrap (shrI .i64 x 24)), (IntKind.u8.wrap (shrI .i64 x 16)), (IntKind.u8.wrap (shrI .i64 x 8)), (IntKind.u8.wrap (shrI .i64 x 0))]
                else
                  some [(IntKind.u8.wrap (shrI .i64 x 24)), (IntKind.u8.wrap (shrI .i64 x 16)), (IntKind.u8.wrap (shrI .i64 x 8)), (IntKind.u8.wrap (shrI .i64 x 0))]
              else
                some [(IntKind.u8.wrap (shrI .i64 x 24)), (IntKind.u8.wrap (shrI .i64 x 16)), (IntKind.u8.wrap (shrI .i64 x 8)), (IntKind.u8.wrap (shrI .i64 x 0))]
            else
              some [(IntKind.u8.wrap (shrI .i64 x 16)), (IntKind.u8.wrap (shrI .i64 x 8)), (IntKind.u8.wrap (shrI .i64 x 0))]
          else
            some [(IntKind.u8.wrap (shrI .i64 x 16)), (IntKind.u8.wrap (shrI .i64 x 8)), (IntKind.u8.wrap (shrI .i64 x 0))]
        else
          some [(IntKind.u8.wrap (shrI .i64 x 8)), (IntKind.u8.wrap (shrI .i64 x 0))]
      else
        some [(IntKind.u8.wrap (shrI .i64 x 8)), (IntKind.u8.wrap (shrI .i64 x 0))]
    else
      some [(IntKind.u8.wrap (shrI .i64 x 0))]
  else
    some [(IntKind.u8.wrap (shrI .i64 x 0))]
theorem intC_ok : ∀ (x : Int) (r : (List Int)), intC x = some r → ∀ W0 : World, PTo Tryd.prog W0 11 #[.int .i64 x] (.returned (ls 1 false (encI .u8) r)) := by
  intro x r h
  unfold intC at h
  intro W0
  refine PTo.of_body (fn := Tryd.f11) (code := cB Tryd.f11) Tryd.func11 rfl rfl ?_
  intro w0 S hS
  haveI := hS.noEx Tryd.prog
  refine H.sr' 1 ?_
  refine H.sr' 1 ?_
  refine H.seq' ?_
  refine H.blk' 0 ?_
  refine H.lop' ?_
  refine HL.round ?_
  refine H.seq' ?_
  refine H.sg' ?_
  refine HO.go' 10 ?_
  refine HO.bo' (!decide ((shrI .i64 x 7) = 0)) (fun hb => ?_) (fun hb => ?_)
  rotate_left
  · rw [if_neg (ne_true hb)] at h
    refine HO.fin' 7 ?_
    refine H.cF' ?_
    refine H.ext' 0 ?_
    refine Kseq_exit ?_
    refine Kloop_exit ?_
    refine Kblock_hit ?_
    refine Kseq_norm ?_
    refine H.sr' 3 ?_
    refine H.seq' ?_
    refine H.sr' 3 ?_
    refine H.blk' 2 ?_
    refine H.lop' ?_
    refine HL.round ?_
    refine H.sr' 1 ?_
    refine H.seq' ?_
    refine H.cT' ?_
    refine H.skp' ?_
    refine Kseq_norm ?_
    refine H.seq' ?_
    refine H.blk' 3 ?_
    refine H.sr' 2 ?_
    refine H.reg' ?_
    refine HO.go' 12 ?_
    refine HO.end' ?_
    refine Kblock_norm ?_
    refine Kseq_norm ?_
    refine H.reg' ?_
    refine HO.go' 2 ?_
    refine HO.end' ?_
    refine Kloop_norm ?_
    refine HL.round ?_
    refine H.sr' 1 ?_
    refine H.seq' ?_
    refine H.cF' ?_
    refine H.ext' 2 ?_
    refine Kseq_exit ?_
    refine Kloop_exit ?_
    refine Kblock_hit ?_
    refine Kseq_norm ?_
    refine H.sr' 2 ?_
    refine H.ret' ?_
    obtain rfl := Option.some.inj h
    exact KEnd.of (v := .slice (some ⟨0, 0, none⟩) 1 1) (by kernel_rfl) (by kernel_rfl) (PEnd.frz 0 1 1 1 5 true ([(IntKind.u8.wrap (shrI .i64 x 0))].map (encI .u8)).toArray [.int .u8 (IntKind.u8.wrap (shrI .i64 x 0))] (by kernel_rfl) (PEnd.wk (v1 := ls 1 false (encI .u8) [(IntKind.u8.wrap (shrI .i64 x 0))]) (.list 1 false) (by kernel_rfl) (PEnd.fin (by kernel_rfl))))
  rw [if_pos hb] at h
  refine HO.fin' 7 ?_
  refine H.cS' (!decide ((shrI .i64 x 7) = (-1))) (fun hb => ?_) (fun hb => ?_)
  rotate_left
  · rw [if_neg (ne_true hb)] at h
    refine H.ext' 0 ?_
    refine Kseq_exit ?_
    refine Kloop_exit ?_
    refine Kblock_hit ?_
    refine Kseq_norm ?_
    refine H.sr' 3 ?_
    refine H.seq' ?_
    refine H.sr' 3 ?_
    refine H.blk' 2 ?_
    refine H.lop' ?_
    refine HL.round ?_
    refine H.sr' 1 ?_
    refine H.seq' ?_
    refine H.cT' ?_
    refine H.skp' ?_
    refine Kseq_norm ?_
    refine H.seq' ?_
    refine H.blk' 3 ?_
    refine H.sr' 2 ?_
    refine H.reg' ?_
    refine HO.go' 12 ?_
    refine HO.end' ?_
    refine Kblock_norm ?_
    refine Kseq_norm ?_
    refine H.reg' ?_
    refine HO.go' 2 ?_
    refine HO.end' ?_
    refine Kloop_norm ?_
    refine HL.round ?_
    refine H.sr' 1 ?_
    refine H.seq' ?_
    refine H.cF' ?_
    refine H.ext' 2 ?_
    refine Kseq_exit ?_
    refine Kloop_exit ?_
    refine Kblock_hit ?_
    refine Kseq_norm ?_
    refine H.sr' 2 ?_
    refine H.ret' ?_
    obtain rfl := Option.some.inj h
    exact KEnd.of (v := .slice (some ⟨0, 0, none⟩) 1 1) (by kernel_rfl) (by kernel_rfl) (PEnd.frz 0 1 1 1 5 true ([(IntKind.u8.wrap (shrI .i64 x 0))].map (encI .u8)).toArray [.int .u8 (IntKind.u8.wrap (shrI .i64 x 0))] (by kernel_rfl) (PEnd.wk (v1 := ls 1 false (encI .u8) [(IntKind.u8.wrap (shrI .i64 x 0))]) (.list 1 false) (by kernel_rfl) (PEnd.fin (by kernel_rfl))))
  rw [if_pos hb] at h
  refine H.skp' ?_
  refine Kseq_norm ?_
  refine H.blk' 1 ?_
  refine H.reg' ?_
  refine HO.go' 3 ?_
  refine HO.end' ?_
  refine Kblock_norm ?_
  refine Kloop_norm ?_
  refine HL.round ?_
  refine H.seq' ?_
  refine H.sg' ?_
  refine HO.go' 10 ?_
  refine HO.bo' (!decide ((shrI .i64 x 15) = 0)) (fun hb => ?_) (fun hb => ?_)
  rotate_left
  · rw [if_neg (ne_true hb)] at h
    refine HO.fin' 7 ?_
    refine H.cF' ?_
    refine H.ext' 0 ?_
    refine Kseq_exit ?_
    refine Kloop_exit ?_
    refine Kblock_hit ?_
    refine Kseq_norm ?_
    refine H.sr' 3 ?_
    refine H.seq' ?_
    refine H.sr' 3 ?_
    refine H.blk' 2 ?_
    refine H.lop' ?_
    refine HL.round ?_
    refine H.sr' 1 ?_
    refine H.seq' ?_
    refine H.cT' ?_
    refine H.skp' ?_
    refine Kseq_norm ?_
    refine H.seq' ?_
    refine H.blk' 3 ?_
    refine H.sr' 2 ?_
    refine H.reg' ?_
    refine HO.go' 12 ?_
    refine HO.end' ?_
    refine Kblock_norm ?_
    refine Kseq_norm ?_
    refine H.reg' ?_
    refine HO.go' 2 ?_
    refine HO.end' ?_
    refine Kloop_norm ?_
    refine HL.round ?_
    refine H.sr' 1 ?_
    refine H.seq' ?_
    refine H.cT' ?_
    refine H.skp' ?_
    refine Kseq_norm ?_
    refine H.seq' ?_
    refine H.blk' 3 ?_
    refine H.sr' 2 ?_
    refine H.reg' ?_
    refine HO.go' 12 ?_
    refine HO.end' ?_
    refine Kblock_norm ?_
    refine Kseq_norm ?_
    refine H.reg' ?_
    refine HO.go' 2 ?_
    refine HO.end' ?_
    refine Kloop_norm ?_
    refine HL.round ?_
    refine H.sr' 1 ?_
    refine H.seq' ?_
    refine H.cF' ?_
    refine H.ext' 2 ?_
    refine Kseq_exit ?_
    refine Kloop_exit ?_
    refine Kblock_hit ?_
    refine Kseq_norm ?_
    refine H.sr' 2 ?_
    refine H.ret' ?_
    obtain rfl := Option.some.inj h
    exact KEnd.of (v := .slice (some ⟨0, 0, none⟩) 2 2) (by kernel_rfl) (by kernel_rfl) (PEnd.frz 0 2 2 1 5 true ([(IntKind.u8.wrap (shrI .i64 x 8)), (IntKind.u8.wrap (shrI .i64 x 0))].map (encI .u8)).toArray [.int .u8 (IntKind.u8.wrap (shrI .i64 x 8)), .int .u8 (IntKind.u8.wrap (shrI .i64 x 0))] (by kernel_rfl) (PEnd.wk (v1 := ls 1 false (encI .u8) [(IntKind.u8.wrap (shrI .i64 x 8)), (IntKind.u8.wrap (shrI .i64 x 0))]) (.list 1 false) (by kernel_rfl) (PEnd.fin (by kernel_rfl))))
  rw [if_pos hb] at h
  refine HO.fin' 7 ?_
  refine H.cS' (!decide ((shrI .i64 x 15) = (-1))) (fun hb => ?_) (fun hb => ?_)
  rotate_left
  · rw [if_neg (ne_true hb)] at h
    refine H.ext' 0 ?_
    refine Kseq_exit ?_
    refine Kloop_exit ?_
    refine Kblock_hit ?_
    refine Kseq_norm ?_
    refine H.sr' 3 ?_
    refine H.seq' ?_
    refine H.sr' 3 ?_
    refine H.blk' 2 ?_
    refine H.lop' ?_
    refine HL.round ?_
    refine H.sr' 1 ?_
    refine H.seq' ?_
    refine H.cT' ?_
    refine H.skp' ?_
    refine Kseq_norm ?_
    refine H.seq' ?_
    refine H.blk' 3 ?_
    refine H.sr' 2 ?_
    refine H.reg' ?_
    refine HO.go' 12 ?_
    refine HO.end' ?_
    refine Kblock_norm ?_
    refine Kseq_norm ?_
    refine H.reg' ?_
    refine HO.go' 2 ?_
    refine HO.end' ?_
    refine Kloop_norm ?_
    refine HL.round ?_
    refine H.sr' 1 ?_
    refine H.seq' ?_
    refine H.cT' ?_
    refine H.skp' ?_
    refine Kseq_norm ?_
    refine H.seq' ?_
    refine H.blk' 3 ?_
    refine H.sr' 2 ?_
    refine H.reg' ?_
    refine HO.go' 12 ?_
    refine HO.end' ?_
    refine Kblock_norm ?_
    refine Kseq_norm ?_
    refine H.reg' ?_
    refine HO.go' 2 ?_
    refine HO.end' ?_
    refine Kloop_norm ?_
    refine HL.round ?_
    refine H.sr' 1 ?_
    refine H.seq' ?_
    refine H.cF' ?_
    refine H.ext' 2 ?_
    refine Kseq_exit ?_
    refine Kloop_exit ?_
    refine Kblock_hit ?_
    refine Kseq_norm ?_
    refine H.sr' 2 ?_
    refine H.ret' ?_
    obtain rfl := Option.some.inj h
    exact KEnd.of (v := .slice (some ⟨0, 0, none⟩) 2 2) (by kernel_rfl) (by kernel_rfl) (PEnd.frz 0 2 2 1 5 true ([(IntKind.u8.wrap (shrI .i64 x 8)), (IntKind.u8.wrap (shrI .i64 x 0))].map (encI .u8)).toArray [.int .u8 (IntKind.u8.wrap (shrI .i64 x 8)), .int .u8 (IntKind.u8.wrap (shrI .i64 x 0))] (by kernel_rfl) (PEnd.wk (v1 := ls 1 false (encI .u8) [(IntKind.u8.wrap (shrI .i64 x 8)), (IntKind.u8.wrap (shrI .i64 x 0))]) (.list 1 false) (by kernel_rfl) (PEnd.fin (by kernel_rfl))))
  rw [if_pos hb] at h
  refine H.skp' ?_
  refine Kseq_norm ?_
  refine H.blk' 1 ?_
  refine H.reg' ?_
  refine HO.go' 3 ?_
  refine HO.end' ?_
  refine Kblock_norm ?_
  refine Kloop_norm ?_
  refine HL.round ?_
  refine H.seq' ?_
  refine H.sg' ?_
  refine HO.go' 10 ?_
  refine HO.bo' (!decide ((shrI .i64 x 23) = 0)) (fun hb => ?_) (fun hb => ?_)
  rotate_left
  · rw [if_neg (ne_true hb)] at h
    refine HO.fin' 7 ?_
    refine H.cF' ?_
    refine H.ext' 0 ?_
    refine Kseq_exit ?_
    refine Kloop_exit ?_
    refine Kblock_hit ?_
    refine Kseq_norm ?_
    refine H.sr' 3 ?_
    refine H.seq' ?_
    refine H.sr' 3 ?_
    refine H.blk' 2 ?_
    refine H.lop' ?_
    refine HL.round ?_
    refine H.sr' 1 ?_
    refine H.seq' ?_
    refine H.cT' ?_
    refine H.skp' ?_
    refine Kseq_norm ?_
    refine H.seq' ?_
    refine H.blk' 3 ?_
    refine H.sr' 2 ?_
    refine H.reg' ?_
    refine HO.go' 12 ?_
    refine HO.end' ?_
    refine Kblock_norm ?_
    refine Kseq_norm ?_
    refine H.reg' ?_
    refine HO.go' 2 ?_
    refine HO.end' ?_
    refine Kloop_norm ?_
    refine HL.round ?_
    refine H.sr' 1 ?_
    refine H.seq' ?_
    refine H.cT' ?_
    refine H.skp' ?_
    refine Kseq_norm ?_
    refine H.seq' ?_
    refine H.blk' 3 ?_
    refine H.sr' 2 ?_
    refine H.reg' ?_
    refine HO.go' 12 ?_
    refine HO.end' ?_
    refine Kblock_norm ?_
    refine Kseq_norm ?_
    refine H.reg' ?_
    refine HO.go' 2 ?_
    refine HO.end' ?_
    refine Kloop_norm ?_
    refine HL.round ?_
    refine H.sr' 1 ?_
    refine H.seq' ?_
    refine H.cT' ?_
    refine H.skp' ?_
    refine Kseq_norm ?_
    refine H.seq' ?_
    refine H.blk' 3 ?_
    refine H.sr' 2 ?_
    refine H.reg' ?_
    refine HO.go' 12 ?_
    refine HO.end' ?_
    refine Kblock_norm ?_
    refine Kseq_norm ?_
    refine H.reg' ?_
    refine HO.go' 2 ?_
    refine HO.end' ?_
    refine Kloop_norm ?_
    refine HL.round ?_
    refine H.sr' 1 ?_
    refine H.seq' ?_
    refine H.cF' ?_
    refine H.ext' 2 ?_
    refine Kseq_exit ?_
    refine Kloop_exit ?_
    refine Kblock_hit ?_
    refine Kseq_norm ?_
    refine H.sr' 2 ?_
    refine H.ret' ?_
    obtain rfl := Option.some.inj h
    exact KEnd.of (v := .slice (some ⟨0, 0, none⟩) 3 3) (by kernel_rfl) (by kernel_rfl) (PEnd.frz 0 3 3 1 5 true ([(IntKind.u8.wrap (shrI .i64 x 16)), (IntKind.u8.wrap (shrI .i64 x 8)), (IntKind.u8.wrap (shrI .i64 x 0))].map (encI .u8)).toArray [.int .u8 (IntKind.u8.wrap (shrI .i64 x 16)), .int .u8 (IntKind.u8.wrap (shrI .i64 x 8)), .int .u8 (IntKind.u8.wrap (shrI .i64 x 0))] (by kernel_rfl) (PEnd.wk (v1 := ls 1 false (encI .u8) [(IntKind.u8.wrap (shrI .i64 x 16)), (IntKind.u8.wrap (shrI .i64 x 8)), (IntKind.u8.wrap (shrI .i64 x 0))]) (.list 1 false) (by kernel_rfl) (PEnd.fin (by kernel_rfl))))
  rw [if_pos hb] at h
  refine HO.fin' 7 ?_
  refine H.cS' (!decide ((shrI .i64 x 23) = (-1))) (fun hb => ?_) (fun hb => ?_)
  rotate_left
  · rw [if_neg (ne_true hb)] at h
    refine H.ext' 0 ?_
    refine Kseq_exit ?_
    refine Kloop_exit ?_
    refine Kblock_hit ?_
    refine Kseq_norm ?_
    refine H.sr' 3 ?_
    refine H.seq' ?_
    refine H.sr' 3 ?_
    refine H.blk' 2 ?_
    refine H.lop' ?_
    refine HL.round ?_
    refine H.sr' 1 ?_
    refine H.seq' ?_
    refine H.cT' ?_
    refine H.skp' ?_
    refine Kseq_norm ?_
    refine H.seq' ?_
    refine H.blk' 3 ?_
    refine H.sr' 2 ?_
    refine H.reg' ?_
    refine HO.go' 12 ?_
    refine HO.end' ?_
    refine Kblock_norm ?_
    refine Kseq_norm ?_
    refine H.reg' ?_
    refine HO.go' 2 ?_
    refine HO.end' ?_
    refine Kloop_norm ?_
    refine HL.round ?_
    refine H.sr' 1 ?_
    refine H.seq' ?_
    refine H.cT' ?_
    refine H.skp' ?_
    refine Kseq_norm ?_
    refine H.seq' ?_
    refine H.blk' 3 ?_
    refine H.sr' 2 ?_
    refine H.reg' ?_
    refine HO.go' 12 ?_
    refine HO.end' ?_
    refine Kblock_norm ?_
    refine Kseq_norm ?_
    refine H.reg' ?_
    refine HO.go' 2 ?_
    refine HO.end' ?_
    refine Kloop_norm ?_
    refine HL.round ?_
    refine H.sr' 1 ?_
    refine H.seq' ?_
    refine H.cT' ?_
    refine H.skp' ?_
    refine Kseq_norm ?_
    refine H.seq' ?_
    refine H.blk' 3 ?_
    refine H.sr' 2 ?_
    refine H.reg' ?_
    refine HO.go' 12 ?_
    refine HO.end' ?_
    refine Kblock_norm ?_
    refine Kseq_norm ?_
    refine H.reg' ?_
    refine HO.go' 2 ?_
    refine HO.end' ?_
    refine Kloop_norm ?_
    refine HL.round ?_
    refine H.sr' 1 ?_
    refine H.seq' ?_
    refine H.cF' ?_
    refine H.ext' 2 ?_
    refine Kseq_exit ?_
    refine Kloop_exit ?_
    refine Kblock_hit ?_
    refine Kseq_norm ?_
    refine H.sr' 2 ?_
    refine H.ret' ?_
    obtain rfl := Option.some.inj h
    exact KEnd.of (v := .slice (some ⟨0, 0, none⟩) 3 3) (by kernel_rfl) (by kernel_rfl) (PEnd.frz 0 3 3 1 5 true ([(IntKind.u8.wrap (shrI .i64 x 16)), (IntKind.u8.wrap (shrI .i64 x 8)), (IntKind.u8.wrap (shrI .i64 x 0))].map (encI .u8)).toArray [.int .u8 (IntKind.u8.wrap (shrI .i64 x 16)), .int .u8 (IntKind.u8.wrap (shrI .i64 x 8)), .int .u8 (IntKind.u8.wrap (shrI .i64 x 0))] (by kernel_rfl) (PEnd.wk (v1 := ls 1 false (encI .u8) [(IntKind.u8.wrap (shrI .i64 x 16)), (IntKind.u8.wrap (shrI .i64 x 8)), (IntKind.u8.wrap (shrI .i64 x 0))]) (.list 1 false) (by kernel_rfl) (PEnd.fin (by kernel_rfl))))
  rw [if_pos hb] at h
  refine H.skp' ?_
  refine Kseq_norm ?_
  refine H.blk' 1 ?_
  refine H.reg' ?_
  refine HO.go' 3 ?_
  refine HO.end' ?_
  refine Kblock_norm ?_
  refine Kloop_norm ?_
  refine HL.round ?_
  refine H.seq' ?_
  refine H.sg' ?_
  refine HO.go' 10 ?_
  refine HO.bo' (!decide ((shrI .i64 x 31) = 0)) (fun hb => ?_) (fun hb => ?_)
  rotate_left
  · rw [if_neg (ne_true hb)] at h
    refine HO.fin' 7 ?_
    refine H.cF' ?_
    refine H.ext' 0 ?_
    refine Kseq_exit ?_
    refine Kloop_exit ?_
    refine Kblock_hit ?_
    refine Kseq_norm ?_
    refine H.sr' 3 ?_
    refine H.seq' ?_
    refine H.sr' 3 ?_
    refine H.blk' 2 ?_
    refine H.lop' ?_
    refine HL.round ?_
    refine H.sr' 1 ?_
    refine H.seq' ?_
    refine H.cT' ?_
    refine H.skp' ?_
    refine Kseq_norm ?_
    refine H.seq' ?_
    refine H.blk' 3 ?_
    refine H.sr' 2 ?_
    refine H.reg' ?_
    refine HO.go' 12 ?_
    refine HO.end' ?_
    refine Kblock_norm ?_
    refine Kseq_norm ?_
    refine H.reg' ?_
    refine HO.go' 2 ?_
    refine HO.end' ?_
    refine Kloop_norm ?_
    refine HL.round ?_
    refine H.sr' 1 ?_
    refine H.seq' ?_
    refine H.cT' ?_
    refine H.skp' ?_
    refine Kseq_norm ?_
    refine H.seq' ?_
    refine H.blk' 3 ?_
    refine H.sr' 2 ?_
    refine H.reg' ?_
    refine HO.go' 12 ?_
    refine HO.end' ?_
    refine Kblock_norm ?_
    refine Kseq_norm ?_
    refine H.reg' ?_
    refine HO.go' 2 ?_
    refine HO.end' ?_
    refine Kloop_norm ?_
    refine HL.round ?_
    refine H.sr' 1 ?_
    refine H.seq' ?_
    refine H.cT' ?_
    refine H.skp' ?_
    refine Kseq_norm ?_
    refine H.seq' ?_
    refine H.blk' 3 ?_
    refine H.sr' 2 ?_
    refine H.reg' ?_
    refine HO.go' 12 ?_
    refine HO.end' ?_
    refine Kblock_norm ?_
    refine Kseq_norm ?_
    refine H.reg' ?_
    refine HO.go' 2 ?_
    refine HO.end' ?_
    refine Kloop_norm ?_
    refine HL.round ?_
    refine H.sr' 1 ?_
    refine H.seq' ?_
    refine H.cT' ?_
    refine H.skp' ?_
    refine Kseq_norm ?_
    refine H.seq' ?_
    refine H.blk' 3 ?_
    refine H.sr' 2 ?_
    refine H.reg' ?_
    refine HO.go' 12 ?_
    refine HO.end' ?_
    refine Kblock_norm ?_
    refine Kseq_norm ?_
    refine H.reg' ?_
    refine HO.go' 2 ?_
    refine HO.end' ?_
    refine Kloop_norm ?_
    refine HL.round ?_
    refine H.sr' 1 ?_
    refine H.seq' ?_
    refine H.cF' ?_
    refine H.ext' 2 ?_
    refine Kseq_exit ?_
    refine Kloop_exit ?_
    refine Kblock_hit ?_
    refine Kseq_norm ?_
    refine H.sr' 2 ?_
    refine H.ret' ?_
    obtain rfl := Option.some.inj h
    exact KEnd.of (v := .slice (some ⟨0, 0, none⟩) 4 4) (by kernel_rfl) (by kernel_rfl) (PEnd.frz 0 4 4 1 5 true ([(IntKind.u8.wrap (shrI .i64 x 24)), (IntKind.u8.wrap (shrI .i64 x 16)), (IntKind.u8.wrap (shrI .i64 x 8)), (IntKind.u8.wrap (shrI .i64 x 0))].map (encI .u8)).toArray [.int .u8 (IntKind.u8.wrap (shrI .i64 x 24)), .int .u8 (IntKind.u8.wrap (shrI .i64 x 16)), .int .u8 (IntKind.u8.wrap (shrI .i64 x 8)), .int .u8 (IntKind.u8.wrap (shrI .i64 x 0))] (by kernel_rfl) (PEnd.wk (v1 := ls 1 false (encI .u8) [(IntKind.u8.wrap (shrI .i64 x 24)), (IntKind.u8.wrap (shrI .i64 x 16)), (IntKind.u8.wrap (shrI .i64 x 8)), (IntKind.u8.wrap (shrI .i64 x 0))]) (.list 1 false) (by kernel_rfl) (PEnd.fin (by kernel_rfl))))
  rw [if_pos hb] at h
  refine HO.fin' 7 ?_
  refine H.cS' (!decide ((shrI .i64 x 31) = (-1))) (fun hb => ?_) (fun hb => ?_)
  rotate_left
  · rw [if_neg (ne_true hb)] at h
    refine H.ext' 0 ?_
    refine Kseq_exit ?_
    refine Kloop_exit ?_
    refine Kblock_hit ?_
    refine Kseq_norm ?_
    refine H.sr' 3 ?_
    refine H.seq' ?_
    refine H.sr' 3 ?_
    refine H.blk' 2 ?_
    refine H.lop' ?_
    refine HL.round ?_
    refine H.sr' 1 ?_
    refine H.seq' ?_
    refine H.cT' ?_
    refine H.skp' ?_
    refine Kseq_norm ?_
    refine H.seq' ?_
    refine H.blk' 3 ?_
    refine H.sr' 2 ?_
    refine H.reg' ?_
    refine HO.go' 12 ?_
    refine HO.end' ?_
    refine Kblock_norm ?_
    refine Kseq_norm ?_
    refine H.reg' ?_
    refine HO.go' 2 ?_
    refine HO.end' ?_
    refine Kloop_norm ?_
    refine HL.round ?_
    refine H.sr' 1 ?_
    refine H.seq' ?_
    refine H.cT' ?_
    refine H.skp' ?_
    refine Kseq_norm ?_
    refine H.seq' ?_
    refine H.blk' 3 ?_
    refine H.sr' 2 ?_
    refine H.reg' ?_
    refine HO.go' 12 ?_
    refine HO.end' ?_
    refine Kblock_norm ?_
    refine Kseq_norm ?_
    refine H.reg' ?_
    refine HO.go' 2 ?_
    refine HO.end' ?_
    refine Kloop_norm ?_
    refine HL.round ?_
    refine H.sr' 1 ?_
    refine H.seq' ?_
    refine H.cT' ?_
    refine H.skp' ?_
    refine Kseq_norm ?_
    refine H.seq' ?_
    refine H.blk' 3 ?_
    refine H.sr' 2 ?_
    refine H.reg' ?_
    refine HO.go' 12 ?_
    refine HO.end' ?_
    refine Kblock_norm ?_
    refine Kseq_norm ?_
    refine H.reg' ?_
    refine HO.go' 2 ?_
    refine HO.end' ?_
    refine Kloop_norm ?_
    refine HL.round ?_
    refine H.sr' 1 ?_
    refine H.seq' ?_
    refine H.cT' ?_
    refine H.skp' ?_
    refine Kseq_norm ?_
    refine H.seq' ?_
    refine H.blk' 3 ?_
    refine H.sr' 2 ?_
    refine H.reg' ?_
    refine HO.go' 12 ?_
    refine HO.end' ?_
    refine Kblock_norm ?_
    refine Kseq_norm ?_
    refine H.reg' ?_
    refine HO.go' 2 ?_
    refine HO.end' ?_
    refine Kloop_norm ?_
    refine HL.round ?_
    refine H.sr' 1 ?_
    refine H.seq' ?_
    refine H.cF' ?_
    refine H.ext' 2 ?_
    refine Kseq_exit ?_
    refine Kloop_exit ?_
    refine Kblock_hit ?_
    refine Kseq_norm ?_
    refine H.sr' 2 ?_
    refine H.ret' ?_
    obtain rfl := Option.some.inj h
    exact KEnd.of (v := .slice (some ⟨0, 0, none⟩) 4 4) (by kernel_rfl) (by kernel_rfl) (PEnd.frz 0 4 4 1 5 true ([(IntKind.u8.wrap (shrI .i64 x 24)), (IntKind.u8.wrap (shrI .i64 x 16)), (IntKind.u8.wrap (shrI .i64 x 8)), (IntKind.u8.wrap (shrI .i64 x 0))].map (encI .u8)).toArray [.int .u8 (IntKind.u8.wrap (shrI .i64 x 24)), .int .u8 (IntKind.u8.wrap (shrI .i64 x 16)), .int .u8 (IntKind.u8.wrap (shrI .i64 x 8)), .int .u8 (IntKind.u8.wrap (shrI .i64 x 0))] (by kernel_rfl) (PEnd.wk (v1 := ls 1 false (encI .u8) [(IntKind.u8.wrap (shrI .i64 x 24)), (IntKind.u8.wrap (shrI .i64 x 16)), (IntKind.u8.wrap (shrI .i64 x 8)), (IntKind.u8.wrap (shrI .i64 x 0))]) (.list 1 false) (by kernel_rfl) (PEnd.fin (by kernel_rfl))))
  rw [if_pos hb] at h
  refine H.skp' ?_
  refine Kseq_norm ?_
  refine H.blk' 1 ?_
  refine H.reg' ?_
  refine HO.go' 3 ?_
  refine HO.end' ?_
  refine Kblock_norm ?_
  refine Kloop_norm ?_
  refine HL.round ?_
  refine H.seq' ?_
  refine H.sg' ?_
  refine HO.go' 10 ?_
  refine HO.bo' (!decide ((shrI .i64 x 39) = 0)) (fun hb => ?_) (fun hb => ?_)
  rotate_left
  · rw [if_neg (ne_true hb)] at h
    refine HO.fin' 7 ?_
    refine H.cF' ?_
    refine H.ext' 0 ?_
    refine Kseq_exit ?_
    refine Kloop_exit ?_
    refine Kblock_hit ?_
    refine Kseq_norm ?_
    refine H.sr' 3 ?_
    refine H.seq' ?_
    refine H.sr' 3 ?_
    refine H.blk' 2 ?_
    refine H.lop' ?_
    refine HL.round ?_
    refine H.sr' 1 ?_
    refine H.seq' ?_
    refine H.cT' ?_
    refine H.skp' ?_
    refine Kseq_norm ?_
    refine H.seq' ?_
    refine H.blk' 3 ?_
    refine H.sr' 2 ?_
    refine H.reg' ?_
    refine HO.go' 12 ?_
    refine HO.end' ?_
    refine Kblock_norm ?_
    refine Kseq_norm ?_
    refine H.reg' ?_
    refine HO.go' 2 ?_
    refine HO.end' ?_
    refine Kloop_norm ?_
    refine HL.round ?_
    refine H.sr' 1 ?_
    refine H.seq' ?_
    refine H.cT' ?_
    refine H.skp' ?_
    refine Kseq_norm ?_
    refine H.seq' ?_
    refine H.blk' 3 ?_
    refine H.sr' 2 ?_
    refine H.reg' ?_
    refine HO.go' 12 ?_
    refine HO.end' ?_
    refine Kblock_norm ?_
    refine Kseq_norm ?_
    refine H.reg' ?_
    refine HO.go' 2 ?_
    refine HO.end' ?_
    refine Kloop_norm ?_
    refine HL.round ?_
    refine H.sr' 1 ?_
    refine H.seq' ?_
    refine H.cT' ?_
    refine H.skp' ?_
    refine Kseq_norm ?_
    refine H.seq' ?_
    refine H.blk' 3 ?_
    refine H.sr' 2 ?_
    refine H.reg' ?_
    refine HO.go' 12 ?_
    refine HO.end' ?_
    refine Kblock_norm ?_
    refine Kseq_norm ?_
    refine H.reg' ?_
    refine HO.go' 2 ?_
    refine HO.end' ?_
    refine Kloop_norm ?_
    refine HL.round ?_
    refine H.sr' 1 ?_
    refine H.seq' ?_
    refine H.cT' ?_
    refine H.skp' ?_
    refine Kseq_norm ?_
    refine H.seq' ?_
    refine H.blk' 3 ?_
    refine H.sr' 2 ?_
    refine H.reg' ?_
    refine HO.go' 12 ?_
    refine HO.end' ?_
    refine Kblock_norm ?_
    refine Kseq_norm ?_
    refine H.reg' ?_
    refine HO.go' 2 ?_
    refine HO.end' ?_
    refine Kloop_norm ?_
    refine HL.round ?_
    refine H.sr' 1 ?_
    refine H.seq' ?_
    refine H.cT' ?_
    refine H.skp' ?_
    refine Kseq_norm ?_
    refine H.seq' ?_
    refine H.blk' 3 ?_
    refine H.sr' 2 ?_
    refine H.reg' ?_
    refine HO.go' 12 ?_
    refine HO.end' ?_
    refine Kblock_norm ?_
    refine Kseq_norm ?_
    refine H.reg' ?_
    refine HO.go' 2 ?_
    refine HO.end' ?_
    refine Kloop_norm ?_
    refine HL.round ?_
    refine H.sr' 1 ?_
    refine H.seq' ?_
    refine H.cF' ?_
    refine H.ext' 2 ?_
    refine Kseq_exit ?_
    refine Kloop_exit ?_
    refine Kblock_hit ?_
    refine Kseq_norm ?_
    refine H.sr' 2 ?_
    refine H.ret' ?_
    obtain rfl := Option.some.inj h
    exact KEnd.of (v := .slice (some ⟨0, 0, none⟩) 5 5) (by kernel_rfl) (by kernel_rfl) (PEnd.frz 0 5 5 1 5 true ([(IntKind.u8.wrap (shrI .i64 x 32)), (IntKind.u8.wrap (shrI .i64 x 24)), (IntKind.u8.wrap (shrI .i64 x 16)), (IntKind.u8.wrap (shrI .i64 x 8)), (IntKind.u8.wrap (shrI .i64 x 0))].map (encI .u8)).toArray [.int .u8 (IntKind.u8.wrap (shrI .i64 x 32)), .int .u8 (IntKind.u8.wrap (shrI .i64 x 24)), .int .u8 (IntKind.u8.wrap (shrI .i64 x 16)), .int .u8 (IntKind.u8.wrap (shrI .i64 x 8)), .int .u8 (IntKind.u8.wrap (shrI .i64 x 0))] (by kernel_rfl) (PEnd.wk (v1 := ls 1 false (encI .u8) [(IntKind.u8.wrap (shrI .i64 x 32)), (IntKind.u8.wrap (shrI .i64 x 24)), (IntKind.u8.wrap (shrI .i64 x 16)), (IntKind.u8.wrap (shrI .i64 x 8)), (IntKind.u8.wrap (shrI .i64 x 0))]) (.list 1 false) (by kernel_rfl) (PEnd.fin (by kernel_rfl))))
  rw [if_pos hb] at h
  refine HO.fin' 7 ?_
  refine H.cS' (!decide ((shrI .i64 x 39) = (-1))) (fun hb => ?_) (fun hb => ?_)
  rotate_left
  · rw [if_neg (ne_true hb)] at h
    refine H.ext' 0 ?_
    refine Kseq_exit ?_
    refine Kloop_exit ?_
    refine Kblock_hit ?_
    refine Kseq_norm ?_
    refine H.sr' 3 ?_
    refine H.seq' ?_
    refine H.sr' 3 ?_
    refine H.blk' 2 ?_
    refine H.lop' ?_
    refine HL.round ?_
    refine H.sr' 1 ?_
    refine H.seq' ?_
    refine H.cT' ?_
    refine H.skp' ?_
    refine Kseq_norm ?_
    refine H.seq' ?_
    refine H.blk' 3 ?_
    refine H.sr' 2 ?_
    refine H.reg' ?_
    refine HO.go' 12 ?_
    refine HO.end' ?_
    refine Kblock_norm ?_
    refine Kseq_norm ?_
    refine H.reg' ?_
    refine HO.go' 2 ?_
    refine HO.end' ?_
    refine Kloop_norm ?_
    refine HL.round ?_
    refine H.sr' 1 ?_
    refine H.seq' ?_
    refine H.cT' ?_
    refine H.skp' ?_
    refine Kseq_norm ?_
    refine H.seq' ?_
    refine H.blk' 3 ?_
    refine H.sr' 2 ?_
    refine H.reg' ?_
    refine HO.go' 12 ?_
    refine HO.end' ?_
    refine Kblock_norm ?_
    refine Kseq_norm ?_
    refine H.reg' ?_
    refine HO.go' 2 ?_
    refine HO.end' ?_
    refine Kloop_norm ?_
    refine HL.round ?_
    refine H.sr' 1 ?_
    refine H.seq' ?_
    refine H.cT' ?_
    refine H.skp' ?_
    refine Kseq_norm ?_
    refine H.seq' ?_
    refine H.blk' 3 ?_
    refine H.sr' 2 ?_
    refine H.reg' ?_
    refine HO.go' 12 ?_
    refine HO.end' ?_
    refine Kblock_norm ?_
    refine Kseq_norm ?_
    refine H.reg' ?_
    refine HO.go' 2 ?_
    refine HO.end' ?_
    refine Kloop_norm ?_
    refine HL.round ?_
    refine H.sr' 1 ?_
    refine H.seq' ?_
    refine H.cT' ?_
    refine H.skp' ?_
    refine Kseq_norm ?_
    refine H.seq' ?_
    refine H.blk' 3 ?_
    refine H.sr' 2 ?_
    refine H.reg' ?_
    refine HO.go' 12 ?_
    refine HO.end' ?_
    refine Kblock_norm ?_
    refine Kseq_norm ?_
    refine H.reg' ?_
    refine HO.go' 2 ?_
    refine HO.end' ?_
    refine Kloop_norm ?_
    refine HL.round ?_
    refine H.sr' 1 ?_
    refine H.seq' ?_
    refine H.cT' ?_
    refine H.skp' ?_
    refine Kseq_norm ?_
    refine H.seq' ?_
    refine H.blk' 3 ?_
    refine H.sr' 2 ?_
    refine H.reg' ?_
    refine HO.go' 12 ?_
    refine HO.end' ?_
    refine Kblock_norm ?_
    refine Kseq_norm ?_
    refine H.reg' ?_
    refine HO.go' 2 ?_
    refine HO.end' ?_
    refine Kloop_norm ?_
    refine HL.round ?_
    refine H.sr' 1 ?_
    refine H.seq' ?_
    refine H.cF' ?_
    refine H.ext' 2 ?_
    refine Kseq_exit ?_
    refine Kloop_exit ?_
    refine Kblock_hit ?_
    refine Kseq_norm ?_
    refine H.sr' 2 ?_
    refine H.ret' ?_
    obtain rfl := Option.some.inj h
    exact KEnd.of (v := .slice (some ⟨0, 0, none⟩) 5 5) (by kernel_rfl) (by kernel_rfl) (PEnd.frz 0 5 5 1 5 true ([(IntKind.u8.wrap (shrI .i64 x 32)), (IntKind.u8.wrap (shrI .i64 x 24)), (IntKind.u8.wrap (shrI .i64 x 16)), (IntKind.u8.wrap (shrI .i64 x 8)), (IntKind.u8.wrap (shrI .i64 x 0))].map (encI .u8)).toArray [.int .u8 (IntKind.u8.wrap (shrI .i64 x 32)), .int .u8 (IntKind.u8.wrap (shrI .i64 x 24)), .int .u8 (IntKind.u8.wrap (shrI .i64 x 16)), .int .u8 (IntKind.u8.wrap (shrI .i64 x 8)), .int .u8 (IntKind.u8.wrap (shrI .i64 x 0))] (by kernel_rfl) (PEnd.wk (v1 := ls 1 false (encI .u8) [(IntKind.u8.wrap (shrI .i64 x 32)), (IntKind.u8.wrap (shrI .i64 x 24)), (IntKind.u8.wrap (shrI .i64 x 16)), (IntKind.u8.wrap (shrI .i64 x 8)), (IntKind.u8.wrap (shrI .i64 x 0))]) (.list 1 false) (by kernel_rfl) (PEnd.fin (by kernel_rfl))))
  rw [if_pos hb] at h
  refine H.skp' ?_
  refine Kseq_norm ?_
  refine H.blk' 1 ?_
  refine H.reg' ?_
  refine HO.go' 3 ?_
  refine HO.end' ?_
  refine Kblock_norm ?_
  refine Kloop_norm ?_
  refine HL.round ?_
  refine H.seq' ?_
  refine H.sg' ?_
  refine HO.go' 10 ?_
  refine HO.bo' (!decide ((shrI .i64 x 47) = 0)) (fun hb => ?_) (fun hb => ?_)
  rotate_left
  · rw [if_neg (ne_true hb)] at h
    refine HO.fin' 7 ?_
    refine H.cF' ?_
    refine H.ext' 0 ?_
    refine Kseq_exit ?_
    refine Kloop_exit ?_
    refine Kblock_hit ?_
    refine Kseq_norm ?_
    refine H.sr' 3 ?_
    refine H.seq' ?_
    refine H.sr' 3 ?_
    refine H.blk' 2 ?_
    refine H.lop' ?_
    refine HL.round ?_
    refine H.sr' 1 ?_
    refine H.seq' ?_
    refine H.cT' ?_
    refine H.skp' ?_
    refine Kseq_norm ?_
    refine H.seq' ?_
    refine H.blk' 3 ?_
    refine H.sr' 2 ?_
    refine H.reg' ?_
    refine HO.go' 12 ?_
    refine HO.end' ?_
    refine Kblock_norm ?_
    refine Kseq_norm ?_
    refine H.reg' ?_
    refine HO.go' 2 ?_
    refine HO.end' ?_
    refine Kloop_norm ?_
    refine HL.round ?_
    refine H.sr' 1 ?_
    refine H.seq' ?_
    refine H.cT' ?_
    refine H.skp' ?_
    refine Kseq_norm ?_
    refine H.seq' ?_
    refine H.blk' 3 ?_
    refine H.sr' 2 ?_
    refine H.reg' ?_
    refine HO.go' 12 ?_
    refine HO.end' ?_
    refine Kblock_norm ?_
    refine Kseq_norm ?_
    refine H.reg' ?_
    refine HO.go' 2 ?_
    refine HO.end' ?_
    refine Kloop_norm ?_
    refine HL.round ?_
    refine H.sr' 1 ?_
    refine H.seq' ?_
    refine H.cT' ?_
    refine H.skp' ?_
    refine Kseq_norm ?_
    refine H.seq' ?_
    refine H.blk' 3 ?_
    refine H.sr' 2 ?_
    refine H.reg' ?_
    refine HO.go' 12 ?_
    refine HO.end' ?_
    refine Kblock_norm ?_
    refine Kseq_norm ?_
    refine H.reg' ?_
    refine HO.go' 2 ?_
    refine HO.end' ?_
    refine Kloop_norm ?_
    refine HL.round ?_
    refine H.sr' 1 ?_
    refine H.seq' ?_
    refine H.cT' ?_
    refine H.skp' ?_
    refine Kseq_norm ?_
    refine H.seq' ?_
    refine H.blk' 3 ?_
    refine H.sr' 2 ?_
    refine H.reg' ?_
    refine HO.go' 12 ?_
    refine HO.end' ?_
    refine Kblock_norm ?_
    refine Kseq_norm ?_
    refine H.reg' ?_
    refine HO.go' 2 ?_
    refine HO.end' ?_
    refine Kloop_norm ?_
    refine HL.round ?_
    refine H.sr' 1 ?_
    refine H.seq' ?_
    refine H.cT' ?_
    refine H.skp' ?_
    refine Kseq_norm ?_
    refine H.seq' ?_
    refine H.blk' 3 ?_
    refine H.sr' 2 ?_
    refine H.reg' ?_
    refine HO.go' 12 ?_
    refine HO.end' ?_
    refine Kblock_norm ?_
    refine Kseq_norm ?_
    refine H.reg' ?_
    refine HO.go' 2 ?_
    refine HO.end' ?_
    refine Kloop_norm ?_
    refine HL.round ?_
    refine H.sr' 1 ?_
    refine H.seq' ?_
    refine H.cT' ?_
    refine H.skp' ?_
    refine Kseq_norm ?_
    refine H.seq' ?_
    refine H.blk' 3 ?_
    refine H.sr' 2 ?_
    refine H.reg' ?_
    refine HO.go' 12 ?_
    refine HO.end' ?_
    refine Kblock_norm ?_
    refine Kseq_norm ?_
    refine H.reg' ?_
    refine HO.go' 2 ?_
    refine HO.end' ?_
    refine Kloop_norm ?_
    refine HL.round ?_
    refine H.sr' 1 ?_
    refine H.seq' ?_
    refine H.cF' ?_
    refine H.ext' 2 ?_
    refine Kseq_exit ?_
    refine Kloop_exit ?_
    refine Kblock_hit ?_
    refine Kseq_norm ?_
    refine H.sr' 2 ?_
    refine H.ret' ?_
    obtain rfl := Option.some.inj h
    exact KEnd.of (v := .slice (some ⟨0, 0, none⟩) 6 6) (by kernel_rfl) (by kernel_rfl) (PEnd.frz 0 6 6 1 5 true ([(IntKind.u8.wrap (shrI .i64 x 40)), (IntKind.u8.wrap (shrI .i64 x 32)), (IntKind.u8.wrap (shrI .i64 x 24)), (IntKind.u8.wrap (shrI .i64 x 16)), (IntKind.u8.wrap (shrI .i64 x 8)), (IntKind.u8.wrap (shrI .i64 x 0))].map (encI .u8)).toArray [.int .u8 (IntKind.u8.wrap (shrI .i64 x 40)), .int .u8 (IntKind.u8.wrap (shrI .i64 x 32)), .int .u8 (IntKind.u8.wrap (shrI .i64 x 24)), .int .u8 (IntKind.u8.wrap (shrI .i64 x 16)), .int .u8 (IntKind.u8.wrap (shrI .i64 x 8)), .int .u8 (IntKind.u8.wrap (shrI .i64 x 0))] (by kernel_rfl) (PEnd.wk (v1 := ls 1 false (encI .u8) [(IntKind.u8.wrap (shrI .i64 x 40)), (IntKind.u8.wrap (shrI .i64 x 32)), (IntKind.u8.wrap (shrI .i64 x 24)), (IntKind.u8.wrap (shrI .i64 x 16)), (IntKind.u8.wrap (shrI .i64 x 8)), (IntKind.u8.wrap (shrI .i64 x 0))]) (.list 1 false) (by kernel_rfl) (PEnd.fin (by kernel_rfl))))
  rw [if_pos hb] at h
  refine HO.fin' 7 ?_
  refine H.cS' (!decide ((shrI .i64 x 47) = (-1))) (fun hb => ?_) (fun hb => ?_)
  rotate_left
  · rw [if_neg (ne_true hb)] at h
    refine H.ext' 0 ?_
    refine Kseq_exit ?_
    refine Kloop_exit ?_
    refine Kblock_hit ?_
    refine Kseq_norm ?_
    refine H.sr' 3 ?_
    refine H.seq' ?_
    refine H.sr' 3 ?_
    refine H.blk' 2 ?_
    refine H.lop' ?_
    refine HL.round ?_
    refine H.sr' 1 ?_
    refine H.seq' ?_
    refine H.cT' ?_
    refine H.skp' ?_
    refine Kseq_norm ?_
    refine H.seq' ?_
    refine H.blk' 3 ?_
    refine H.sr' 2 ?_
    refine H.reg' ?_
    refine HO.go' 12 ?_
    refine HO.end' ?_
    refine Kblock_norm ?_
    refine Kseq_norm ?_
    refine H.reg' ?_
    refine HO.go' 2 ?_
    refine HO.end' ?_
    refine Kloop_norm ?_
    refine HL.round ?_
    refine H.sr' 1 ?_
    refine H.seq' ?_
    refine H.cT' ?_
    refine H.skp' ?_
    refine Kseq_norm ?_
    refine H.seq' ?_
    refine H.blk' 3 ?_
    refine H.sr' 2 ?_
    refine H.reg' ?_
    refine HO.go' 12 ?_
    refine HO.end' ?_
    refine Kblock_norm ?_
    refine Kseq_norm ?_
    refine H.reg' ?_
    refine HO.go' 2 ?_
    refine HO.end' ?_
    refine Kloop_norm ?_
    refine HL.round ?_
    refine H.sr' 1 ?_
    refine H.seq' ?_
    refine H.cT' ?_
    refine H.skp' ?_
    refine Kseq_norm ?_
    refine H.seq' ?_
    refine H.blk' 3 ?_
    refine H.sr' 2 ?_
    refine H.reg' ?_
    refine HO.go' 12 ?_
    refine HO.end' ?_
    refine Kblock_norm ?_
    refine Kseq_norm ?_
    refine H.reg' ?_
    refine HO.go' 2 ?_
    refine HO.end' ?_
    refine Kloop_norm ?_
    refine HL.round ?_
    refine H.sr' 1 ?_
    refine H.seq' ?_
    refine H.cT' ?_
    refine H.skp' ?_
    refine Kseq_norm ?_
    refine H.seq' ?_
    refine H.blk' 3 ?_
    refine H.sr' 2 ?_
    refine H.reg' ?_
    refine HO.go' 12 ?_
    refine HO.end' ?_
    refine Kblock_norm ?_
    refine Kseq_norm ?_
    refine H.reg' ?_
    refine HO.go' 2 ?_
    refine HO.end' ?_
    refine Kloop_norm ?_
    refine HL.round ?_
    refine H.sr' 1 ?_
    refine H.seq' ?_
    refine H.cT' ?_
    refine H.skp' ?_
    refine Kseq_norm ?_
    refine H.seq' ?_
    refine H.blk' 3 ?_
    refine H.sr' 2 ?_
    refine H.reg' ?_
    refine HO.go' 12 ?_
    refine HO.end' ?_
    refine Kblock_norm ?_
    refine Kseq_norm ?_
    refine H.reg' ?_
    refine HO.go' 2 ?_
    refine HO.end' ?_
    refine Kloop_norm ?_
    refine HL.round ?_
    refine H.sr' 1 ?_
    refine H.seq' ?_
    refine H.cT' ?_
    refine H.skp' ?_
    refine Kseq_norm ?_
    refine H.seq' ?_
    refine H.blk' 3 ?_
    refine H.sr' 2 ?_
    refine H.reg' ?_
    refine HO.go' 12 ?_
    refine HO.end' ?_
    refine Kblock_norm ?_
    refine Kseq_norm ?_
    refine H.reg' ?_
    refine HO.go' 2 ?_
    refine HO.end' ?_
    refine Kloop_norm ?_
    refine HL.round ?_
    refine H.sr' 1 ?_
    refine H.seq' ?_
    refine H.cF' ?_
    refine H.ext' 2 ?_
    refine Kseq_exit ?_
    refine Kloop_exit ?_
    refine Kblock_hit ?_
    refine Kseq_norm ?_
    refine H.sr' 2 ?_
    refine H.ret' ?_
    obtain rfl := Option.some.inj h
    exact KEnd.of (v := .slice (some ⟨0, 0, none⟩) 6 6) (by kernel_rfl) (by kernel_rfl) (PEnd.frz 0 6 6 1 5 true ([(IntKind.u8.wrap (shrI .i64 x 40)), (IntKind.u8.wrap (shrI .i64 x 32)), (IntKind.u8.wrap (shrI .i64 x 24)), (IntKind.u8.wrap (shrI .i64 x 16)), (IntKind.u8.wrap (shrI .i64 x 8)), (IntKind.u8.wrap (shrI .i64 x 0))].map (encI .u8)).toArray [.int .u8 (IntKind.u8.wrap (shrI .i64 x 40)), .int .u8 (IntKind.u8.wrap (shrI .i64 x 32)), .int .u8 (IntKind.u8.wrap (shrI .i64 x 24)), .int .u8 (IntKind.u8.wrap (shrI .i64 x 16)), .int .u8 (IntKind.u8.wrap (shrI .i64 x 8)), .int .u8 (IntKind.u8.wrap (shrI .i64 x 0))] (by kernel_rfl) (PEnd.wk (v1 := ls 1 false (encI .u8) [(IntKind.u8.wrap (shrI .i64 x 40)), (IntKind.u8.wrap (shrI .i64 x 32)), (IntKind.u8.wrap (shrI .i64 x 24)), (IntKind.u8.wrap (shrI .i64 x 16)), (IntKind.u8.wrap (shrI .i64 x 8)), (IntKind.u8.wrap (shrI .i64 x 0))]) (.list 1 false) (by kernel_rfl) (PEnd.fin (by kernel_rfl))))
  rw [if_pos hb] at h
  refine H.skp' ?_
  refine Kseq_norm ?_
  refine H.blk' 1 ?_
  refine H.reg' ?_
  refine HO.go' 3 ?_
  refine HO.end' ?_
  refine Kblock_norm ?_
  refine Kloop_norm ?_
  refine HL.round ?_
  refine H.seq' ?_
  refine H.sg' ?_
  refine HO.go' 10 ?_
  refine HO.bo' (!decide ((shrI .i64 x 55) = 0)) (fun hb => ?_) (fun hb => ?_)
  rotate_left
  · rw [if_neg (ne_true hb)] at h
    refine HO.fin' 7 ?_
    refine H.cF' ?_
    refine H.ext' 0 ?_
    refine Kseq_exit ?_
    refine Kloop_exit ?_
    refine Kblock_hit ?_
    refine Kseq_norm ?_
    refine H.sr' 3 ?_
    refine H.seq' ?_
    refine H.sr' 3 ?_
    refine H.blk' 2 ?_
    refine H.lop' ?_
    refine HL.round ?_
    refine H.sr' 1 ?_
    refine H.seq' ?_
    refine H.cT' ?_
    refine H.skp' ?_
    refine Kseq_norm ?_
    refine H.seq' ?_
    refine H.blk' 3 ?_
    refine H.sr' 2 ?_
    refine H.reg' ?_
    refine HO.go' 12 ?_
    refine HO.end' ?_
    refine Kblock_norm ?_
    refine Kseq_norm ?_
    refine H.reg' ?_
    refine HO.go' 2 ?_
    refine HO.end' ?_
    refine Kloop_norm ?_
    refine HL.round ?_
    refine H.sr' 1 ?_
    refine H.seq' ?_
    refine H.cT' ?_
    refine H.skp' ?_
    refine Kseq_norm ?_
    refine H.seq' ?_
    refine H.blk' 3 ?_
    refine H.sr' 2 ?_
    refine H.reg' ?_
    refine HO.go' 12 ?_
    refine HO.end' ?_
    refine Kblock_norm ?_
    refine Kseq_norm ?_
    refine H.reg' ?_
    refine HO.go' 2 ?_
    refine HO.end' ?_
    refine Kloop_norm ?_
    refine HL.round ?_
    refine H.sr' 1 ?_
    refine H.seq' ?_
    refine H.cT' ?_
    refine H.skp' ?_
    refine Kseq_norm ?_
    refine H.seq' ?_
    refine H.blk' 3 ?_
    refine H.sr' 2 ?_
    refine H.reg' ?_
    refine HO.go' 12 ?_
    refine HO.end' ?_
    refine Kblock_norm ?_
    refine Kseq_norm ?_
    refine H.reg' ?_
    refine HO.go' 2 ?_
    refine HO.end' ?_
    refine Kloop_norm ?_
    refine HL.round ?_
    refine H.sr' 1 ?_
    refine H.seq' ?_
    refine H.cT' ?_
    refine H.skp' ?_
    refine Kseq_norm ?_
    refine H.seq' ?_
    refine H.blk' 3 ?_
    refine H.sr' 2 ?_
    refine H.reg' ?_
    refine HO.go' 12 ?_
    refine HO.end' ?_
    refine Kblock_norm ?_
    refine Kseq_norm ?_
    refine H.reg' ?_
    refine HO.go' 2 ?_
    refine HO.end' ?_
    refine Kloop_norm ?_
    refine HL.round ?_
    refine H.sr' 1 ?_
    refine H.seq' ?_
    refine H.cT' ?_
    refine H.skp' ?_
    refine Kseq_norm ?_
    refine H.seq' ?_
    refine H.blk' 3 ?_
    refine H.sr' 2 ?_
    refine H.reg' ?_
    refine HO.go' 12 ?_
    refine HO.end' ?_
    refine Kblock_norm ?_
    refine Kseq_norm ?_
    refine H.reg' ?_
    refine HO.go' 2 ?_
    refine HO.end' ?_
    refine Kloop_norm ?_
    refine HL.round ?_
    refine H.sr' 1 ?_
    refine H.seq' ?_
    refine H.cT' ?_
    refine H.skp' ?_
    refine Kseq_norm ?_
    refine H.seq' ?_
    refine H.blk' 3 ?_
    refine H.sr' 2 ?_
    refine H.reg' ?_
    refine HO.go' 12 ?_
    refine HO.end' ?_
    refine Kblock_norm ?_
    refine Kseq_norm ?_
    refine H.reg' ?_
    refine HO.go' 2 ?_
    refine HO.end' ?_
    refine Kloop_norm ?_
    refine HL.round ?_
    refine H.sr' 1 ?_
    refine H.seq' ?_
    refine H.cT' ?_
    refine H.skp' ?_
    refine Kseq_norm ?_
    refine H.seq' ?_
    refine H.blk' 3 ?_
    refine H.sr' 2 ?_
    refine H.reg' ?_
    refine HO.go' 12 ?_
    refine HO.end' ?_
    refine Kblock_norm ?_
    refine Kseq_norm ?_
    refine H.reg' ?_
    refine HO.go' 2 ?_
    refine HO.end' ?_
    refine Kloop_norm ?_
    refine HL.round ?_
    refine H.sr' 1 ?_
    refine H.seq' ?_
    refine H.cF' ?_
    refine H.ext' 2 ?_
    refine Kseq_exit ?_
    refine Kloop_exit ?_
    refine Kblock_hit ?_
    refine Kseq_norm ?_
    refine H.sr' 2 ?_
    refine H.ret' ?_
    obtain rfl := Option.some.inj h
    exact KEnd.of (v := .slice (some ⟨0, 0, none⟩) 7 7) (by kernel_rfl) (by kernel_rfl) (PEnd.frz 0 7 7 1 5 true ([(IntKind.u8.wrap (shrI .i64 x 48)), (IntKind.u8.wrap (shrI .i64 x 40)), (IntKind.u8.wrap (shrI .i64 x 32)), (IntKind.u8.wrap (shrI .i64 x 24)), (IntKind.u8.wrap (shrI .i64 x 16)), (IntKind.u8.wrap (shrI .i64 x 8)), (IntKind.u8.wrap (shrI .i64 x 0))].map (encI .u8)).toArray [.int .u8 (IntKind.u8.wrap (shrI .i64 x 48)), .int .u8 (IntKind.u8.wrap (shrI .i64 x 40)), .int .u8 (IntKind.u8.wrap (shrI .i64 x 32)), .int .u8 (IntKind.u8.wrap (shrI .i64 x 24)), .int .u8 (IntKind.u8.wrap (shrI .i64 x 16)), .int .u8 (IntKind.u8.wrap (shrI .i64 x 8)), .int .u8 (IntKind.u8.wrap (shrI .i64 x 0))] (by kernel_rfl) (PEnd.wk (v1 := ls 1 false (encI .u8) [(IntKind.u8.wrap (shrI .i64 x 48)), (IntKind.u8.wrap (shrI .i64 x 40)), (IntKind.u8.wrap (shrI .i64 x 32)), (IntKind.u8.wrap (shrI .i64 x 24)), (IntKind.u8.wrap (shrI .i64 x 16)), (IntKind.u8.wrap (shrI .i64 x 8)), (IntKind.u8.wrap (shrI .i64 x 0))]) (.list 1 false) (by kernel_rfl) (PEnd.fin (by kernel_rfl))))
  rw [if_pos hb] at h
  refine HO.fin' 7 ?_
  refine H.cS' (!decide ((shrI .i64 x 55) = (-1))) (fun hb => ?_) (fun hb => ?_)
  rotate_left
  · rw [if_neg (ne_true hb)] at h
    refine H.ext' 0 ?_
    refine Kseq_exit ?_
    refine Kloop_exit ?_
    refine Kblock_hit ?_
    refine Kseq_norm ?_
    refine H.sr' 3 ?_
    refine H.seq' ?_
    refine H.sr' 3 ?_
    refine H.blk' 2 ?_
    refine H.lop' ?_
    refine HL.round ?_
    refine H.sr' 1 ?_
    refine H.seq' ?_
    refine H.cT' ?_
    refine H.skp' ?_
    refine Kseq_norm ?_
    refine H.seq' ?_
    refine H.blk' 3 ?_
    refine H.sr' 2 ?_
    refine H.reg' ?_
    refine HO.go' 12 ?_
    refine HO.end' ?_
    refine Kblock_norm ?_
    refine Kseq_norm ?_
    refine H.reg' ?_
    refine HO.go' 2 ?_
    refine HO.end' ?_
    refine Kloop_norm ?_
    refine HL.round ?_
    refine H.sr' 1 ?_
    refine H.seq' ?_
    refine H.cT' ?_
    refine H.skp' ?_
    refine Kseq_norm ?_
    refine H.seq' ?_
    refine H.blk' 3 ?_
    refine H.sr' 2 ?_
    refine H.reg' ?_
    refine HO.go' 12 ?_
    refine HO.end' ?_
    refine Kblock_norm ?_
    refine Kseq_norm ?_
    refine H.reg' ?_
    refine HO.go' 2 ?_
    refine HO.end' ?_
    refine Kloop_norm ?_
    refine HL.round ?_
    refine H.sr' 1 ?_
    refine H.seq' ?_
    refine H.cT' ?_
    refine H.skp' ?_
    refine Kseq_norm ?_
    refine H.seq' ?_
    refine H.blk' 3 ?_
    refine H.sr' 2 ?_
    refine H.reg' ?_
    refine HO.go' 12 ?_
    refine HO.end' ?_
    refine Kblock_norm ?_
    refine Kseq_norm ?_
    refine H.reg' ?_
    refine HO.go' 2 ?_
    refine HO.end' ?_
    refine Kloop_norm ?_
    refine HL.round ?_
    refine H.sr' 1 ?_
    refine H.seq' ?_
    refine H.cT' ?_
    refine H.skp' ?_
    refine Kseq_norm ?_
    refine H.seq' ?_
    refine H.blk' 3 ?_
    refine H.sr' 2 ?_
    refine H.reg' ?_
    refine HO.go' 12 ?_
    refine HO.end' ?_
    refine Kblock_norm ?_
    refine Kseq_norm ?_
    refine H.reg' ?_
    refine HO.go' 2 ?_
    refine HO.end' ?_
    refine Kloop_norm ?_
    refine HL.round ?_
    refine H.sr' 1 ?_
    refine H.seq' ?_
    refine H.cT' ?_
    refine H.skp' ?_
    refine Kseq_norm ?_
    refine H.seq' ?_
    refine H.blk' 3 ?_
    refine H.sr' 2 ?_
    refine H.reg' ?_
    refine HO.go' 12 ?_
    refine HO.end' ?_
    refine Kblock_norm ?_
    refine Kseq_norm ?_
    refine H.reg' ?_
    refine HO.go' 2 ?_
    refine HO.end' ?_
    refine Kloop_norm ?_
    refine HL.round ?_
    refine H.sr' 1 ?_
    refine H.seq' ?_
    refine H.cT' ?_
    refine H.skp' ?_
    refine Kseq_norm ?_
    refine H.seq' ?_
    refine H.blk' 3 ?_
    refine H.sr' 2 ?_
    refine H.reg' ?_
    refine HO.go' 12 ?_
    refine HO.end' ?_
    refine Kblock_norm ?_
    refine Kseq_norm ?_
    refine H.reg' ?_
    refine HO.go' 2 ?_
    refine HO.end' ?_
    refine Kloop_norm ?_
    refine HL.round ?_
    refine H.sr' 1 ?_
    refine H.seq' ?_
    refine H.cT' ?_
    refine H.skp' ?_
    refine Kseq_norm ?_
    refine H.seq' ?_
    refine H.blk' 3 ?_
    refine H.sr' 2 ?_
    refine H.reg' ?_
    refine HO.go' 12 ?_
    refine HO.end' ?_
    refine Kblock_norm ?_
    refine Kseq_norm ?_
    refine H.reg' ?_
    refine HO.go' 2 ?_
    refine HO.end' ?_
    refine Kloop_norm ?_
    refine HL.round ?_
    refine H.sr' 1 ?_
    refine H.seq' ?_
    refine H.cF' ?_
    refine H.ext' 2 ?_
    refine Kseq_exit ?_
    refine Kloop_exit ?_
    refine Kblock_hit ?_
    refine Kseq_norm ?_
    refine H.sr' 2 ?_
    refine H.ret' ?_
    obtain rfl := Option.some.inj h
    exact KEnd.of (v := .slice (some ⟨0, 0, none⟩) 7 7) (by kernel_rfl) (by kernel_rfl) (PEnd.frz 0 7 7 1 5 true ([(IntKind.u8.wrap (shrI .i64 x 48)), (IntKind.u8.wrap (shrI .i64 x 40)), (IntKind.u8.wrap (shrI .i64 x 32)), (IntKind.u8.wrap (shrI .i64 x 24)), (IntKind.u8.wrap (shrI .i64 x 16)), (IntKind.u8.wrap (shrI .i64 x 8)), (IntKind.u8.wrap (shrI .i64 x 0))].map (encI .u8)).toArray [.int .u8 (IntKind.u8.wrap (shrI .i64 x 48)), .int .u8 (IntKind.u8.wrap (shrI .i64 x 40)), .int .u8 (IntKind.u8.wrap (shrI .i64 x 32)), .int .u8 (IntKind.u8.wrap (shrI .i64 x 24)), .int .u8 (IntKind.u8.wrap (shrI .i64 x 16)), .int .u8 (IntKind.u8.wrap (shrI .i64 x 8)), .int .u8 (IntKind.u8.wrap (shrI .i64 x 0))] (by kernel_rfl) (PEnd.wk (v1 := ls 1 false (encI .u8) [(IntKind.u8.wrap (shrI .i64 x 48)), (IntKind.u8.wrap (shrI .i64 x 40)), (IntKind.u8.wrap (shrI .i64 x 32)), (IntKind.u8.wrap (shrI .i64 x 24)), (IntKind.u8.wrap (shrI .i64 x 16)), (IntKind.u8.wrap (shrI .i64 x 8)), (IntKind.u8.wrap (shrI .i64 x 0))]) (.list 1 false) (by kernel_rfl) (PEnd.fin (by kernel_rfl))))
  rw [if_pos hb] at h
  refine H.skp' ?_
  refine Kseq_norm ?_
  refine H.blk' 1 ?_
  refine H.reg' ?_
  refine HO.go' 3 ?_
  refine HO.end' ?_
  refine Kblock_norm ?_
  refine Kloop_norm ?_
  refine HL.round ?_
  refine H.seq' ?_
  refine H.sr' 18 ?_
  refine H.cF' ?_
  refine H.ext' 0 ?_
  refine Kseq_exit ?_
  refine Kloop_exit ?_
  refine Kblock_hit ?_
  refine Kseq_norm ?_
  refine H.sr' 3 ?_
  refine H.seq' ?_
  refine H.sr' 3 ?_
  refine H.blk' 2 ?_
  refine H.lop' ?_
  refine HL.round ?_
  refine H.sr' 1 ?_
  refine H.seq' ?_
  refine H.cT' ?_
  refine H.skp' ?_
  refine Kseq_norm ?_
  refine H.seq' ?_
  refine H.blk' 3 ?_
  refine H.sr' 2 ?_
  refine H.reg' ?_
  refine HO.go' 12 ?_
  refine HO.end' ?_
  refine Kblock_norm ?_
  refine Kseq_norm ?_
  refine H.reg' ?_
  refine HO.go' 2 ?_
  refine HO.end' ?_
  refine Kloop_norm ?_
  refine HL.round ?_
  refine H.sr' 1 ?_
  refine H.seq' ?_
  refine H.cT' ?_
  refine H.skp' ?_
  refine Kseq_norm ?_
  refine H.seq' ?_
  refine H.blk' 3 ?_
  refine H.sr' 2 ?_
  refine H.reg' ?_
  refine HO.go' 12 ?_
  refine HO.end' ?_
  refine Kblock_norm ?_
  refine Kseq_norm ?_
  refine H.reg' ?_
  refine HO.go' 2 ?_
  refine HO.end' ?_
  refine Kloop_norm ?_
  refine HL.round ?_
  refine H.sr' 1 ?_
  refine H.seq' ?_
  refine H.cT' ?_
  refine H.skp' ?_
  refine Kseq_norm ?_
  refine H.seq' ?_
  refine H.blk' 3 ?_
  refine H.sr' 2 ?_
  refine H.reg' ?_
  refine HO.go' 12 ?_
  refine HO.end' ?_
  refine Kblock_norm ?_
  refine Kseq_norm ?_
  refine H.reg' ?_
  refine HO.go' 2 ?_
  refine HO.end' ?_
  refine Kloop_norm ?_
  refine HL.round ?_
  refine H.sr' 1 ?_
  refine H.seq' ?_
  refine H.cT' ?_
  refine H.skp' ?_
  refine Kseq_norm ?_
  refine H.seq' ?_
  refine H.blk' 3 ?_
  refine H.sr' 2 ?_
  refine H.reg' ?_
  refine HO.go' 12 ?_
  refine HO.end' ?_
  refine Kblock_norm ?_
  refine Kseq_norm ?_
  refine H.reg' ?_
  refine HO.go' 2 ?_
  refine HO.end' ?_
  refine Kloop_norm ?_
  refine HL.round ?_
  refine H.sr' 1 ?_
  refine H.seq' ?_
  refine H.cT' ?_
  refine H.skp' ?_
  refine Kseq_norm ?_
  refine H.seq' ?_
  refine H.blk' 3 ?_
  refine H.sr' 2 ?_
  refine H.reg' ?_
  refine HO.go' 12 ?_
  refine HO.end' ?_
  refine Kblock_norm ?_
  refine Kseq_norm ?_
  refine H.reg' ?_
  refine HO.go' 2 ?_
  refine HO.end' ?_
  refine Kloop_norm ?_
  refine HL.round ?_
  refine H.sr' 1 ?_
  refine H.seq' ?_
  refine H.cT' ?_
  refine H.skp' ?_
  refine Kseq_norm ?_
  refine H.seq' ?_
  refine H.blk' 3 ?_
  refine H.sr' 2 ?_
  refine H.reg' ?_
  refine HO.go' 12 ?_
  refine HO.end' ?_
  refine Kblock_norm ?_
  refine Kseq_norm ?_
  refine H.reg' ?_
  refine HO.go' 2 ?_
  refine HO.end' ?_
  refine Kloop_norm ?_
  refine HL.round ?_
  refine H.sr' 1 ?_
  refine H.seq' ?_
  refine H.cT' ?_
  refine H.skp' ?_
  refine Kseq_norm ?_
  refine H.seq' ?_
  refine H.blk' 3 ?_
  refine H.sr' 2 ?_
  refine H.reg' ?_
  refine HO.go' 12 ?_
  refine HO.end' ?_
  refine Kblock_norm ?_
  refine Kseq_norm ?_
  refine H.reg' ?_
  refine HO.go' 2 ?_
  refine HO.end' ?_
  refine Kloop_norm ?_
  refine HL.round ?_
  refine H.sr' 1 ?_
  refine H.seq' ?_
  refine H.cT' ?_
  refine H.skp' ?_
  refine Kseq_norm ?_
  refine H.seq' ?_
  refine H.blk' 3 ?_
  refine H.sr' 2 ?_
  refine H.reg' ?_
  refine HO.go' 12 ?_
  refine HO.end' ?_
  refine Kblock_norm ?_
  refine Kseq_norm ?_
  refine H.reg' ?_
  refine HO.go' 2 ?_
  refine HO.end' ?_
  refine Kloop_norm ?_
  refine HL.round ?_
  refine H.sr' 1 ?_
  refine H.seq' ?_
  refine H.cF' ?_
  refine H.ext' 2 ?_
  refine Kseq_exit ?_
  refine Kloop_exit ?_
  refine Kblock_hit ?_
  refine Kseq_norm ?_
  refine H.sr' 2 ?_
  refine H.ret' ?_
  obtain rfl := Option.some.inj h
  exact KEnd.of (v := .slice (some ⟨0, 0, none⟩) 8 8) (by kernel_rfl) (by kernel_rfl) (PEnd.frz 0 8 8 1 5 true ([(IntKind.u8.wrap (shrI .i64 x 56)), (IntKind.u8.wrap (shrI .i64 x 48)), (IntKind.u8.wrap (shrI .i64 x 40)), (IntKind.u8.wrap (shrI .i64 x 32)), (IntKind.u8.wrap (shrI .i64 x 24)), (IntKind.u8.wrap (shrI .i64 x 16)), (IntKind.u8.wrap (shrI .i64 x 8)), (IntKind.u8.wrap (shrI .i64 x 0))].map (encI .u8)).toArray [.int .u8 (IntKind.u8.wrap (shrI .i64 x 56)), .int .u8 (IntKind.u8.wrap (shrI .i64 x 48)), .int .u8 (IntKind.u8.wrap (shrI .i64 x 40)), .int .u8 (IntKind.u8.wrap (shrI .i64 x 32)), .int .u8 (IntKind.u8.wrap (shrI .i64 x 24)), .int .u8 (IntKind.u8.wrap (shrI .i64 x 16)), .int .u8 (IntKind.u8.wrap (shrI .i64 x 8)), .int .u8 (IntKind.u8.wrap (shrI .i64 x 0))] (by kernel_rfl) (PEnd.wk (v1 := ls 1 false (encI .u8) [(IntKind.u8.wrap (shrI .i64 x 56)), (IntKind.u8.wrap (shrI .i64 x 48)), (IntKind.u8.wrap (shrI .i64 x 40)), (IntKind.u8.wrap (shrI .i64 x 32)), (IntKind.u8.wrap (shrI .i64 x 24)), (IntKind.u8.wrap (shrI .i64 x 16)), (IntKind.u8.wrap (shrI .i64 x 8)), (IntKind.u8.wrap (shrI .i64 x 0))]) (.list 1 false) (by kernel_rfl) (PEnd.fin (by kernel_rfl))))
def lawPart (x : Int × Int × Int) : Option (Int × Int × Bool × (List Int) × (List S36)) :=
  (intC x.2.2) >>= fun y1 =>
  some (x.1, x.2.1, false, y1, [])
theorem lawPart_ok : ∀ (x : Int × Int × Int) (r : Int × Int × Bool × (List Int) × (List S36)), lawPart x = some r → ∀ W0 : World, PTo Tryd.prog W0 63 #[.int .u8 x.1, .int .u32 x.2.1, .int .i64 x.2.2] (.returned (.agg #[.int .u8 r.1, .int .u32 r.2.1, .bool r.2.2.1, ls 1 false (encI .u8) r.2.2.2.1, ls 5 false enc36 r.2.2.2.2])) := by
  intro x r h
  unfold lawPart at h
  intro W0
  refine PTo.of_body (fn := Tryd.f63) (code := cB Tryd.f63) Tryd.func63 rfl rfl ?_
  intro w0 S hS
  haveI := hS.noEx Tryd.prog
  refine H.sr' 1 ?_
  refine H.sg' ?_
  refine HO.go' 3 ?_
  obtain ⟨y1, hy, h⟩ := bindS h
  refine HO.callW hS [.keep] (intC_ok x.2.2 y1 hy W0) (by kernel_rfl) (by kernel_rfl) ?_
  refine HO.fin' 2 ?_
  refine H.ret' ?_
  obtain rfl := Option.some.inj h
  exact KEnd.retW (v := .agg #[.int .u8 x.1, .int .u32 x.2.1, .bool false, ls 1 false (encI .u8) y1, .slice none 0 0]) (.agg [.keep, .keep, .keep, .list 1 false, .list 5 false]) (by kernel_rfl) (by kernel_rfl) (by kernel_rfl) (by kernel_rfl)
mutual
def measure_L2 (x : Int × (List S36) × Int × Int × Int) : Option (Bool × Int) :=
  if x.2.2.2.1 < x.2.2.1 then
    (at' x.2.1 x.2.2.2.1) >>= fun y1 =>
    (measure (y1.c0, y1.c1, y1.c2, y1.c3, y1.c4, (IntKind.i64.wrap (x.1 + 1)), x.2.2.2.2)) >>= fun y2 =>
    if (!y2.1) = true then
      some (false, y2.2)
    else
      measure_L2 (x.1, x.2.1, x.2.2.1, (IntKind.i64.wrap (x.2.2.2.1 + 1)), y2.2)
  else
    some (true, x.2.2.2.2)
partial_fixpoint
def measure (x : Int × Int × Bool × (List Int) × (List S36) × Int × Int) : Option (Bool × Int) :=
  if 16 < x.2.2.2.2.2.1 then
    measure_L1 (x.2.2.2.2.2.1, true, (IntKind.i64.wrap (x.2.2.2.2.2.2 + 1)), x.1, x.2.1, x.2.2.1, x.2.2.2.1, x.2.2.2.2.1)
  else
    measure_L1 (x.2.2.2.2.2.1, (decide (1024 < (IntKind.i64.wrap (x.2.2.2.2.2.2 + 1)))), (IntKind.i64.wrap (x.2.2.2.2.2.2 + 1)), x.1, x.2.1, x.2.2.1, x.2.2.2.1, x.2.2.2.2.1)
partial_fixpoint
def measure_L1 (x : Int × Bool × Int × Int × Int × Bool × (List Int) × (List S36)) : Option (Bool × Int) :=
  if x.2.1 = true then
    some (false, x.2.2.1)
  else
    measure_L2 (x.1, x.2.2.2.2.2.2.2, (x.2.2.2.2.2.2.2.length : Int), 0, x.2.2.1)
partial_fixpoint
end
theorem measure_L2_grp : (∀ (x : Int × (List S36) × Int × Int × Int) (r : Bool × Int), measure_L2 x = some r → ∀ (W0 w0 : World) (S : Own), Std W0 w0 S 1 → HL Tryd.prog w0 S 36 (cL (cL (cR (cL (cR (cR (cR (cB Tryd.f53)))))))) (mkS [(1, .int .i64 x.1), (2, .pointer (some ⟨0, 0, none⟩)), (23, ls 5 false enc36 x.2.1), (24, .int .i64 x.2.2.1), (25, .int .i64 x.2.2.2.1)] [(0, .cells [.int .i64 x.2.2.2.2] 3 1)] 1 []) (Kblock 0 (Kseq Tryd.prog w0 S 36 (cR (cR (cR (cR (cB Tryd.f53))))) (KEnd Tryd.prog Tryd.f53 (FEnd w0 S (.returned (.bool r.1)) (mkW 1 [] [(0, .cells [.int .i64 r.2] 3 1)])))))) ∧
  (∀ (x : Int × Int × Bool × (List Int) × (List S36) × Int × Int) (r : Bool × Int), measure x = some r → ∀ W0 : World, FTo Tryd.prog W0 53 #[.agg #[.int .u8 x.1, .int .u32 x.2.1, .bool x.2.2.1, ls 1 false (encI .u8) x.2.2.2.1, ls 5 false enc36 x.2.2.2.2.1], .int .i64 x.2.2.2.2.2.1, .pointer (some ⟨0, 0, none⟩)] (mkW 1 [] [(0, .cells [.int .i64 x.2.2.2.2.2.2] 3 1)]) (.returned (.bool r.1)) (mkW 1 [] [(0, .cells [.int .i64 r.2] 3 1)])) ∧
  (∀ (x : Int × Bool × Int × Int × Int × Bool × (List Int) × (List S36)) (r : Bool × Int), measure_L1 x = some r → ∀ (W0 w0 : World) (S : Own), Std W0 w0 S 1 → H Tryd.prog w0 S 36 (cR (cL (cR (cR (cB Tryd.f53))))) (mkS [(1, .int .i64 x.1), (2, .pointer (some ⟨0, 0, none⟩)), (3, .pointer (some ⟨1, 0, none⟩)), (21, .bool x.2.1)] [(0, .cells [.int .i64 x.2.2.1] 3 1), (1, .cells [.int .u8 x.2.2.2.1, .int .u32 x.2.2.2.2.1, .bool x.2.2.2.2.2.1, ls 1 false (encI .u8) x.2.2.2.2.2.2.1, ls 5 false enc36 x.2.2.2.2.2.2.2] 36 5)] 2 []) (Kseq Tryd.prog w0 S 36 (cR (cR (cR (cB Tryd.f53)))) (KEnd Tryd.prog Tryd.f53 (FEnd w0 S (.returned (.bool r.1)) (mkW 1 [] [(0, .cells [.int .i64 r.2] 3 1)]))))) := by
  refine measure_L2.mutual_partial_correctness (fun (x : Int × (List S36) × Int × Int × Int) (r : Bool × Int) => ∀ (W0 w0 : World) (S : Own), Std W0 w0 S 1 → HL Tryd.prog w0 S 36 (cL (cL (cR (cL (cR (cR (cR (cB Tryd.f53)))))))) (mkS [(1, .int .i64 x.1), (2, .pointer (some ⟨0, 0, none⟩)), (23, ls 5 false enc36 x.2.1), (24, .int .i64 x.2.2.1), (25, .int .i64 x.2.2.2.1)] [(0, .cells [.int .i64 x.2.2.2.2] 3 1)] 1 []) (Kblock 0 (Kseq Tryd.prog w0 S 36 (cR (cR (cR (cR (cB Tryd.f53))))) (KEnd Tryd.prog Tryd.f53 (FEnd w0 S (.returned (.bool r.1)) (mkW 1 [] [(0, .cells [.int .i64 r.2] 3 1)])))))) (fun (x : Int × Int × Bool × (List Int) × (List S36) × Int × Int) (r : Bool × Int) => ∀ W0 : World, FTo Tryd.prog W0 53 #[.agg #[.int .u8 x.1, .int .u32 x.2.1, .bool x.2.2.1, ls 1 false (encI .u8) x.2.2.2.1, ls 5 false enc36 x.2.2.2.2.1], .int .i64 x.2.2.2.2.2.1, .pointer (some ⟨0, 0, none⟩)] (mkW 1 [] [(0, .cells [.int .i64 x.2.2.2.2.2.2] 3 1)]) (.returned (.bool r.1)) (mkW 1 [] [(0, .cells [.int .i64 r.2] 3 1)])) (fun (x : Int × Bool × Int × Int × Int × Bool × (List Int) × (List S36)) (r : Bool × Int) => ∀ (W0 w0 : World) (S : Own), Std W0 w0 S 1 → H Tryd.prog w0 S 36 (cR (cL (cR (cR (cB Tryd.f53))))) (mkS [(1, .int .i64 x.1), (2, .pointer (some ⟨0, 0, none⟩)), (3, .pointer (some ⟨1, 0, none⟩)), (21, .bool x.2.1)] [(0, .cells [.int .i64 x.2.2.1] 3 1), (1, .cells [.int .u8 x.2.2.2.1, .int .u32 x.2.2.2.2.1, .bool x.2.2.2.2.2.1, ls 1 false (encI .u8) x.2.2.2.2.2.2.1, ls 5 false enc36 x.2.2.2.2.2.2.2] 36 5)] 2 []) (Kseq Tryd.prog w0 S 36 (cR (cR (cR (cB Tryd.f53)))) (KEnd Tryd.prog Tryd.f53 (FEnd w0 S (.returned (.bool r.1)) (mkW 1 [] [(0, .cells [.int .i64 r.2] 3 1)]))))) ?_ ?_ ?_
  · intro g_measure_L2 g_measure ih_measure_L2 ih_measure x r h
    intro W0 w0 S hS
    haveI := hS.noEx Tryd.prog
    refine HL.round ?_
    refine H.sr' 1 ?_
    refine H.seq' ?_
    refine H.cS' (decide (x.2.2.2.1 < x.2.2.1)) (fun hb => ?_) (fun hb => ?_)
    rotate_left
    · rw [if_neg (of_decide_eq_false hb)] at h
      refine H.ext' 0 ?_
      refine Kseq_exit ?_
      refine Kloop_exit ?_
      refine Kblock_hit ?_
      refine Kseq_norm ?_
      refine H.sr' 1 ?_
      refine H.ret' ?_
      obtain rfl := Option.some.inj h
      exact KEnd.of (v := .bool true) (by kernel_rfl) (by kernel_rfl) (FEnd.ren hS [0] _ _ (by kernel_rfl))
    rw [if_pos (of_decide_eq_true hb)] at h
    refine H.skp' ?_
    refine Kseq_norm ?_
    refine H.seq' ?_
    refine H.blk' 1 ?_
    refine H.sg' ?_
    obtain ⟨y1, hy, h⟩ := bindS h
    refine HO.idx (.agg #[.int .u8 y1.c0, .int .u32 y1.c1, .bool y1.c2, ls 1 false (encI .u8) y1.c3, ls 5 false enc36 y1.c4]) hy (enc36_eq y1) (by kernel_rfl) ?_
    refine HO.fin' 3 ?_
    refine H.sg' ?_
    refine HO.go' 4 ?_
    obtain ⟨y2, hy, h⟩ := bindS h
    refine HO.callFW hS (.bool y2.1) 2 [] [(0, .cells [.int .i64 y2.2] 3 1), (1, .cells [.int .u8 y1.c0, .int .u32 y1.c1, .bool y1.c2, ls 1 false (encI .u8) y1.c3, ls 5 false enc36 y1.c4] 36 5)] [0] [.agg [.keep, .keep, .keep, .list 1 false, .list 5 false], .keep, .keep] (ih_measure (y1.c0, y1.c1, y1.c2, y1.c3, y1.c4, (IntKind.i64.wrap (x.1 + 1)), x.2.2.2.2) y2 hy W0) (by kernel_rfl) (by kernel_rfl) ?_
    refine HO.fin' 1 ?_
    refine H.cS' (!y2.1) (fun hb => ?_) (fun hb => ?_)
    rotate_left
    · rw [if_neg (ne_true hb)] at h
      refine H.skp' ?_
      refine Kblock_norm ?_
      refine Kseq_norm ?_
      refine H.reg' ?_
      refine HO.go' 2 ?_
      refine HO.end' ?_
      refine Kloop_norm ?_
      exact HL.ren' hS [0] (ih_measure_L2 (x.1, x.2.1, x.2.2.1, (IntKind.i64.wrap (x.2.2.2.1 + 1)), y2.2) r h W0 w0 S hS)
    rw [if_pos hb] at h
    refine H.sr' 1 ?_
    refine H.ret' ?_
    refine Kblock_ret ?_
    refine Kseq_ret ?_
    refine Kloop_ret ?_
    refine Kblock_ret ?_
    refine Kseq_ret ?_
    obtain rfl := Option.some.inj h
    exact KEnd.of (v := .bool false) (by kernel_rfl) (by kernel_rfl) (FEnd.ren hS [0] _ _ (by kernel_rfl))
  · intro g_measure_L1 ih_measure_L1 x r h
    intro W0
    refine FTo.of_body (fn := Tryd.f53) (code := cB Tryd.f53) Tryd.func53 rfl rfl ?_
    intro w0 S hS
    haveI := hS.noEx Tryd.prog
    refine H.sr' 2 ?_
    refine H.sr' 6 ?_
    refine H.seq' ?_
    refine H.sg' ?_
    refine HO.go' 2 ?_
    refine HO.bo' (decide (16 < x.2.2.2.2.2.1)) (fun hb => ?_) (fun hb => ?_)
    · rw [if_pos (of_decide_eq_true hb)] at h
      refine HO.fin' 5 ?_
      exact H.ren' hS [0, 1] (ih_measure_L1 (x.2.2.2.2.2.1, true, (IntKind.i64.wrap (x.2.2.2.2.2.2 + 1)), x.1, x.2.1, x.2.2.1, x.2.2.2.1, x.2.2.2.2.1) r h W0 w0 S hS)
    rw [if_neg (of_decide_eq_false hb)] at h
    refine HO.fin' 5 ?_
    exact H.ren' hS [0, 1] (ih_measure_L1 (x.2.2.2.2.2.1, (decide (1024 < (IntKind.i64.wrap (x.2.2.2.2.2.2 + 1)))), (IntKind.i64.wrap (x.2.2.2.2.2.2 + 1)), x.1, x.2.1, x.2.2.1, x.2.2.2.1, x.2.2.2.2.1) r h W0 w0 S hS)
  · intro g_measure_L2 ih_measure_L2 x r h
    intro W0 w0 S hS
    haveI := hS.noEx Tryd.prog
    refine H.cS' (x.2.1) (fun hb => ?_) (fun hb => ?_)
    · rw [if_pos hb] at h
      refine H.sr' 1 ?_
      refine H.ret' ?_
      refine Kseq_ret ?_
      obtain rfl := Option.some.inj h
      exact KEnd.of (v := .bool false) (by kernel_rfl) (by kernel_rfl) (FEnd.ren hS [0] _ _ (by kernel_rfl))
    rw [if_neg (ne_true hb)] at h
    refine H.skp' ?_
    refine Kseq_norm ?_
    refine H.seq' ?_
    refine H.sg' ?_
    refine HO.go' 2 ?_
    refine HO.len (by kernel_rfl) (by kernel_rfl) (ls_size enc36 x.2.2.2.2.2.2.2) ?_
    refine HO.fin' 1 ?_
    refine H.blk' 0 ?_
    refine H.lop' ?_
    exact HL.ren' hS [0] (ih_measure_L2 (x.1, x.2.2.2.2.2.2.2, (x.2.2.2.2.2.2.2.length : Int), 0, x.2.2.1) r h W0 w0 S hS)
theorem measure_L2_ok : ∀ (x : Int × (List S36) × Int × Int × Int) (r : Bool × Int), measure_L2 x = some r → ∀ (W0 w0 : World) (S : Own), Std W0 w0 S 1 → HL Tryd.prog w0 S 36 (cL (cL (cR (cL (cR (cR (cR (cB Tryd.f53)))))))) (mkS [(1, .int .i64 x.1), (2, .pointer (some ⟨0, 0, none⟩)), (23, ls 5 false enc36 x.2.1), (24, .int .i64 x.2.2.1), (25, .int .i64 x.2.2.2.1)] [(0, .cells [.int .i64 x.2.2.2.2] 3 1)] 1 []) (Kblock 0 (Kseq Tryd.prog w0 S 36 (cR (cR (cR (cR (cB Tryd.f53))))) (KEnd Tryd.prog Tryd.f53 (FEnd w0 S (.returned (.bool r.1)) (mkW 1 [] [(0, .cells [.int .i64 r.2] 3 1)]))))) := measure_L2_grp.1
theorem measure_ok : ∀ (x : Int × Int × Bool × (List Int) × (List S36) × Int × Int) (r : Bool × Int), measure x = some r → ∀ W0 : World, FTo Tryd.prog W0 53 #[.agg #[.int .u8 x.1, .int .u32 x.2.1, .bool x.2.2.1, ls 1 false (encI .u8) x.2.2.2.1, ls 5 false enc36 x.2.2.2.2.1], .int .i64 x.2.2.2.2.2.1, .pointer (some ⟨0, 0, none⟩)] (mkW 1 [] [(0, .cells [.int .i64 x.2.2.2.2.2.2] 3 1)]) (.returned (.bool r.1)) (mkW 1 [] [(0, .cells [.int .i64 r.2] 3 1)]) := measure_L2_grp.2.1
theorem measure_L1_ok : ∀ (x : Int × Bool × Int × Int × Int × Bool × (List Int) × (List S36)) (r : Bool × Int), measure_L1 x = some r → ∀ (W0 w0 : World) (S : Own), Std W0 w0 S 1 → H Tryd.prog w0 S 36 (cR (cL (cR (cR (cB Tryd.f53))))) (mkS [(1, .int .i64 x.1), (2, .pointer (some ⟨0, 0, none⟩)), (3, .pointer (some ⟨1, 0, none⟩)), (21, .bool x.2.1)] [(0, .cells [.int .i64 x.2.2.1] 3 1), (1, .cells [.int .u8 x.2.2.2.1, .int .u32 x.2.2.2.2.1, .bool x.2.2.2.2.2.1, ls 1 false (encI .u8) x.2.2.2.2.2.2.1, ls 5 false enc36 x.2.2.2.2.2.2.2] 36 5)] 2 []) (Kseq Tryd.prog w0 S 36 (cR (cR (cR (cB Tryd.f53)))) (KEnd Tryd.prog Tryd.f53 (FEnd w0 S (.returned (.bool r.1)) (mkW 1 [] [(0, .cells [.int .i64 r.2] 3 1)])))) := measure_L2_grp.2.2
mutual
def indexF_L1 (x : (List S36) × Int × Int) : Option (Int) :=
  if x.2.2 < x.2.1 then
    (at' x.1 x.2.2) >>= fun y1 =>
    (plainF (y1.c0, y1.c1, y1.c2, y1.c3, y1.c4)) >>= fun y2 =>
    if y2 = true then
      some x.2.2
    else
      indexF_L1 (x.1, x.2.1, (IntKind.i64.wrap (x.2.2 + 1)))
  else
    some (-1)
partial_fixpoint
def plainF (x : Int × Int × Bool × (List Int) × (List S36)) : Option (Bool) :=
  (plain (x.1, x.2.1, x.2.2.1, x.2.2.2.1, x.2.2.2.2)) >>= fun y1 =>
  some (!y1)
partial_fixpoint
def plain (x : Int × Int × Bool × (List Int) × (List S36)) : Option (Bool) :=
  if 3 < x.1 then
    plain_L1 (true, x.1, x.2.1, x.2.2.1, x.2.2.2.1, x.2.2.2.2)
  else
    if 2097151 < x.2.1 then
      plain_L1 (true, x.1, x.2.1, x.2.2.1, x.2.2.2.1, x.2.2.2.2)
    else
      if x.1 = 0 then
        plain_L1 ((decide (x.2.1 = 0)), x.1, x.2.1, x.2.2.1, x.2.2.2.1, x.2.2.2.2)
      else
        plain_L1 (false, x.1, x.2.1, x.2.2.1, x.2.2.2.1, x.2.2.2.2)
partial_fixpoint
def plain_L1 (x : Bool × Int × Int × Bool × (List Int) × (List S36)) : Option (Bool) :=
  if x.1 = true then
    some false
  else
    if x.2.2.2.1 = true then
      if 0 < (x.2.2.2.2.1.length : Int) then
        plain_L2 (true, x.2.1, x.2.2.1, x.2.2.2.1, x.2.2.2.2.1, x.2.2.2.2.2)
      else
        if (!x.2.2.2.1) = true then
          plain_L2 ((decide (0 < (x.2.2.2.2.2.length : Int))), x.2.1, x.2.2.1, x.2.2.2.1, x.2.2.2.2.1, x.2.2.2.2.2)
        else
          plain_L2 (false, x.2.1, x.2.2.1, x.2.2.2.1, x.2.2.2.2.1, x.2.2.2.2.2)
    else
      if (!x.2.2.2.1) = true then
        plain_L2 ((decide (0 < (x.2.2.2.2.2.length : Int))), x.2.1, x.2.2.1, x.2.2.2.1, x.2.2.2.2.1, x.2.2.2.2.2)
      else
        plain_L2 (false, x.2.1, x.2.2.1, x.2.2.2.1, x.2.2.2.2.1, x.2.2.2.2.2)
partial_fixpoint
def plain_L2 (x : Bool × Int × Int × Bool × (List Int) × (List S36)) : Option (Bool) :=
  if x.1 = true then
    some false
  else
    (containsF x.2.2.2.2.2) >>= fun y1 =>
    some (!y1)
partial_fixpoint
def containsF (x : (List S36)) : Option (Bool) :=
  (indexF x) >>= fun y1 =>
  some (decide (0 ≤ y1))
partial_fixpoint
def indexF (x : (List S36)) : Option (Int) :=
  indexF_L1 (x, (x.length : Int), 0)
partial_fixpoint
end
theorem indexF_L1_grp : (∀ (x : (List S36) × Int × Int) (r : Int), indexF_L1 x = some r → ∀ (W0 w0 : World) (S : Own), Std W0 w0 S 0 → HL Tryd.prog w0 S 19 (cL (cL (cR (cL (cR (cB Tryd.f61)))))) (mkS [(0, ls 5 false enc36 x.1), (1, .func (.func 78) #[] #[]), (7, .int .i64 x.2.1), (8, .int .i64 x.2.2)] [] 0 []) (Kblock 0 (Kseq Tryd.prog w0 S 19 (cR (cR (cB Tryd.f61))) (KEnd Tryd.prog Tryd.f61 (PEnd w0 S (.returned (.int .i64 r))))))) ∧
  (∀ (x : Int × Int × Bool × (List Int) × (List S36)) (r : Bool), plainF x = some r → ∀ W0 : World, PTo Tryd.prog W0 78 #[.agg #[.int .u8 x.1, .int .u32 x.2.1, .bool x.2.2.1, ls 1 false (encI .u8) x.2.2.2.1, ls 5 false enc36 x.2.2.2.2]] (.returned (.bool r))) ∧
  (∀ (x : Int × Int × Bool × (List Int) × (List S36)) (r : Bool), plain x = some r → ∀ W0 : World, PTo Tryd.prog W0 54 #[.agg #[.int .u8 x.1, .int .u32 x.2.1, .bool x.2.2.1, ls 1 false (encI .u8) x.2.2.2.1, ls 5 false enc36 x.2.2.2.2]] (.returned (.bool r))) ∧
  (∀ (x : Bool × Int × Int × Bool × (List Int) × (List S36)) (r : Bool), plain_L1 x = some r → ∀ (W0 w0 : World) (S : Own), Std W0 w0 S 0 → H Tryd.prog w0 S 44 (cR (cL (cR (cB Tryd.f54)))) (mkS [(1, .pointer (some ⟨0, 0, none⟩)), (20, .bool x.1)] [(0, .cells [.int .u8 x.2.1, .int .u32 x.2.2.1, .bool x.2.2.2.1, ls 1 false (encI .u8) x.2.2.2.2.1, ls 5 false enc36 x.2.2.2.2.2] 36 5)] 1 []) (Kseq Tryd.prog w0 S 44 (cR (cR (cB Tryd.f54))) (KEnd Tryd.prog Tryd.f54 (PEnd w0 S (.returned (.bool r)))))) ∧
  (∀ (x : Bool × Int × Int × Bool × (List Int) × (List S36)) (r : Bool), plain_L2 x = some r → ∀ (W0 w0 : World) (S : Own), Std W0 w0 S 0 → H Tryd.prog w0 S 44 (cR (cL (cR (cR (cB Tryd.f54))))) (mkS [(1, .pointer (some ⟨0, 0, none⟩)), (39, .bool x.1)] [(0, .cells [.int .u8 x.2.1, .int .u32 x.2.2.1, .bool x.2.2.2.1, ls 1 false (encI .u8) x.2.2.2.2.1, ls 5 false enc36 x.2.2.2.2.2] 36 5)] 1 []) (Kseq Tryd.prog w0 S 44 (cR (cR (cR (cB Tryd.f54)))) (KEnd Tryd.prog Tryd.f54 (PEnd w0 S (.returned (.bool r)))))) ∧
  (∀ (x : (List S36)) (r : Bool), containsF x = some r → ∀ W0 : World, PTo Tryd.prog W0 77 #[ls 5 false enc36 x, .func (.func 78) #[] #[]] (.returned (.bool r))) ∧
  (∀ (x : (List S36)) (r : Int), indexF x = some r → ∀ W0 : World, PTo Tryd.prog W0 61 #[ls 5 false enc36 x, .func (.func 78) #[] #[]] (.returned (.int .i64 r))) := by
  refine indexF_L1.mutual_partial_correctness (fun (x : (List S36) × Int × Int) (r : Int) => ∀ (W0 w0 : World) (S : Own), Std W0 w0 S 0 → HL Tryd.prog w0 S 19 (cL (cL (cR (cL (cR (cB Tryd.f61)))))) (mkS [(0, ls 5 false enc36 x.1), (1, .func (.func 78) #[] #[]), (7, .int .i64 x.2.1), (8, .int .i64 x.2.2)] [] 0 []) (Kblock 0 (Kseq Tryd.prog w0 S 19 (cR (cR (cB Tryd.f61))) (KEnd Tryd.prog Tryd.f61 (PEnd w0 S (.returned (.int .i64 r))))))) (fun (x : Int × Int × Bool × (List Int) × (List S36)) (r : Bool) => ∀ W0 : World, PTo Tryd.prog W0 78 #[.agg #[.int .u8 x.1, .int .u32 x.2.1, .bool x.2.2.1, ls 1 false (encI .u8) x.2.2.2.1, ls 5 false enc36 x.2.2.2.2]] (.returned (.bool r))) (fun (x : Int × Int × Bool × (List Int) × (List S36)) (r : Bool) => ∀ W0 : World, PTo Tryd.prog W0 54 #[.agg #[.int .u8 x.1, .int .u32 x.2.1, .bool x.2.2.1, ls 1 false (encI .u8) x.2.2.2.1, ls 5 false enc36 x.2.2.2.2]] (.returned (.bool r))) (fun (x : Bool × Int × Int × Bool × (List Int) × (List S36)) (r : Bool) => ∀ (W0 w0 : World) (S : Own), Std W0 w0 S 0 → H Tryd.prog w0 S 44 (cR (cL (cR (cB Tryd.f54)))) (mkS [(1, .pointer (some ⟨0, 0, none⟩)), (20, .bool x.1)] [(0, .cells [.int .u8 x.2.1, .int .u32 x.2.2.1, .bool x.2.2.2.1, ls 1 false (encI .u8) x.2.2.2.2.1, ls 5 false enc36 x.2.2.2.2.2] 36 5)] 1 []) (Kseq Tryd.prog w0 S 44 (cR (cR (cB Tryd.f54))) (KEnd Tryd.prog Tryd.f54 (PEnd w0 S (.returned (.bool r)))))) (fun (x : Bool × Int × Int × Bool × (List Int) × (List S36)) (r : Bool) => ∀ (W0 w0 : World) (S : Own), Std W0 w0 S 0 → H Tryd.prog w0 S 44 (cR (cL (cR (cR (cB Tryd.f54))))) (mkS [(1, .pointer (some ⟨0, 0, none⟩)), (39, .bool x.1)] [(0, .cells [.int .u8 x.2.1, .int .u32 x.2.2.1, .bool x.2.2.2.1, ls 1 false (encI .u8) x.2.2.2.2.1, ls 5 false enc36 x.2.2.2.2.2] 36 5)] 1 []) (Kseq Tryd.prog w0 S 44 (cR (cR (cR (cB Tryd.f54)))) (KEnd Tryd.prog Tryd.f54 (PEnd w0 S (.returned (.bool r)))))) (fun (x : (List S36)) (r : Bool) => ∀ W0 : World, PTo Tryd.prog W0 77 #[ls 5 false enc36 x, .func (.func 78) #[] #[]] (.returned (.bool r))) (fun (x : (List S36)) (r : Int) => ∀ W0 : World, PTo Tryd.prog W0 61 #[ls 5 false enc36 x, .func (.func 78) #[] #[]] (.returned (.int .i64 r))) ?_ ?_ ?_ ?_ ?_ ?_ ?_
  · intro g_indexF_L1 g_plainF ih_indexF_L1 ih_plainF x r h
    intro W0 w0 S hS
    haveI := hS.noEx Tryd.prog
    refine HL.round ?_
    refine H.sr' 1 ?_
    refine H.seq' ?_
    refine H.cS' (decide (x.2.2 < x.2.1)) (fun hb => ?_) (fun hb => ?_)
    rotate_left
    · rw [if_neg (of_decide_eq_false hb)] at h
      refine H.ext' 0 ?_
      refine Kseq_exit ?_
      refine Kloop_exit ?_
      refine Kblock_hit ?_
      refine Kseq_norm ?_
      refine H.sr' 1 ?_
      refine H.ret' ?_
      obtain rfl := Option.some.inj h
      exact KEnd.r'
    rw [if_pos (of_decide_eq_true hb)] at h
    refine H.skp' ?_
    refine Kseq_norm ?_
    refine H.seq' ?_
    refine H.blk' 1 ?_
    refine H.sr' 2 ?_
    refine H.sg' ?_
    refine HO.go' 3 ?_
    obtain ⟨y1, hy, h⟩ := bindS h
    refine HO.idx (.agg #[.int .u8 y1.c0, .int .u32 y1.c1, .bool y1.c2, ls 1 false (encI .u8) y1.c3, ls 5 false enc36 y1.c4]) hy (enc36_eq y1) (by kernel_rfl) ?_
    refine HO.go' 1 ?_
    obtain ⟨y2, hy, h⟩ := bindS h
    refine HO.callW hS [.agg [.keep, .keep, .keep, .list 1 false, .list 5 false]] (ih_plainF (y1.c0, y1.c1, y1.c2, y1.c3, y1.c4) y2 hy W0) (by kernel_rfl) (by kernel_rfl) ?_
    refine HO.fin' 0 ?_
    refine H.cS' (y2) (fun hb => ?_) (fun hb => ?_)
    rotate_left
    · rw [if_neg (ne_true hb)] at h
      refine H.skp' ?_
      refine Kblock_norm ?_
      refine Kseq_norm ?_
      refine H.reg' ?_
      refine HO.go' 2 ?_
      refine HO.end' ?_
      refine Kloop_norm ?_
      exact HL.ren' hS [] (ih_indexF_L1 (x.1, x.2.1, (IntKind.i64.wrap (x.2.2 + 1))) r h W0 w0 S hS)
    rw [if_pos hb] at h
    refine H.sr' 2 ?_
    refine H.ret' ?_
    refine Kblock_ret ?_
    refine Kseq_ret ?_
    refine Kloop_ret ?_
    refine Kblock_ret ?_
    refine Kseq_ret ?_
    obtain rfl := Option.some.inj h
    exact KEnd.r'
  · intro g_plain ih_plain x r h
    intro W0
    refine PTo.of_body (fn := Tryd.f78) (code := cB Tryd.f78) Tryd.func78 rfl rfl ?_
    intro w0 S hS
    haveI := hS.noEx Tryd.prog
    refine H.sr' 2 ?_
    refine H.sg' ?_
    refine HO.go' 1 ?_
    obtain ⟨y1, hy, h⟩ := bindS h
    refine HO.callW hS [.agg [.keep, .keep, .keep, .list 1 false, .list 5 false]] (ih_plain (x.1, x.2.1, x.2.2.1, x.2.2.2.1, x.2.2.2.2) y1 hy W0) (by kernel_rfl) (by kernel_rfl) ?_
    refine HO.fin' 2 ?_
    refine H.ret' ?_
    obtain rfl := Option.some.inj h
    exact KEnd.r'
  · intro g_plain_L1 ih_plain_L1 x r h
    intro W0
    refine PTo.of_body (fn := Tryd.f54) (code := cB Tryd.f54) Tryd.func54 rfl rfl ?_
    intro w0 S hS
    haveI := hS.noEx Tryd.prog
    refine H.sr' 2 ?_
    refine H.seq' ?_
    refine H.sg' ?_
    refine HO.go' 3 ?_
    refine HO.bo' (decide (3 < x.1)) (fun hb => ?_) (fun hb => ?_)
    · rw [if_pos (of_decide_eq_true hb)] at h
      refine HO.fin' 14 ?_
      exact H.ren' hS [0] (ih_plain_L1 (true, x.1, x.2.1, x.2.2.1, x.2.2.2.1, x.2.2.2.2) r h W0 w0 S hS)
    rw [if_neg (of_decide_eq_false hb)] at h
    refine HO.go' 4 ?_
    refine HO.bo' (decide (2097151 < x.2.1)) (fun hb => ?_) (fun hb => ?_)
    · rw [if_pos (of_decide_eq_true hb)] at h
      refine HO.fin' 9 ?_
      exact H.ren' hS [0] (ih_plain_L1 (true, x.1, x.2.1, x.2.2.1, x.2.2.2.1, x.2.2.2.2) r h W0 w0 S hS)
    rw [if_neg (of_decide_eq_false hb)] at h
    refine HO.go' 3 ?_
    refine HO.bo' (decide (x.1 = 0)) (fun hb => ?_) (fun hb => ?_)
    · rw [if_pos (of_decide_eq_true hb)] at h
      refine HO.fin' 5 ?_
      exact H.ren' hS [0] (ih_plain_L1 ((decide (x.2.1 = 0)), x.1, x.2.1, x.2.2.1, x.2.2.2.1, x.2.2.2.2) r h W0 w0 S hS)
    rw [if_neg (of_decide_eq_false hb)] at h
    refine HO.fin' 5 ?_
    exact H.ren' hS [0] (ih_plain_L1 (false, x.1, x.2.1, x.2.2.1, x.2.2.2.1, x.2.2.2.2) r h W0 w0 S hS)
  · intro g_plain_L2 ih_plain_L2 x r h
    intro W0 w0 S hS
    haveI := hS.noEx Tryd.prog
    refine H.cS' (x.1) (fun hb => ?_) (fun hb => ?_)
    · rw [if_pos hb] at h
      refine H.sr' 1 ?_
      refine H.ret' ?_
      refine Kseq_ret ?_
      obtain rfl := Option.some.inj h
      exact KEnd.r'
    rw [if_neg (ne_true hb)] at h
    refine H.skp' ?_
    refine Kseq_norm ?_
    refine H.seq' ?_
    refine H.sg' ?_
    refine HO.go' 2 ?_
    refine HO.bo' x.2.2.2.1 (fun hb => ?_) (fun hb => ?_)
    rotate_left
    · rw [if_neg (ne_true hb)] at h
      refine HO.go' 9 ?_
      refine HO.bo' (!x.2.2.2.1) (fun hb => ?_) (fun hb => ?_)
      rotate_left
      · rw [if_neg (ne_true hb)] at h
        refine HO.fin' 6 ?_
        exact H.ren' hS [0] (ih_plain_L2 (false, x.2.1, x.2.2.1, x.2.2.2.1, x.2.2.2.2.1, x.2.2.2.2.2) r h W0 w0 S hS)
      rw [if_pos hb] at h
      refine HO.go' 2 ?_
      refine HO.len (by kernel_rfl) (by kernel_rfl) (ls_size enc36 x.2.2.2.2.2) ?_
      refine HO.fin' 3 ?_
      exact H.ren' hS [0] (ih_plain_L2 ((decide (0 < (x.2.2.2.2.2.length : Int))), x.2.1, x.2.2.1, x.2.2.2.1, x.2.2.2.2.1, x.2.2.2.2.2) r h W0 w0 S hS)
    rw [if_pos hb] at h
    refine HO.go' 2 ?_
    refine HO.len (by kernel_rfl) (by kernel_rfl) (ls_size (encI .u8) x.2.2.2.2.1) ?_
    refine HO.go' 2 ?_
    refine HO.bo' (decide (0 < (x.2.2.2.2.1.length : Int))) (fun hb => ?_) (fun hb => ?_)
    · rw [if_pos (of_decide_eq_true hb)] at h
      refine HO.fin' 10 ?_
      exact H.ren' hS [0] (ih_plain_L2 (true, x.2.1, x.2.2.1, x.2.2.2.1, x.2.2.2.2.1, x.2.2.2.2.2) r h W0 w0 S hS)
    rw [if_neg (of_decide_eq_false hb)] at h
    refine HO.go' 3 ?_
    refine HO.bo' (!x.2.2.2.1) (fun hb => ?_) (fun hb => ?_)
    rotate_left
    · rw [if_neg (ne_true hb)] at h
      refine HO.fin' 6 ?_
      exact H.ren' hS [0] (ih_plain_L2 (false, x.2.1, x.2.2.1, x.2.2.2.1, x.2.2.2.2.1, x.2.2.2.2.2) r h W0 w0 S hS)
    rw [if_pos hb] at h
    refine HO.go' 2 ?_
    refine HO.len (by kernel_rfl) (by kernel_rfl) (ls_size enc36 x.2.2.2.2.2) ?_
    refine HO.fin' 3 ?_
    exact H.ren' hS [0] (ih_plain_L2 ((decide (0 < (x.2.2.2.2.2.length : Int))), x.2.1, x.2.2.1, x.2.2.2.1, x.2.2.2.2.1, x.2.2.2.2.2) r h W0 w0 S hS)
  · intro g_containsF ih_containsF x r h
    intro W0 w0 S hS
    haveI := hS.noEx Tryd.prog
    refine H.cS' (x.1) (fun hb => ?_) (fun hb => ?_)
    · rw [if_pos hb] at h
      refine H.sr' 1 ?_
      refine H.ret' ?_
      refine Kseq_ret ?_
      obtain rfl := Option.some.inj h
      exact KEnd.r'
    rw [if_neg (ne_true hb)] at h
    refine H.skp' ?_
    refine Kseq_norm ?_
    refine H.sg' ?_
    refine HO.go' 2 ?_
    obtain ⟨y1, hy, h⟩ := bindS h
    refine HO.callW hS [.list 5 false, .keep] (ih_containsF x.2.2.2.2.2 y1 hy W0) (by kernel_rfl) (by kernel_rfl) ?_
    refine HO.fin' 2 ?_
    refine H.ret' ?_
    obtain rfl := Option.some.inj h
    exact KEnd.r'
  · intro g_indexF ih_indexF x r h
    intro W0
    refine PTo.of_body (fn := Tryd.f77) (code := cB Tryd.f77) Tryd.func77 rfl rfl ?_
    intro w0 S hS
    haveI := hS.noEx Tryd.prog
    refine H.sr' 1 ?_
    refine H.sg' ?_
    refine HO.go' 2 ?_
    obtain ⟨y1, hy, h⟩ := bindS h
    refine HO.callW hS [.list 5 false, .keep] (ih_indexF x y1 hy W0) (by kernel_rfl) (by kernel_rfl) ?_
    refine HO.fin' 2 ?_
    refine H.ret' ?_
    obtain rfl := Option.some.inj h
    exact KEnd.r'
  · intro g_indexF_L1 ih_indexF_L1 x r h
    intro W0
    refine PTo.of_body (fn := Tryd.f61) (code := cB Tryd.f61) Tryd.func61 rfl rfl ?_
    intro w0 S hS
    haveI := hS.noEx Tryd.prog
    refine H.sr' 1 ?_
    refine H.seq' ?_
    refine H.sg' ?_
    refine HO.go' 1 ?_
    refine HO.len (by kernel_rfl) (by kernel_rfl) (ls_size enc36 x) ?_
    refine HO.fin' 1 ?_
    refine H.blk' 0 ?_
    refine H.lop' ?_
    exact HL.ren' hS [] (ih_indexF_L1 (x, (x.length : Int), 0) r h W0 w0 S hS)
theorem indexF_L1_ok : ∀ (x : (List S36) × Int × Int) (r : Int), indexF_L1 x = some r → ∀ (W0 w0 : World) (S : Own), Std W0 w0 S 0 → HL Tryd.prog w0 S 19 (cL (cL (cR (cL (cR (cB Tryd.f61)))))) (mkS [(0, ls 5 false enc36 x.1), (1, .func (.func 78) #[] #[]), (7, .int .i64 x.2.1), (8, .int .i64 x.2.2)] [] 0 []) (Kblock 0 (Kseq Tryd.prog w0 S 19 (cR (cR (cB Tryd.f61))) (KEnd Tryd.prog Tryd.f61 (PEnd w0 S (.returned (.int .i64 r)))))) := indexF_L1_grp.1
theorem plainF_ok : ∀ (x : Int × Int × Bool × (List Int) × (List S36)) (r : Bool), plainF x = some r → ∀ W0 : World, PTo Tryd.prog W0 78 #[.agg #[.int .u8 x.1, .int .u32 x.2.1, .bool x.2.2.1, ls 1 false (encI .u8) x.2.2.2.1, ls 5 false enc36 x.2.2.2.2]] (.returned (.bool r)) := indexF_L1_grp.2.1
theorem plain_ok : ∀ (x : Int × Int × Bool × (List Int) × (List S36)) (r : Bool), plain x = some r → ∀ W0 : World, PTo Tryd.prog W0 54 #[.agg #[.int .u8 x.1, .int .u32 x.2.1, .bool x.2.2.1, ls 1 false (encI .u8) x.2.2.2.1, ls 5 false enc36 x.2.2.2.2]] (.returned (.bool r)) := indexF_L1_grp.2.2.1
theorem plain_L1_ok : ∀ (x : Bool × Int × Int × Bool × (List Int) × (List S36)) (r : Bool), plain_L1 x = some r → ∀ (W0 w0 : World) (S : Own), Std W0 w0 S 0 → H Tryd.prog w0 S 44 (cR (cL (cR (cB Tryd.f54)))) (mkS [(1, .pointer (some ⟨0, 0, none⟩)), (20, .bool x.1)] [(0, .cells [.int .u8 x.2.1, .int .u32 x.2.2.1, .bool x.2.2.2.1, ls 1 false (encI .u8) x.2.2.2.2.1, ls 5 false enc36 x.2.2.2.2.2] 36 5)] 1 []) (Kseq Tryd.prog w0 S 44 (cR (cR (cB Tryd.f54))) (KEnd Tryd.prog Tryd.f54 (PEnd w0 S (.returned (.bool r))))) := indexF_L1_grp.2.2.2.1
theorem plain_L2_ok : ∀ (x : Bool × Int × Int × Bool × (List Int) × (List S36)) (r : Bool), plain_L2 x = some r → ∀ (W0 w0 : World) (S : Own), Std W0 w0 S 0 → H Tryd.prog w0 S 44 (cR (cL (cR (cR (cB Tryd.f54))))) (mkS [(1, .pointer (some ⟨0, 0, none⟩)), (39, .bool x.1)] [(0, .cells [.int .u8 x.2.1, .int .u32 x.2.2.1, .bool x.2.2.2.1, ls 1 false (encI .u8) x.2.2.2.2.1, ls 5 false enc36 x.2.2.2.2.2] 36 5)] 1 []) (Kseq Tryd.prog w0 S 44 (cR (cR (cR (cB Tryd.f54)))) (KEnd Tryd.prog Tryd.f54 (PEnd w0 S (.returned (.bool r))))) := indexF_L1_grp.2.2.2.2.1
theorem containsF_ok : ∀ (x : (List S36)) (r : Bool), containsF x = some r → ∀ W0 : World, PTo Tryd.prog W0 77 #[ls 5 false enc36 x, .func (.func 78) #[] #[]] (.returned (.bool r)) := indexF_L1_grp.2.2.2.2.2.1
theorem indexF_ok : ∀ (x : (List S36)) (r : Int), indexF x = some r → ∀ W0 : World, PTo Tryd.prog W0 61 #[ls 5 false enc36 x, .func (.func 78) #[] #[]] (.returned (.int .i64 r)) := indexF_L1_grp.2.2.2.2.2.2
def check (x : Int × Int × Bool × (List Int) × (List S36)) : Option (Int) :=
  (measure (x.1, x.2.1, x.2.2.1, x.2.2.2.1, x.2.2.2.2, 1, 0)) >>= fun y1 =>
  if (!y1.1) = true then
    some 3
  else
    (plain (x.1, x.2.1, x.2.2.1, x.2.2.2.1, x.2.2.2.2)) >>= fun y2 =>
    if (!y2) = true then
      some 1
    else
      some 0
theorem check_ok : ∀ (x : Int × Int × Bool × (List Int) × (List S36)) (r : Int), check x = some r → ∀ W0 : World, PTo Tryd.prog W0 21 #[.agg #[.int .u8 x.1, .int .u32 x.2.1, .bool x.2.2.1, ls 1 false (encI .u8) x.2.2.2.1, ls 5 false enc36 x.2.2.2.2]] (.returned (.int .i64 r)) := by
  intro x r h
  unfold check at h
  intro W0
  refine PTo.of_body (fn := Tryd.f21) (code := cB Tryd.f21) Tryd.func21 rfl rfl ?_
  intro w0 S hS
  haveI := hS.noEx Tryd.prog
  refine H.sr' 2 ?_
  refine H.sr' 2 ?_
  refine H.seq' ?_
  refine H.blk' 0 ?_
  refine H.sg' ?_
  refine HO.go' 1 ?_
  obtain ⟨y1, hy, h⟩ := bindS h
  refine HO.callFW hS (.bool y1.1) 2 [] [(0, .cells [.int .u8 x.1, .int .u32 x.2.1, .bool x.2.2.1, ls 1 false (encI .u8) x.2.2.2.1, ls 5 false enc36 x.2.2.2.2] 36 5), (1, .cells [.int .i64 y1.2] 3 1)] [1] [.agg [.keep, .keep, .keep, .list 1 false, .list 5 false], .keep, .keep] (measure_ok (x.1, x.2.1, x.2.2.1, x.2.2.2.1, x.2.2.2.2, 1, 0) y1 hy W0) (by kernel_rfl) (by kernel_rfl) ?_
  refine HO.fin' 2 ?_
  refine H.cS' (!y1.1) (fun hb => ?_) (fun hb => ?_)
  · rw [if_pos hb] at h
    refine H.sr' 1 ?_
    refine H.ret' ?_
    refine Kblock_ret ?_
    refine Kseq_ret ?_
    obtain rfl := Option.some.inj h
    exact KEnd.r'
  rw [if_neg (ne_true hb)] at h
  refine H.sg' ?_
  refine HO.go' 1 ?_
  obtain ⟨y2, hy, h⟩ := bindS h
  refine HO.callW hS [.agg [.keep, .keep, .keep, .list 1 false, .list 5 false]] (plain_ok (x.1, x.2.1, x.2.2.1, x.2.2.2.1, x.2.2.2.2) y2 hy W0) (by kernel_rfl) (by kernel_rfl) ?_
  refine HO.fin' 2 ?_
  refine H.cS' (!y2) (fun hb => ?_) (fun hb => ?_)
  · rw [if_pos hb] at h
    refine H.sr' 1 ?_
    refine H.ret' ?_
    refine Kblock_ret ?_
    refine Kseq_ret ?_
    obtain rfl := Option.some.inj h
    exact KEnd.r'
  rw [if_neg (ne_true hb)] at h
  refine H.skp' ?_
  refine Kblock_norm ?_
  refine Kseq_norm ?_
  refine H.sr' 1 ?_
  refine H.ret' ?_
  obtain rfl := Option.some.inj h
  exact KEnd.r'
def toInt_L2 (x : Int × (List Int) × Int × Int) : Option (Int × Int) :=
  if x.2.2.2 < x.2.2.1 then
    (at' x.2.1 x.2.2.2) >>= fun y9 =>
    toInt_L2 ((bOr .i64 (shlI .i64 x.1 8) (IntKind.i64.wrap y9)), x.2.1, x.2.2.1, (IntKind.i64.wrap (x.2.2.2 + 1)))
  else
    some (x.1, 0)
partial_fixpoint
theorem toInt_L2_ok : ∀ (x : Int × (List Int) × Int × Int) (r : Int × Int), toInt_L2 x = some r → ∀ (W0 w0 : World) (S : Own), Std W0 w0 S 0 → HL Tryd.prog w0 S 62 (cL (cL (cR (cL (cR (cR (cR (cB Tryd.f12)))))))) (mkS [(4, .int .i64 x.1), (49, ls 1 false (encI .u8) x.2.1), (50, .int .i64 x.2.2.1), (51, .int .i64 x.2.2.2)] [] 0 []) (Kblock 1 (Kseq Tryd.prog w0 S 62 (cR (cR (cR (cR (cB Tryd.f12))))) (KEnd Tryd.prog Tryd.f12 (PEnd w0 S (.returned (.tuple #[.int .i64 r.1, .int .i64 r.2])))))) := by
  refine toInt_L2.partial_correctness (fun (x : Int × (List Int) × Int × Int) (r : Int × Int) => ∀ (W0 w0 : World) (S : Own), Std W0 w0 S 0 → HL Tryd.prog w0 S 62 (cL (cL (cR (cL (cR (cR (cR (cB Tryd.f12)))))))) (mkS [(4, .int .i64 x.1), (49, ls 1 false (encI .u8) x.2.1), (50, .int .i64 x.2.2.1), (51, .int .i64 x.2.2.2)] [] 0 []) (Kblock 1 (Kseq Tryd.prog w0 S 62 (cR (cR (cR (cR (cB Tryd.f12))))) (KEnd Tryd.prog Tryd.f12 (PEnd w0 S (.returned (.tuple #[.int .i64 r.1, .int .i64 r.2]))))))) ?_
  intro self ih_toInt_L2 x r h
  intro W0 w0 S hS
  haveI := hS.noEx Tryd.prog
  refine HL.round ?_
  refine H.sr' 1 ?_
  refine H.seq' ?_
  refine H.cS' (decide (x.2.2.2 < x.2.2.1)) (fun hb => ?_) (fun hb => ?_)
  rotate_left
  · rw [if_neg (of_decide_eq_false hb)] at h
    refine H.ext' 1 ?_
    refine Kseq_exit ?_
    refine Kloop_exit ?_
    refine Kblock_hit ?_
    refine Kseq_norm ?_
    refine H.sr' 3 ?_
    refine H.ret' ?_
    obtain rfl := Option.some.inj h
    exact KEnd.r'
  rw [if_pos (of_decide_eq_true hb)] at h
  refine H.skp' ?_
  refine Kseq_norm ?_
  refine H.seq' ?_
  refine H.blk' 2 ?_
  refine H.sg' ?_
  obtain ⟨y9, hy, h⟩ := bindS h
  refine HO.idx (.int .u8 y9) hy rfl (by kernel_rfl) ?_
  refine HO.fin' 2 ?_
  refine H.reg' ?_
  refine HO.go' 6 ?_
  refine HO.end' ?_
  refine Kblock_norm ?_
  refine Kseq_norm ?_
  refine H.reg' ?_
  refine HO.go' 2 ?_
  refine HO.end' ?_
  refine Kloop_norm ?_
  exact HL.ren' hS [] (ih_toInt_L2 ((bOr .i64 (shlI .i64 x.1 8) (IntKind.i64.wrap y9)), x.2.1, x.2.2.1, (IntKind.i64.wrap (x.2.2.2 + 1))) r h W0 w0 S hS)
def toInt_L1 (x : (List Int) × Bool) : Option (Int × Int) :=
  if x.2 = true then
    some (0, 4)
  else
    if 8 < (x.1.length : Int) then
      some (0, 3)
    else
      (at' x.1 0) >>= fun y7 =>
      (sub' x.1 1 (x.1.length : Int)) >>= fun y8 =>
      toInt_L2 ((IntKind.i64.wrap (IntKind.i8.wrap y7)), y8, (y8.length : Int), 0)
theorem toInt_L1_ok : ∀ (x : (List Int) × Bool) (r : Int × Int), toInt_L1 x = some r → ∀ (W0 w0 : World) (S : Own), Std W0 w0 S 0 → H Tryd.prog w0 S 62 (cR (cR (cR (cL (cL (cR (cB Tryd.f12))))))) (mkS [(0, ls 1 false (encI .u8) x.1), (11, .bool x.2)] [] 0 []) (Kblock 0 (Kseq Tryd.prog w0 S 62 (cR (cR (cB Tryd.f12))) (KEnd Tryd.prog Tryd.f12 (PEnd w0 S (.returned (.tuple #[.int .i64 r.1, .int .i64 r.2])))))) := by
  intro x r h
  unfold toInt_L1 at h
  intro W0 w0 S hS
  haveI := hS.noEx Tryd.prog
  refine H.cS' (x.2) (fun hb => ?_) (fun hb => ?_)
  · rw [if_pos hb] at h
    refine H.sr' 2 ?_
    refine H.ret' ?_
    refine Kblock_ret ?_
    refine Kseq_ret ?_
    obtain rfl := Option.some.inj h
    exact KEnd.r'
  rw [if_neg (ne_true hb)] at h
  refine H.sg' ?_
  refine HO.go' 1 ?_
  refine HO.len (by kernel_rfl) (by kernel_rfl) (ls_size (encI .u8) x.1) ?_
  refine HO.fin' 2 ?_
  refine H.cS' (decide (8 < (x.1.length : Int))) (fun hb => ?_) (fun hb => ?_)
  · rw [if_pos (of_decide_eq_true hb)] at h
    refine H.sr' 2 ?_
    refine H.ret' ?_
    refine Kblock_ret ?_
    refine Kseq_ret ?_
    obtain rfl := Option.some.inj h
    exact KEnd.r'
  rw [if_neg (of_decide_eq_false hb)] at h
  refine H.skp' ?_
  refine Kblock_norm ?_
  refine Kseq_norm ?_
  refine H.sg' ?_
  refine HO.go' 1 ?_
  obtain ⟨y7, hy, h⟩ := bindS h
  refine HO.idx (.int .u8 y7) hy rfl (by kernel_rfl) ?_
  refine HO.fin' 4 ?_
  refine H.seq' ?_
  refine H.sg' ?_
  refine HO.go' 1 ?_
  obtain ⟨y8, hy, h⟩ := bindS h
  refine HO.valA (sl1_aop (enc := (encI .u8)) (k := 1) (j := .i64) false hy (by kernel_rfl)) ?_
  refine HO.len (by kernel_rfl) (by kernel_rfl) (ls_size (encI .u8) y8) ?_
  refine HO.fin' 1 ?_
  refine H.blk' 1 ?_
  refine H.lop' ?_
  exact HL.ren' hS [] (toInt_L2_ok ((IntKind.i64.wrap (IntKind.i8.wrap y7)), y8, (y8.length : Int), 0) r h W0 w0 S hS)
def toInt (x : (List Int)) : Option (Int × Int) :=
  if (x.length : Int) = 0 then
    some (0, 4)
  else
    if 1 < (x.length : Int) then
      (at' x 0) >>= fun y1 =>
      if y1 = 0 then
        (at' x 1) >>= fun y2 =>
        if y2 < 128 then
          toInt_L1 (x, true)
        else
          (at' x 0) >>= fun y3 =>
          if y3 = 255 then
            (at' x 1) >>= fun y4 =>
            toInt_L1 (x, (decide (128 ≤ y4)))
          else
            toInt_L1 (x, false)
      else
        (at' x 0) >>= fun y5 =>
        if y5 = 255 then
          (at' x 1) >>= fun y6 =>
          toInt_L1 (x, (decide (128 ≤ y6)))
        else
          toInt_L1 (x, false)
    else
      toInt_L1 (x, false)
theorem toInt_ok : ∀ (x : (List Int)) (r : Int × Int), toInt x = some r → ∀ W0 : World, PTo Tryd.prog W0 12 #[ls 1 false (encI .u8) x] (.returned (.tuple #[.int .i64 r.1, .int .i64 r.2])) := by
  intro x r h
  unfold toInt at h
  intro W0
  refine PTo.of_body (fn := Tryd.f12) (code := cB Tryd.f12) Tryd.func12 rfl rfl ?_
  intro w0 S hS
  haveI := hS.noEx Tryd.prog
  refine H.sr' 2 ?_
  refine H.seq' ?_
  refine H.blk' 0 ?_
  refine H.sg' ?_
  refine HO.go' 1 ?_
  refine HO.len (by kernel_rfl) (by kernel_rfl) (ls_size (encI .u8) x) ?_
  refine HO.fin' 2 ?_
  refine H.cS' (decide ((x.length : Int) = 0)) (fun hb => ?_) (fun hb => ?_)
  · rw [if_pos (of_decide_eq_true hb)] at h
    refine H.sr' 2 ?_
    refine H.ret' ?_
    refine Kblock_ret ?_
    refine Kseq_ret ?_
    obtain rfl := Option.some.inj h
    exact KEnd.r'
  rw [if_neg (of_decide_eq_false hb)] at h
  refine H.sg' ?_
  refine HO.go' 1 ?_
  refine HO.len (by kernel_rfl) (by kernel_rfl) (ls_size (encI .u8) x) ?_
  refine HO.go' 1 ?_
  refine HO.bo' (decide (1 < (x.length : Int))) (fun hb => ?_) (fun hb => ?_)
  rotate_left
  · rw [if_neg (of_decide_eq_false hb)] at h
    refine HO.fin' 24 ?_
    exact H.ren' hS [] (toInt_L1_ok (x, false) r h W0 w0 S hS)
  rw [if_pos (of_decide_eq_true hb)] at h
  refine HO.go' 1 ?_
  obtain ⟨y1, hy, h⟩ := bindS h
  refine HO.idx (.int .u8 y1) hy rfl (by kernel_rfl) ?_
  refine HO.go' 2 ?_
  refine HO.bo' (decide (y1 = 0)) (fun hb => ?_) (fun hb => ?_)
  rotate_left
  · rw [if_neg (of_decide_eq_false hb)] at h
    refine HO.go' 7 ?_
    obtain ⟨y5, hy, h⟩ := bindS h
    refine HO.idx (.int .u8 y5) hy rfl (by kernel_rfl) ?_
    refine HO.go' 2 ?_
    refine HO.bo' (decide (y5 = 255)) (fun hb => ?_) (fun hb => ?_)
    rotate_left
    · rw [if_neg (of_decide_eq_false hb)] at h
      refine HO.fin' 8 ?_
      exact H.ren' hS [] (toInt_L1_ok (x, false) r h W0 w0 S hS)
    rw [if_pos (of_decide_eq_true hb)] at h
    refine HO.go' 1 ?_
    obtain ⟨y6, hy, h⟩ := bindS h
    refine HO.idx (.int .u8 y6) hy rfl (by kernel_rfl) ?_
    refine HO.fin' 6 ?_
    exact H.ren' hS [] (toInt_L1_ok (x, (decide (128 ≤ y6))) r h W0 w0 S hS)
  rw [if_pos (of_decide_eq_true hb)] at h
  refine HO.go' 1 ?_
  obtain ⟨y2, hy, h⟩ := bindS h
  refine HO.idx (.int .u8 y2) hy rfl (by kernel_rfl) ?_
  refine HO.go' 3 ?_
  refine HO.bo' (decide (y2 < 128)) (fun hb => ?_) (fun hb => ?_)
  · rw [if_pos (of_decide_eq_true hb)] at h
    refine HO.fin' 13 ?_
    exact H.ren' hS [] (toInt_L1_ok (x, true) r h W0 w0 S hS)
  rw [if_neg (of_decide_eq_false hb)] at h
  refine HO.go' 1 ?_
  obtain ⟨y3, hy, h⟩ := bindS h
  refine HO.idx (.int .u8 y3) hy rfl (by kernel_rfl) ?_
  refine HO.go' 2 ?_
  refine HO.bo' (decide (y3 = 255)) (fun hb => ?_) (fun hb => ?_)
  rotate_left
  · rw [if_neg (of_decide_eq_false hb)] at h
    refine HO.fin' 8 ?_
    exact H.ren' hS [] (toInt_L1_ok (x, false) r h W0 w0 S hS)
  rw [if_pos (of_decide_eq_true hb)] at h
  refine HO.go' 1 ?_
  obtain ⟨y4, hy, h⟩ := bindS h
  refine HO.idx (.int .u8 y4) hy rfl (by kernel_rfl) ?_
  refine HO.fin' 6 ?_
  exact H.ren' hS [] (toInt_L1_ok (x, (decide (128 ≤ y4))) r h W0 w0 S hS)
def valueC_L1 (x : Int × Bool) : Option (Int × Bool) :=
  if x.2 = true then
    some (0, false)
  else
    some (x.1, true)
theorem valueC_L1_ok : ∀ (x : Int × Bool) (r : Int × Bool), valueC_L1 x = some r → ∀ (W0 w0 : World) (S : Own), Std W0 w0 S 0 → H Tryd.prog w0 S 49 (cR (cL (cR (cR (cB Tryd.f65))))) (mkS [(12, .int .i64 x.1), (47, .bool x.2)] [] 0 []) (Kseq Tryd.prog w0 S 49 (cR (cR (cR (cB Tryd.f65)))) (KEnd Tryd.prog Tryd.f65 (PEnd w0 S (.returned (.tuple #[.int .i64 r.1, .bool r.2]))))) := by
  intro x r h
  unfold valueC_L1 at h
  intro W0 w0 S hS
  haveI := hS.noEx Tryd.prog
  refine H.cS' (x.2) (fun hb => ?_) (fun hb => ?_)
  · rw [if_pos hb] at h
    refine H.sr' 2 ?_
    refine H.ret' ?_
    refine Kseq_ret ?_
    obtain rfl := Option.some.inj h
    exact KEnd.r'
  rw [if_neg (ne_true hb)] at h
  refine H.skp' ?_
  refine Kseq_norm ?_
  refine H.sr' 3 ?_
  refine H.ret' ?_
  obtain rfl := Option.some.inj h
  exact KEnd.r'
def valueC (x : Int × Int × Bool × (List Int) × (List S36) × Int × Int × Int × Int) : Option (Int × Bool) :=
  (toInt x.2.2.2.1) >>= fun y1 =>
  if (!decide (y1.2 = 0)) = true then
    valueC_L1 (y1.1, true)
  else
    if x.2.2.1 = true then
      valueC_L1 (y1.1, true)
    else
      if (!decide (x.1 = x.2.2.2.2.2.1)) = true then
        valueC_L1 (y1.1, true)
      else
        if (!decide (x.2.1 = x.2.2.2.2.2.2.1)) = true then
          valueC_L1 (y1.1, true)
        else
          if y1.1 < x.2.2.2.2.2.2.2.1 then
            valueC_L1 (y1.1, true)
          else
            valueC_L1 (y1.1, (decide (x.2.2.2.2.2.2.2.2 < y1.1)))
theorem valueC_ok : ∀ (x : Int × Int × Bool × (List Int) × (List S36) × Int × Int × Int × Int) (r : Int × Bool), valueC x = some r → ∀ W0 : World, PTo Tryd.prog W0 65 #[.agg #[.int .u8 x.1, .int .u32 x.2.1, .bool x.2.2.1, ls 1 false (encI .u8) x.2.2.2.1, ls 5 false enc36 x.2.2.2.2.1], .int .u8 x.2.2.2.2.2.1, .int .u32 x.2.2.2.2.2.2.1, .int .i64 x.2.2.2.2.2.2.2.1, .int .i64 x.2.2.2.2.2.2.2.2] (.returned (.tuple #[.int .i64 r.1, .bool r.2])) := by
  intro x r h
  unfold valueC at h
  intro W0
  refine PTo.of_body (fn := Tryd.f65) (code := cB Tryd.f65) Tryd.func65 rfl rfl ?_
  intro w0 S hS
  haveI := hS.noEx Tryd.prog
  refine H.sr' 3 ?_
  refine H.sg' ?_
  refine HO.go' 2 ?_
  obtain ⟨y1, hy, h⟩ := bindS h
  refine HO.callW hS [.list 1 false] (toInt_ok x.2.2.2.1 y1 hy W0) (by kernel_rfl) (by kernel_rfl) ?_
  refine HO.fin' 5 ?_
  refine H.seq' ?_
  refine H.sg' ?_
  refine HO.go' 2 ?_
  refine HO.bo' (!decide (y1.2 = 0)) (fun hb => ?_) (fun hb => ?_)
  · rw [if_pos hb] at h
    refine HO.fin' 25 ?_
    exact H.ren' hS [] (valueC_L1_ok (y1.1, true) r h W0 w0 S hS)
  rw [if_neg (ne_true hb)] at h
  refine HO.go' 3 ?_
  refine HO.bo' x.2.2.1 (fun hb => ?_) (fun hb => ?_)
  · rw [if_pos hb] at h
    refine HO.fin' 21 ?_
    exact H.ren' hS [] (valueC_L1_ok (y1.1, true) r h W0 w0 S hS)
  rw [if_neg (ne_true hb)] at h
  refine HO.go' 5 ?_
  refine HO.bo' (!decide (x.1 = x.2.2.2.2.2.1)) (fun hb => ?_) (fun hb => ?_)
  · rw [if_pos hb] at h
    refine HO.fin' 15 ?_
    exact H.ren' hS [] (valueC_L1_ok (y1.1, true) r h W0 w0 S hS)
  rw [if_neg (ne_true hb)] at h
  refine HO.go' 5 ?_
  refine HO.bo' (!decide (x.2.1 = x.2.2.2.2.2.2.1)) (fun hb => ?_) (fun hb => ?_)
  · rw [if_pos hb] at h
    refine HO.fin' 9 ?_
    exact H.ren' hS [] (valueC_L1_ok (y1.1, true) r h W0 w0 S hS)
  rw [if_neg (ne_true hb)] at h
  refine HO.go' 4 ?_
  refine HO.bo' (decide (y1.1 < x.2.2.2.2.2.2.2.1)) (fun hb => ?_) (fun hb => ?_)
  · rw [if_pos (of_decide_eq_true hb)] at h
    refine HO.fin' 4 ?_
    exact H.ren' hS [] (valueC_L1_ok (y1.1, true) r h W0 w0 S hS)
  rw [if_neg (of_decide_eq_false hb)] at h
  refine HO.fin' 4 ?_
  exact H.ren' hS [] (valueC_L1_ok (y1.1, (decide (x.2.2.2.2.2.2.2.2 < y1.1))) r h W0 w0 S hS)
def takeF_L1 (x : Int × Bool × (List S36)) : Option (Int × Bool × (List S36)) :=
  some (x.1, x.2.1, x.2.2)
theorem takeF_L1_ok : ∀ (x : Int × Bool × (List S36)) (r : Int × Bool × (List S36)), takeF_L1 x = some r → ∀ (W0 w0 : World) (S : Own), Std W0 w0 S 1 → H Tryd.prog w0 S 32 (cR (cR (cR (cR (cB Tryd.f88))))) (mkS [(11, .int .i64 x.1), (12, .bool x.2.1)] [(0, .cells [ls 5 false enc36 x.2.2] 34 1)] 1 []) (KEnd Tryd.prog Tryd.f88 (FEnd w0 S (.returned (.tuple #[.int .i64 r.1, .bool r.2.1])) (mkW 1 [] [(0, .cells [ls 5 false enc36 r.2.2] 34 1)]))) := by
  intro x r h
  unfold takeF_L1 at h
  intro W0 w0 S hS
  haveI := hS.noEx Tryd.prog
  refine H.sr' 4 ?_
  refine H.ret' ?_
  obtain rfl := Option.some.inj h
  exact KEnd.of (v := .tuple #[.int .i64 x.1, .bool x.2.1]) (by kernel_rfl) (by kernel_rfl) (FEnd.ren hS [0] _ _ (by kernel_rfl))
def takeF (x : Int × Int × Int × Int × (List S36)) : Option (Int × Bool × (List S36)) :=
  if (x.2.2.2.2.length : Int) = 0 then
    some (0, false, x.2.2.2.2)
  else
    (at' x.2.2.2.2 0) >>= fun y1 =>
    (valueC (y1.c0, y1.c1, y1.c2, y1.c3, y1.c4, x.1, x.2.1, x.2.2.1, x.2.2.2.1)) >>= fun y2 =>
    if y2.2 = true then
      (sub' x.2.2.2.2 1 (x.2.2.2.2.length : Int)) >>= fun y3 =>
      takeF_L1 (y2.1, y2.2, y3)
    else
      takeF_L1 (y2.1, y2.2, x.2.2.2.2)
theorem takeF_ok : ∀ (x : Int × Int × Int × Int × (List S36)) (r : Int × Bool × (List S36)), takeF x = some r → ∀ W0 : World, FTo Tryd.prog W0 88 #[.int .u8 x.1, .int .u32 x.2.1, .int .i64 x.2.2.1, .int .i64 x.2.2.2.1, .pointer (some ⟨0, 0, none⟩)] (mkW 1 [] [(0, .cells [ls 5 false enc36 x.2.2.2.2] 34 1)]) (.returned (.tuple #[.int .i64 r.1, .bool r.2.1])) (mkW 1 [] [(0, .cells [ls 5 false enc36 r.2.2] 34 1)]) := by
  intro x r h
  unfold takeF at h
  intro W0
  refine FTo.of_body (fn := Tryd.f88) (code := cB Tryd.f88) Tryd.func88 rfl rfl ?_
  intro w0 S hS
  haveI := hS.noEx Tryd.prog
  refine H.sr' 2 ?_
  refine H.seq' ?_
  refine H.sg' ?_
  refine HO.go' 1 ?_
  refine HO.len (by kernel_rfl) (by kernel_rfl) (ls_size enc36 x.2.2.2.2) ?_
  refine HO.fin' 1 ?_
  refine H.cS' (decide ((x.2.2.2.2.length : Int) = 0)) (fun hb => ?_) (fun hb => ?_)
  · rw [if_pos (of_decide_eq_true hb)] at h
    refine H.sr' 2 ?_
    refine H.ret' ?_
    refine Kseq_ret ?_
    obtain rfl := Option.some.inj h
    exact KEnd.of (v := .tuple #[.int .i64 0, .bool false]) (by kernel_rfl) (by kernel_rfl) (FEnd.ren hS [0] _ _ (by kernel_rfl))
  rw [if_neg (of_decide_eq_false hb)] at h
  refine H.skp' ?_
  refine Kseq_norm ?_
  refine H.sg' ?_
  refine HO.go' 1 ?_
  obtain ⟨y1, hy, h⟩ := bindS h
  refine HO.idx (.agg #[.int .u8 y1.c0, .int .u32 y1.c1, .bool y1.c2, ls 1 false (encI .u8) y1.c3, ls 5 false enc36 y1.c4]) hy (enc36_eq y1) (by kernel_rfl) ?_
  refine HO.go' 5 ?_
  obtain ⟨y2, hy, h⟩ := bindS h
  refine HO.callW hS [.agg [.keep, .keep, .keep, .list 1 false, .list 5 false], .keep, .keep, .keep, .keep] (valueC_ok (y1.c0, y1.c1, y1.c2, y1.c3, y1.c4, x.1, x.2.1, x.2.2.1, x.2.2.2.1) y2 hy W0) (by kernel_rfl) (by kernel_rfl) ?_
  refine HO.fin' 5 ?_
  refine H.seq' ?_
  refine H.sr' 1 ?_
  refine H.cS' (y2.2) (fun hb => ?_) (fun hb => ?_)
  rotate_left
  · rw [if_neg (ne_true hb)] at h
    refine H.skp' ?_
    refine Kseq_norm ?_
    exact H.ren' hS [0] (takeF_L1_ok (y2.1, y2.2, x.2.2.2.2) r h W0 w0 S hS)
  rw [if_pos hb] at h
  refine H.reg' ?_
  refine HO.go' 1 ?_
  obtain ⟨y3, hy, h⟩ := bindS h
  refine HO.valA (sl1_aop (enc := enc36) (k := 5) (j := .i64) false hy (by kernel_rfl)) ?_
  refine HO.fin' 1 ?_
  exact H.ren' hS [0] (takeF_L1_ok (y2.1, y2.2, y3) r h W0 w0 S hS)
def bytesEqual (x : (List Int) × (List Int)) : Option (Bool) :=
  some (strEq (bytesU x.1) (bytesU x.2))
theorem bytesEqual_ok : ∀ (x : (List Int) × (List Int)) (r : Bool), bytesEqual x = some r → ∀ W0 : World, PTo Tryd.prog W0 60 #[ls 1 false (encI .u8) x.1, ls 1 false (encI .u8) x.2] (.returned (.bool r)) := by
  intro x r h
  unfold bytesEqual at h
  intro W0
  refine PTo.of_body (fn := Tryd.f60) (code := cB Tryd.f60) Tryd.func60 rfl rfl ?_
  intro w0 S hS
  haveI := hS.noEx Tryd.prog
  refine H.sr' 1 ?_
  refine H.sg' ?_
  refine HO.go' 1 ?_
  refine HO.valA (str_aop x.1 (by kernel_rfl)) ?_
  refine HO.go' 1 ?_
  refine HO.valA (str_aop x.2 (by kernel_rfl)) ?_
  refine HO.fin' 2 ?_
  refine H.ret' ?_
  obtain rfl := Option.some.inj h
  exact KEnd.r'
def sameI_L1 (x : Bool) : Option (Bool) :=
  some x
theorem sameI_L1_ok : ∀ (x : Bool) (r : Bool), sameI_L1 x = some r → ∀ (W0 w0 : World) (S : Own), Std W0 w0 S 0 → H Tryd.prog w0 S 38 (cR (cR (cB Tryd.f52))) (mkS [(4, .bool x)] [] 0 []) (KEnd Tryd.prog Tryd.f52 (PEnd w0 S (.returned (.bool r)))) := by
  intro x r h
  unfold sameI_L1 at h
  intro W0 w0 S hS
  haveI := hS.noEx Tryd.prog
  refine H.ret' ?_
  obtain rfl := Option.some.inj h
  exact KEnd.r'
mutual
def sameI (x : Int × Int × Bool × (List Int) × (List S36) × Int × Int × Bool × (List Int) × (List S36)) : Option (Bool) :=
  if x.1 = x.2.2.2.2.2.1 then
    if x.2.1 = x.2.2.2.2.2.2.1 then
      if (x.2.2.1 == x.2.2.2.2.2.2.2.1) = true then
        (bytesEqual (x.2.2.2.1, x.2.2.2.2.2.2.2.2.1)) >>= fun y1 =>
        if y1 = true then
          (equalFunc (x.2.2.2.2.1, x.2.2.2.2.2.2.2.2.2)) >>= fun y2 =>
          sameI_L1 y2
        else
          sameI_L1 false
      else
        sameI_L1 false
    else
      sameI_L1 false
  else
    sameI_L1 false
partial_fixpoint
def equalFunc (x : (List S36) × (List S36)) : Option (Bool) :=
  if (!decide ((x.1.length : Int) = (x.2.length : Int))) = true then
    some false
  else
    equalFunc_L1 (x.2, x.1, (x.1.length : Int), 0)
partial_fixpoint
def equalFunc_L1 (x : (List S36) × (List S36) × Int × Int) : Option (Bool) :=
  if x.2.2.2 < x.2.2.1 then
    (at' x.2.1 x.2.2.2) >>= fun y1 =>
    (at' x.1 x.2.2.2) >>= fun y2 =>
    (sameI (y1.c0, y1.c1, y1.c2, y1.c3, y1.c4, y2.c0, y2.c1, y2.c2, y2.c3, y2.c4)) >>= fun y3 =>
    if (!y3) = true then
      some false
    else
      equalFunc_L1 (x.1, x.2.1, x.2.2.1, (IntKind.i64.wrap (x.2.2.2 + 1)))
  else
    some true
partial_fixpoint
end
theorem sameI_grp : (∀ (x : Int × Int × Bool × (List Int) × (List S36) × Int × Int × Bool × (List Int) × (List S36)) (r : Bool), sameI x = some r → ∀ W0 : World, PTo Tryd.prog W0 52 #[.agg #[.int .u8 x.1, .int .u32 x.2.1, .bool x.2.2.1, ls 1 false (encI .u8) x.2.2.2.1, ls 5 false enc36 x.2.2.2.2.1], .agg #[.int .u8 x.2.2.2.2.2.1, .int .u32 x.2.2.2.2.2.2.1, .bool x.2.2.2.2.2.2.2.1, ls 1 false (encI .u8) x.2.2.2.2.2.2.2.2.1, ls 5 false enc36 x.2.2.2.2.2.2.2.2.2]] (.returned (.bool r))) ∧
  (∀ (x : (List S36) × (List S36)) (r : Bool), equalFunc x = some r → ∀ W0 : World, PTo Tryd.prog W0 76 #[ls 5 false enc36 x.1, ls 5 false enc36 x.2, .func (.func 52) #[] #[]] (.returned (.bool r))) ∧
  (∀ (x : (List S36) × (List S36) × Int × Int) (r : Bool), equalFunc_L1 x = some r → ∀ (W0 w0 : World) (S : Own), Std W0 w0 S 0 → HL Tryd.prog w0 S 32 (cL (cL (cR (cL (cR (cR (cB Tryd.f76))))))) (mkS [(1, ls 5 false enc36 x.1), (2, .func (.func 52) #[] #[]), (15, ls 5 false enc36 x.2.1), (16, .int .i64 x.2.2.1), (17, .int .i64 x.2.2.2)] [] 0 []) (Kblock 0 (Kseq Tryd.prog w0 S 32 (cR (cR (cR (cB Tryd.f76)))) (KEnd Tryd.prog Tryd.f76 (PEnd w0 S (.returned (.bool r))))))) := by
  refine sameI.mutual_partial_correctness (fun (x : Int × Int × Bool × (List Int) × (List S36) × Int × Int × Bool × (List Int) × (List S36)) (r : Bool) => ∀ W0 : World, PTo Tryd.prog W0 52 #[.agg #[.int .u8 x.1, .int .u32 x.2.1, .bool x.2.2.1, ls 1 false (encI .u8) x.2.2.2.1, ls 5 false enc36 x.2.2.2.2.1], .agg #[.int .u8 x.2.2.2.2.2.1, .int .u32 x.2.2.2.2.2.2.1, .bool x.2.2.2.2.2.2.2.1, ls 1 false (encI .u8) x.2.2.2.2.2.2.2.2.1, ls 5 false enc36 x.2.2.2.2.2.2.2.2.2]] (.returned (.bool r))) (fun (x : (List S36) × (List S36)) (r : Bool) => ∀ W0 : World, PTo Tryd.prog W0 76 #[ls 5 false enc36 x.1, ls 5 false enc36 x.2, .func (.func 52) #[] #[]] (.returned (.bool r))) (fun (x : (List S36) × (List S36) × Int × Int) (r : Bool) => ∀ (W0 w0 : World) (S : Own), Std W0 w0 S 0 → HL Tryd.prog w0 S 32 (cL (cL (cR (cL (cR (cR (cB Tryd.f76))))))) (mkS [(1, ls 5 false enc36 x.1), (2, .func (.func 52) #[] #[]), (15, ls 5 false enc36 x.2.1), (16, .int .i64 x.2.2.1), (17, .int .i64 x.2.2.2)] [] 0 []) (Kblock 0 (Kseq Tryd.prog w0 S 32 (cR (cR (cR (cB Tryd.f76)))) (KEnd Tryd.prog Tryd.f76 (PEnd w0 S (.returned (.bool r))))))) ?_ ?_ ?_
  · intro g_equalFunc ih_equalFunc x r h
    intro W0
    refine PTo.of_body (fn := Tryd.f52) (code := cB Tryd.f52) Tryd.func52 rfl rfl ?_
    intro w0 S hS
    haveI := hS.noEx Tryd.prog
    refine H.sr' 3 ?_
    refine H.sg' ?_
    refine HO.go' 5 ?_
    refine HO.bo' (decide (x.1 = x.2.2.2.2.2.1)) (fun hb => ?_) (fun hb => ?_)
    rotate_left
    · rw [if_neg (of_decide_eq_false hb)] at h
      refine HO.fin' 28 ?_
      exact H.ren' hS [] (sameI_L1_ok false r h W0 w0 S hS)
    rw [if_pos (of_decide_eq_true hb)] at h
    refine HO.go' 6 ?_
    refine HO.bo' (decide (x.2.1 = x.2.2.2.2.2.2.1)) (fun hb => ?_) (fun hb => ?_)
    rotate_left
    · rw [if_neg (of_decide_eq_false hb)] at h
      refine HO.fin' 21 ?_
      exact H.ren' hS [] (sameI_L1_ok false r h W0 w0 S hS)
    rw [if_pos (of_decide_eq_true hb)] at h
    refine HO.go' 6 ?_
    refine HO.bo' (x.2.2.1 == x.2.2.2.2.2.2.2.1) (fun hb => ?_) (fun hb => ?_)
    rotate_left
    · rw [if_neg (ne_true hb)] at h
      refine HO.fin' 14 ?_
      exact H.ren' hS [] (sameI_L1_ok false r h W0 w0 S hS)
    rw [if_pos hb] at h
    refine HO.go' 4 ?_
    obtain ⟨y1, hy, h⟩ := bindS h
    refine HO.callW hS [.list 1 false, .list 1 false] (bytesEqual_ok (x.2.2.2.1, x.2.2.2.2.2.2.2.2.1) y1 hy W0) (by kernel_rfl) (by kernel_rfl) ?_
    refine HO.go' 1 ?_
    refine HO.bo' y1 (fun hb => ?_) (fun hb => ?_)
    rotate_left
    · rw [if_neg (ne_true hb)] at h
      refine HO.fin' 7 ?_
      exact H.ren' hS [] (sameI_L1_ok false r h W0 w0 S hS)
    rw [if_pos hb] at h
    refine HO.go' 4 ?_
    obtain ⟨y2, hy, h⟩ := bindS h
    refine HO.callW hS [.list 5 false, .list 5 false, .keep] (ih_equalFunc (x.2.2.2.2.1, x.2.2.2.2.2.2.2.2.2) y2 hy W0) (by kernel_rfl) (by kernel_rfl) ?_
    refine HO.fin' 2 ?_
    exact H.ren' hS [] (sameI_L1_ok y2 r h W0 w0 S hS)
  · intro g_equalFunc_L1 ih_equalFunc_L1 x r h
    intro W0
    refine PTo.of_body (fn := Tryd.f76) (code := cB Tryd.f76) Tryd.func76 rfl rfl ?_
    intro w0 S hS
    haveI := hS.noEx Tryd.prog
    refine H.sr' 1 ?_
    refine H.seq' ?_
    refine H.sg' ?_
    refine HO.go' 1 ?_
    refine HO.len (by kernel_rfl) (by kernel_rfl) (ls_size enc36 x.1) ?_
    refine HO.go' 1 ?_
    refine HO.len (by kernel_rfl) (by kernel_rfl) (ls_size enc36 x.2) ?_
    refine HO.fin' 1 ?_
    refine H.cS' (!decide ((x.1.length : Int) = (x.2.length : Int))) (fun hb => ?_) (fun hb => ?_)
    · rw [if_pos hb] at h
      refine H.sr' 1 ?_
      refine H.ret' ?_
      refine Kseq_ret ?_
      obtain rfl := Option.some.inj h
      exact KEnd.r'
    rw [if_neg (ne_true hb)] at h
    refine H.skp' ?_
    refine Kseq_norm ?_
    refine H.seq' ?_
    refine H.sg' ?_
    refine HO.go' 1 ?_
    refine HO.len (by kernel_rfl) (by kernel_rfl) (ls_size enc36 x.1) ?_
    refine HO.fin' 1 ?_
    refine H.blk' 0 ?_
    refine H.lop' ?_
    exact HL.ren' hS [] (ih_equalFunc_L1 (x.2, x.1, (x.1.length : Int), 0) r h W0 w0 S hS)
  · intro g_sameI g_equalFunc_L1 ih_sameI ih_equalFunc_L1 x r h
    intro W0 w0 S hS
    haveI := hS.noEx Tryd.prog
    refine HL.round ?_
    refine H.sr' 1 ?_
    refine H.seq' ?_
    refine H.cS' (decide (x.2.2.2 < x.2.2.1)) (fun hb => ?_) (fun hb => ?_)
    rotate_left
    · rw [if_neg (of_decide_eq_false hb)] at h
      refine H.ext' 0 ?_
      refine Kseq_exit ?_
      refine Kloop_exit ?_
      refine Kblock_hit ?_
      refine Kseq_norm ?_
      refine H.sr' 1 ?_
      refine H.ret' ?_
      obtain rfl := Option.some.inj h
      exact KEnd.r'
    rw [if_pos (of_decide_eq_true hb)] at h
    refine H.skp' ?_
    refine Kseq_norm ?_
    refine H.seq' ?_
    refine H.blk' 1 ?_
    refine H.sg' ?_
    refine HO.go' 1 ?_
    obtain ⟨y1, hy, h⟩ := bindS h
    refine HO.idx (.agg #[.int .u8 y1.c0, .int .u32 y1.c1, .bool y1.c2, ls 1 false (encI .u8) y1.c3, ls 5 false enc36 y1.c4]) hy (enc36_eq y1) (by kernel_rfl) ?_
    refine HO.fin' 4 ?_
    refine H.sg' ?_
    refine HO.go' 2 ?_
    obtain ⟨y2, hy, h⟩ := bindS h
    refine HO.idx (.agg #[.int .u8 y2.c0, .int .u32 y2.c1, .bool y2.c2, ls 1 false (encI .u8) y2.c3, ls 5 false enc36 y2.c4]) hy (enc36_eq y2) (by kernel_rfl) ?_
    refine HO.fin' 3 ?_
    refine H.sg' ?_
    refine HO.go' 3 ?_
    obtain ⟨y3, hy, h⟩ := bindS h
    refine HO.callW hS [.agg [.keep, .keep, .keep, .list 1 false, .list 5 false], .agg [.keep, .keep, .keep, .list 1 false, .list 5 false]] (ih_sameI (y1.c0, y1.c1, y1.c2, y1.c3, y1.c4, y2.c0, y2.c1, y2.c2, y2.c3, y2.c4) y3 hy W0) (by kernel_rfl) (by kernel_rfl) ?_
    refine HO.fin' 1 ?_
    refine H.cS' (!y3) (fun hb => ?_) (fun hb => ?_)
    rotate_left
    · rw [if_neg (ne_true hb)] at h
      refine H.skp' ?_
      refine Kblock_norm ?_
      refine Kseq_norm ?_
      refine H.reg' ?_
      refine HO.go' 2 ?_
      refine HO.end' ?_
      refine Kloop_norm ?_
      exact HL.ren' hS [] (ih_equalFunc_L1 (x.1, x.2.1, x.2.2.1, (IntKind.i64.wrap (x.2.2.2 + 1))) r h W0 w0 S hS)
    rw [if_pos hb] at h
    refine H.sr' 1 ?_
    refine H.ret' ?_
    refine Kblock_ret ?_
    refine Kseq_ret ?_
    refine Kloop_ret ?_
    refine Kblock_ret ?_
    refine Kseq_ret ?_
    obtain rfl := Option.some.inj h
    exact KEnd.r'
theorem sameI_ok : ∀ (x : Int × Int × Bool × (List Int) × (List S36) × Int × Int × Bool × (List Int) × (List S36)) (r : Bool), sameI x = some r → ∀ W0 : World, PTo Tryd.prog W0 52 #[.agg #[.int .u8 x.1, .int .u32 x.2.1, .bool x.2.2.1, ls 1 false (encI .u8) x.2.2.2.1, ls 5 false enc36 x.2.2.2.2.1], .agg #[.int .u8 x.2.2.2.2.2.1, .int .u32 x.2.2.2.2.2.2.1, .bool x.2.2.2.2.2.2.2.1, ls 1 false (encI .u8) x.2.2.2.2.2.2.2.2.1, ls 5 false enc36 x.2.2.2.2.2.2.2.2.2]] (.returned (.bool r)) := sameI_grp.1
theorem equalFunc_ok : ∀ (x : (List S36) × (List S36)) (r : Bool), equalFunc x = some r → ∀ W0 : World, PTo Tryd.prog W0 76 #[ls 5 false enc36 x.1, ls 5 false enc36 x.2, .func (.func 52) #[] #[]] (.returned (.bool r)) := sameI_grp.2.1
theorem equalFunc_L1_ok : ∀ (x : (List S36) × (List S36) × Int × Int) (r : Bool), equalFunc_L1 x = some r → ∀ (W0 w0 : World) (S : Own), Std W0 w0 S 0 → HL Tryd.prog w0 S 32 (cL (cL (cR (cL (cR (cR (cB Tryd.f76))))))) (mkS [(1, ls 5 false enc36 x.1), (2, .func (.func 52) #[] #[]), (15, ls 5 false enc36 x.2.1), (16, .int .i64 x.2.2.1), (17, .int .i64 x.2.2.2)] [] 0 []) (Kblock 0 (Kseq Tryd.prog w0 S 32 (cR (cR (cR (cB Tryd.f76)))) (KEnd Tryd.prog Tryd.f76 (PEnd w0 S (.returned (.bool r)))))) := sameI_grp.2.2
def sameT_L1 (x : Bool) : Option (Bool) :=
  some x
theorem sameT_L1_ok : ∀ (x : Bool) (r : Bool), sameT_L1 x = some r → ∀ (W0 w0 : World) (S : Own), Std W0 w0 S 0 → H Tryd.prog w0 S 18 (cR (cR (cB Tryd.f20))) (mkS [(4, .bool x)] [] 0 []) (KEnd Tryd.prog Tryd.f20 (PEnd w0 S (.returned (.bool r)))) := by
  intro x r h
  unfold sameT_L1 at h
  intro W0 w0 S hS
  haveI := hS.noEx Tryd.prog
  refine H.ret' ?_
  obtain rfl := Option.some.inj h
  exact KEnd.r'
def sameT (x : Int × Int × Bool × (List Int) × (List S36) × Int × Int × Bool × (List Int) × (List S36)) : Option (Bool) :=
  (check (x.1, x.2.1, x.2.2.1, x.2.2.2.1, x.2.2.2.2.1)) >>= fun y1 =>
  if y1 = 0 then
    (check (x.2.2.2.2.2.1, x.2.2.2.2.2.2.1, x.2.2.2.2.2.2.2.1, x.2.2.2.2.2.2.2.2.1, x.2.2.2.2.2.2.2.2.2)) >>= fun y2 =>
    if y2 = 0 then
      (sameI (x.1, x.2.1, x.2.2.1, x.2.2.2.1, x.2.2.2.2.1, x.2.2.2.2.2.1, x.2.2.2.2.2.2.1, x.2.2.2.2.2.2.2.1, x.2.2.2.2.2.2.2.2.1, x.2.2.2.2.2.2.2.2.2)) >>= fun y3 =>
      sameT_L1 y3
    else
      sameT_L1 false
  else
    sameT_L1 false
theorem sameT_ok : ∀ (x : Int × Int × Bool × (List Int) × (List S36) × Int × Int × Bool × (List Int) × (List S36)) (r : Bool), sameT x = some r → ∀ W0 : World, PTo Tryd.prog W0 20 #[.agg #[.int .u8 x.1, .int .u32 x.2.1, .bool x.2.2.1, ls 1 false (encI .u8) x.2.2.2.1, ls 5 false enc36 x.2.2.2.2.1], .agg #[.int .u8 x.2.2.2.2.2.1, .int .u32 x.2.2.2.2.2.2.1, .bool x.2.2.2.2.2.2.2.1, ls 1 false (encI .u8) x.2.2.2.2.2.2.2.2.1, ls 5 false enc36 x.2.2.2.2.2.2.2.2.2]] (.returned (.bool r)) := by
  intro x r h
  unfold sameT at h
  intro W0
  refine PTo.of_body (fn := Tryd.f20) (code := cB Tryd.f20) Tryd.func20 rfl rfl ?_
  intro w0 S hS
  haveI := hS.noEx Tryd.prog
  refine H.sr' 3 ?_
  refine H.sg' ?_
  refine HO.go' 1 ?_
  obtain ⟨y1, hy, h⟩ := bindS h
  refine HO.callW hS [.agg [.keep, .keep, .keep, .list 1 false, .list 5 false]] (check_ok (x.1, x.2.1, x.2.2.1, x.2.2.2.1, x.2.2.2.2.1) y1 hy W0) (by kernel_rfl) (by kernel_rfl) ?_
  refine HO.go' 1 ?_
  refine HO.bo' (decide (y1 = 0)) (fun hb => ?_) (fun hb => ?_)
  rotate_left
  · rw [if_neg (of_decide_eq_false hb)] at h
    refine HO.fin' 10 ?_
    exact H.ren' hS [] (sameT_L1_ok false r h W0 w0 S hS)
  rw [if_pos (of_decide_eq_true hb)] at h
  refine HO.go' 1 ?_
  obtain ⟨y2, hy, h⟩ := bindS h
  refine HO.callW hS [.agg [.keep, .keep, .keep, .list 1 false, .list 5 false]] (check_ok (x.2.2.2.2.2.1, x.2.2.2.2.2.2.1, x.2.2.2.2.2.2.2.1, x.2.2.2.2.2.2.2.2.1, x.2.2.2.2.2.2.2.2.2) y2 hy W0) (by kernel_rfl) (by kernel_rfl) ?_
  refine HO.go' 2 ?_
  refine HO.bo' (decide (y2 = 0)) (fun hb => ?_) (fun hb => ?_)
  rotate_left
  · rw [if_neg (of_decide_eq_false hb)] at h
    refine HO.fin' 5 ?_
    exact H.ren' hS [] (sameT_L1_ok false r h W0 w0 S hS)
  rw [if_pos (of_decide_eq_true hb)] at h
  refine HO.go' 2 ?_
  obtain ⟨y3, hy, h⟩ := bindS h
  refine HO.callW hS [.agg [.keep, .keep, .keep, .list 1 false, .list 5 false], .agg [.keep, .keep, .keep, .list 1 false, .list 5 false]] (sameI_ok (x.1, x.2.1, x.2.2.1, x.2.2.2.1, x.2.2.2.2.1, x.2.2.2.2.2.1, x.2.2.2.2.2.2.1, x.2.2.2.2.2.2.2.1, x.2.2.2.2.2.2.2.2.1, x.2.2.2.2.2.2.2.2.2) y3 hy W0) (by kernel_rfl) (by kernel_rfl) ?_
  refine HO.fin' 2 ?_
  exact H.ren' hS [] (sameT_L1_ok y3 r h W0 w0 S hS)
def clip (x : (List Int)) : Option ((List Int)) :=
  (sub' x 0 (x.length : Int)) >>= fun y1 =>
  some y1
theorem clip_ok : ∀ (x : (List Int)) (r : (List Int)), clip x = some r → ∀ W0 : World, PTo Tryd.prog W0 57 #[ls 1 false (encI .u8) x] (.returned (ls 1 true (encI .u8) r)) := by
  intro x r h
  unfold clip at h
  intro W0
  refine PTo.of_body (fn := Tryd.f57) (code := cB Tryd.f57) Tryd.func57 rfl rfl ?_
  intro w0 S hS
  haveI := hS.noEx Tryd.prog
  refine H.sr' 1 ?_
  refine H.sg' ?_
  refine HO.go' 2 ?_
  refine HO.len (by kernel_rfl) (by kernel_rfl) (ls_size (encI .u8) x) ?_
  refine HO.go' 1 ?_
  refine HO.len (by kernel_rfl) (by kernel_rfl) (ls_size (encI .u8) x) ?_
  obtain ⟨y1, hy, h⟩ := bindS h
  refine HO.valA (sl4_aop (enc := (encI .u8)) (k := 1) (j := .i64) (j' := .i64) false hy (by kernel_rfl)) ?_
  refine HO.fin' 1 ?_
  refine H.ret' ?_
  obtain rfl := Option.some.inj h
  exact KEnd.retW (v := ls 1 true (encI .u8) y1) (.list 1 true) (by kernel_rfl) (by kernel_rfl) (by kernel_rfl) (by kernel_rfl)
def fieldsC_L3 (x : Bool × Int × Int × Int) : Option (Int × Int × Int × Int × Int × (List Int) × Bool) :=
  some (x.2.1, x.2.2.1, 0, 0, x.2.2.2, [], x.1)
theorem fieldsC_L3_ok : ∀ (x : Bool × Int × Int × Int) (r : Int × Int × Int × Int × Int × (List Int) × Bool), fieldsC_L3 x = some r → ∀ (W0 w0 : World) (S : Own), Std W0 w0 S 0 → H Tryd.prog w0 S 111 (cR (cR (cR (cL (cR (cL (cR (cR (cR (cR (cR (cB Tryd.f64)))))))))))) (mkS [(2, .pointer (some ⟨0, 0, none⟩)), (3, .bool x.1)] [(0, .cells [.int .u8 x.2.1, .int .i64 x.2.2.1, .int .i64 0, .int .i64 0, .int .u8 x.2.2.2, .slice none 0 0] 70 6)] 1 []) (Kseq Tryd.prog w0 S 111 (cR (cR (cR (cR (cR (cR (cB Tryd.f64))))))) (KEnd Tryd.prog Tryd.f64 (PEnd w0 S (.returned (.tuple #[.agg #[.int .u8 r.1, .int .i64 r.2.1, .int .i64 r.2.2.1, .int .i64 r.2.2.2.1, .int .u8 r.2.2.2.2.1, ls 1 false (encI .u8) r.2.2.2.2.2.1], .bool r.2.2.2.2.2.2]))))) := by
  intro x r h
  unfold fieldsC_L3 at h
  intro W0 w0 S hS
  haveI := hS.noEx Tryd.prog
  refine H.ret' ?_
  refine Kseq_ret ?_
  obtain rfl := Option.some.inj h
  exact KEnd.retW (v := .tuple #[.agg #[.int .u8 x.2.1, .int .i64 x.2.2.1, .int .i64 0, .int .i64 0, .int .u8 x.2.2.2, .slice none 0 0], .bool x.1]) (.tuple [.agg [.keep, .keep, .keep, .keep, .keep, .list 1 false], .keep]) (by kernel_rfl) (by kernel_rfl) (by kernel_rfl) (by kernel_rfl)
def fieldsC_L6 (x : Bool × Int × Int × Int × Int × (List Int)) : Option (Int × Int × Int × Int × Int × (List Int) × Bool) :=
  some (x.2.1, x.2.2.1, x.2.2.2.1, x.2.2.2.2.1, 0, x.2.2.2.2.2, x.1)
theorem fieldsC_L6_ok : ∀ (x : Bool × Int × Int × Int × Int × (List Int)) (r : Int × Int × Int × Int × Int × (List Int) × Bool), fieldsC_L6 x = some r → ∀ (W0 w0 : World) (S : Own), Std W0 w0 S 0 → H Tryd.prog w0 S 111 (cR (cR (cR (cR (cR (cR (cR (cR (cR (cR (cR (cR (cR (cB Tryd.f64)))))))))))))) (mkS [(2, .pointer (some ⟨0, 0, none⟩)), (3, .bool x.1)] [(0, .cells [.int .u8 x.2.1, .int .i64 x.2.2.1, .int .i64 x.2.2.2.1, .int .i64 x.2.2.2.2.1, .int .u8 0, ls 1 true (encI .u8) x.2.2.2.2.2] 70 6)] 1 []) (KEnd Tryd.prog Tryd.f64 (PEnd w0 S (.returned (.tuple #[.agg #[.int .u8 r.1, .int .i64 r.2.1, .int .i64 r.2.2.1, .int .i64 r.2.2.2.1, .int .u8 r.2.2.2.2.1, ls 1 false (encI .u8) r.2.2.2.2.2.1], .bool r.2.2.2.2.2.2])))) := by
  intro x r h
  unfold fieldsC_L6 at h
  intro W0 w0 S hS
  haveI := hS.noEx Tryd.prog
  refine H.ret' ?_
  obtain rfl := Option.some.inj h
  exact KEnd.retW (v := .tuple #[.agg #[.int .u8 x.2.1, .int .i64 x.2.2.1, .int .i64 x.2.2.2.1, .int .i64 x.2.2.2.2.1, .int .u8 0, ls 1 true (encI .u8) x.2.2.2.2.2], .bool x.1]) (.tuple [.agg [.keep, .keep, .keep, .keep, .keep, .list 1 false], .keep]) (by kernel_rfl) (by kernel_rfl) (by kernel_rfl) (by kernel_rfl)
end Vf
