import Derived.Test.YtcokmnpgeokfpaaDoorVfW
namespace Vf
open Go Go.Vx
set_option linter.unusedVariables false
theorem wrap64 {n : Int} (h0 : -9223372036854775808 ≤ n) (h1 : n < 9223372036854775808) : IntKind.i64.wrap n = n := by
  unfold IntKind.wrap
  simp only [IntKind.bits, IntKind.signed, Bool.true_and]
  split <;> rename_i h <;> simp at h <;> omega
theorem at'_get {α : Type} {l : List α} {i : Nat} {x : α} (h : l[i]? = some x) : at' l (i : Int) = some x := by
  unfold at'
  rw [if_pos (by omega)]
  simpa using h
theorem index1_loop {ps : List S36} {b : S36 → Bool} (hb : ∀ p, p ∈ ps → plainF (p.c0, p.c1, p.c2, p.c3, p.c4) = some (b p)) (hn : ps.length < 9223372036854775808) : ∀ (m i : Nat), i + m = ps.length →
    ∃ r : Int, indexF_1_L1 (ps, (ps.length : Int), (i : Int)) = some r ∧ (0 ≤ r ↔ (ps.drop i).any b = true)
  | 0, i, h => by
    refine ⟨-1, ?_, ?_⟩
    · rw [indexF_1_L1]
      simp only
      rw [if_neg (by omega)]
    · rw [List.drop_of_length_le (by omega)]
      simp
  | m + 1, i, h => by
    obtain ⟨p, hp⟩ : ∃ p, ps[i]? = some p := ⟨_, List.getElem?_eq_getElem (by omega)⟩
    have hd : ps.drop i = p :: ps.drop (i + 1) := by
      obtain ⟨hi, rfl⟩ := List.getElem?_eq_some_iff.1 hp
      exact List.drop_eq_getElem_cons hi
    rw [indexF_1_L1]
    simp only
    rw [if_pos (by omega), at'_get hp]
    simp only [Option.bind_eq_bind, Option.bind_some, hb p (List.mem_of_getElem? hp)]
    cases hbp : b p with
    | true => exact ⟨i, by simp, by rw [hd]; simp [hbp]⟩
    | false =>
      obtain ⟨r, h1, h2⟩ := index1_loop hb hn m (i + 1) (by omega)
      refine ⟨r, ?_, ?_⟩
      · rw [if_neg (by simp), wrap64 (by omega) (by omega)]
        exact_mod_cast h1
      · rw [h2, hd]; simp [hbp]
theorem contains_ok {ps : List S36} {b : S36 → Bool} (hb : ∀ p, p ∈ ps → plainF (p.c0, p.c1, p.c2, p.c3, p.c4) = some (b p)) (hn : ps.length < 9223372036854775808) : containsF ps = some (ps.any b) := by
  obtain ⟨r, h1, h2⟩ := index1_loop hb hn ps.length 0 (by omega)
  rw [containsF, indexF_1]
  have h1' : indexF_1_L1 (ps, (ps.length : Int), 0) = some r := h1
  rw [h1']
  simp only [Option.bind_eq_bind, Option.bind_some, Option.some.injEq]
  rw [List.drop_zero] at h2
  cases hq : ps.any b with
  | true => exact decide_eq_true (h2.2 hq)
  | false => exact decide_eq_false (fun h => by rw [hq] at h2; exact absurd (h2.1 h) (by simp))
/-- a plain element's own fields -/
def okF (c0 c1 : Int) (c2 : Bool) (lv lp : Nat) : Bool := decide (c0 ≤ 3) && decide (c1 ≤ 2097151) && !(decide (c0 = 0) && decide (c1 = 0)) && (if c2 then decide (lv = 0) else decide (lp = 0))
mutual
def plainB : S36 → Bool
  | .mk c0 c1 c2 c3 c4 => okF c0 c1 c2 c3.length c4.length && plainBL c4
def plainBL : List S36 → Bool
  | [] => true
  | p :: l => plainB p && plainBL l
end
mutual
def smallB : S36 → Prop
  | .mk _ _ _ _ c4 => c4.length < 9223372036854775808 ∧ smallBL c4
def smallBL : List S36 → Prop
  | [] => True
  | p :: l => smallB p ∧ smallBL l
end
theorem plainBL_eq : ∀ l, plainBL l = l.all plainB
  | [] => by rw [plainBL]; rfl
  | p :: l => by rw [plainBL, plainBL_eq l]; rfl
theorem smallBL_mem : ∀ {l}, smallBL l → ∀ p, p ∈ l → smallB p
  | [], _, p, h => by simp at h
  | q :: l, h, p, hp => by
    rw [smallBL] at h
    rcases List.mem_cons.1 hp with rfl | hp
    · exact h.1
    · exact smallBL_mem h.2 p hp
theorem plain_val : ∀ (n : Nat) (x : S36), sizeOf x < n → smallB x → plain (x.c0, x.c1, x.c2, x.c3, x.c4) = some (plainB x)
  | 0, x, h, _ => by omega
  | n + 1, .mk c0 c1 c2 c3 c4, h, hs => by
    rw [smallB] at hs
    have hb : ∀ p, p ∈ c4 → plainF (p.c0, p.c1, p.c2, p.c3, p.c4) = some (!plainB p) := by
      intro p hp
      have h1 : sizeOf p < sizeOf c4 := List.sizeOf_lt_of_mem hp
      rw [plainF]
      simp only
      rw [plain_val n p (by simp at h; omega) (smallBL_mem hs.2 p hp)]
      rfl
    have hc := contains_ok hb hs.1
    have hany : (!(c4.any fun p => !plainB p)) = c4.all plainB := by simp [List.all_eq_not_any_not]
    rw [plainB, plainBL_eq]
    rw [plain]
    simp only [plain_L1, plain_L2, hc, Option.bind_eq_bind, Option.bind_some, hany, okF]
    by_cases a1 : 3 < c0
    · rw [if_pos a1]; simp; omega
    · rw [if_neg a1]
      by_cases a2 : 2097151 < c1
      · rw [if_pos a2]; simp; omega
      · rw [if_neg a2]
        by_cases a3 : c0 = 0 <;> by_cases a4 : c1 = 0 <;> cases c2 <;> cases c3 <;> cases c4 <;> simp_all <;> omega
/-- good elements, nested at most n deep -/
def Gd : Nat → S36 → Prop
  | 0, _ => False
  | n + 1, x => (-4 < x.c0 ∧ x.c0 < 4) ∧ (-2097152 < x.c1 ∧ x.c1 < 2097152) ∧ ¬ (x.c0 = 0 ∧ x.c1 = 0) ∧ (x.c2 = true → x.c3 = []) ∧ (x.c2 = false → x.c4 = []) ∧ x.c3.length ≤ 300 ∧ ∀ p, p ∈ x.c4 → Gd n p
/-- how many elements -/
def szG : Nat → S36 → Nat
  | 0, _ => 0
  | n + 1, x => 1 + (x.c4.map (szG n)).sum
theorem meas_loop {d : Int} {ps : List S36} {f : S36 → Nat} (hn : ps.length < 9223372036854775808) (hd : 0 ≤ d ∧ d ≤ 16) (hf : ∀ p, p ∈ ps → ∀ c : Int, 0 ≤ c → c + f p ≤ 1024 → measure (p.c0, p.c1, p.c2, p.c3, p.c4, d + 1, c) = some (true, c + f p)) : ∀ (m i : Nat) (c : Int), i + m = ps.length → 0 ≤ c → c + ((ps.drop i).map f).sum ≤ 1024 →
    measure_L2 (d, ps, (ps.length : Int), (i : Int), c) = some (true, c + ((ps.drop i).map f).sum)
  | 0, i, c, h, h0, h1 => by
    rw [measure_L2]
    simp only
    rw [if_neg (by omega), List.drop_of_length_le (by omega)]
    simp
  | m + 1, i, c, h, h0, h1 => by
    obtain ⟨p, hp⟩ : ∃ p, ps[i]? = some p := ⟨_, List.getElem?_eq_getElem (by omega)⟩
    have hdr : ps.drop i = p :: ps.drop (i + 1) := by
      obtain ⟨hi, rfl⟩ := List.getElem?_eq_some_iff.1 hp
      exact List.drop_eq_getElem_cons hi
    rw [hdr] at h1 ⊢
    simp only [List.map_cons, List.sum_cons] at h1 ⊢
    rw [measure_L2]
    simp only
    rw [if_pos (by omega), at'_get hp]
    simp only [Option.bind_eq_bind, Option.bind_some]
    rw [wrap64 (by omega) (by omega), hf p (List.mem_of_getElem? hp) c h0 (by omega)]
    simp only [Option.bind_some]
    rw [if_neg (by simp), wrap64 (by omega) (by omega)]
    have := meas_loop hn hd hf m (i + 1) (c + f p) (by omega) (by omega) (by omega)
    rw [show ((i : Int) + 1) = ((i + 1 : Nat) : Int) by omega, this]
    congr 2
    omega
theorem sum_ge : ∀ (l : List Nat), (∀ x, x ∈ l → 1 ≤ x) → l.length ≤ l.sum
  | [], _ => by simp
  | x :: l, h => by
    have := sum_ge l (fun y hy => h y (by simp [hy]))
    have := h x (by simp)
    simp only [List.length_cons, List.sum_cons]
    omega
theorem Gd.pos {n : Nat} {x : S36} (h : Gd n x) : 1 ≤ szG n x := by
  cases n with
  | zero => exact h.elim
  | succ n => rw [szG]; omega
theorem Gd.meas : ∀ (n : Nat) (x : S36) (d c : Int), Gd n x → 0 ≤ d → d + n ≤ 17 → 0 ≤ c → c + szG n x ≤ 1024 → measure (x.c0, x.c1, x.c2, x.c3, x.c4, d, c) = some (true, c + szG n x)
  | 0, x, d, c, h, _, _, _, _ => h.elim
  | n + 1, x, d, c, h, h0, h1, h2, h3 => by
    obtain ⟨_, _, _, _, _, _, hp⟩ := h
    rw [szG] at h3 ⊢
    have hlen : x.c4.length ≤ (x.c4.map (szG n)).sum := by
      have := sum_ge (x.c4.map (szG n)) (fun y hy => by
        obtain ⟨p, hpm, rfl⟩ := List.mem_map.1 hy
        exact (hp p hpm).pos)
      simpa using this
    rw [measure]
    simp only
    rw [if_neg (by omega), measure_L1]
    simp only
    rw [wrap64 (by omega) (by omega), if_neg (by simp; omega)]
    have := meas_loop (d := d) (ps := x.c4) (f := szG n) (by omega) ⟨h0, by omega⟩ (fun p hpm c hc hs => Gd.meas n p (d + 1) c (hp p hpm) (by omega) (by omega) hc hs) x.c4.length 0 (c + 1) (by omega) (by omega) (by simp; omega)
    rw [List.drop_zero] at this
    have this' : measure_L2 (d, x.c4, (x.c4.length : Int), 0, c + 1) = _ := this
    rw [this']
    congr 2
    omega
theorem Gd.len {n : Nat} {x : S36} (h : Gd n x) : x.c4.length ≤ szG n x := by
  cases n with
  | zero => exact h.elim
  | succ n =>
    obtain ⟨_, _, _, _, _, _, hp⟩ := h
    rw [szG]
    have := sum_ge (x.c4.map (szG n)) (fun y hy => by
      obtain ⟨p, hpm, rfl⟩ := List.mem_map.1 hy
      exact (hp p hpm).pos)
    simp at this
    omega
theorem mem_le_sum : ∀ {l : List Nat} {x : Nat}, x ∈ l → x ≤ l.sum
  | [], x, h => by simp at h
  | y :: l, x, h => by
    rw [List.sum_cons]
    rcases List.mem_cons.1 h with rfl | h
    · omega
    · have := mem_le_sum h; omega
theorem szG_mem {n : Nat} {x p : S36} (hp : p ∈ x.c4) : szG n p ≤ szG (n + 1) x := by
  rw [szG]
  have : szG n p ≤ (x.c4.map (szG n)).sum := mem_le_sum (List.mem_map.2 ⟨p, hp, rfl⟩)
  omega
theorem Gd.plain : ∀ (n : Nat) (x : S36), Gd n x → szG n x < 9223372036854775808 → Vf.plain (x.c0, x.c1, x.c2, x.c3, x.c4) = some true
  | 0, x, h, _ => h.elim
  | n + 1, x, h, hs => by
    have hl := h.len
    have hm := fun p hp => @szG_mem n x p hp
    obtain ⟨h0, h1, h2, h3, h4, h5, hp⟩ := h
    have hb : ∀ p, p ∈ x.c4 → plainF (p.c0, p.c1, p.c2, p.c3, p.c4) = some ((fun _ => false) p) := by
      intro p hpm
      rw [plainF]
      simp only
      rw [Gd.plain n p (hp p hpm) (by have := hm p hpm; omega)]
      rfl
    have hc := contains_ok hb (by omega)
    rw [show (x.c4.any fun _ => false) = false by simp] at hc
    rw [Vf.plain]
    simp only [plain_L1, plain_L2, hc, Option.bind_eq_bind, Option.bind_some]
    rw [if_neg (by omega), if_neg (by omega)]
    cases hb2 : x.c2 with
    | true => rw [h3 hb2]; by_cases a3 : x.c0 = 0 <;> by_cases a4 : x.c1 = 0 <;> simp_all
    | false => rw [h4 hb2] at hc ⊢; by_cases a3 : x.c0 = 0 <;> by_cases a4 : x.c1 = 0 <;> simp_all
theorem Gd.check {n : Nat} {x : S36} (h : Gd n x) (hn : n ≤ 16) (hs : szG n x ≤ 1024) : Vf.check (x.c0, x.c1, x.c2, x.c3, x.c4) = some 0 := by
  rw [Vf.check]
  simp only
  rw [Gd.meas n x 1 0 h (by omega) (by omega) (by omega) (by omega)]
  simp only [Option.bind_eq_bind, Option.bind_some]
  rw [if_neg (by simp), Gd.plain n x h (by omega)]
  rfl
/-- field by field -/
def eqB : Nat → S36 → S36 → Bool
  | 0, _, _ => false
  | n + 1, x, y => decide (x.c0 = y.c0) && decide (x.c1 = y.c1) && (x.c2 == y.c2) && strEq (bytesU x.c3) (bytesU y.c3) && decide (x.c4.length = y.c4.length) && (x.c4.zip y.c4).all fun p => eqB n p.1 p.2
theorem equal_loop {n : Nat} {xs ys : List S36} (hlen : xs.length = ys.length) (hn : xs.length < 9223372036854775808) (hf : ∀ x y, x ∈ xs → y ∈ ys → sameI (x.c0, x.c1, x.c2, x.c3, x.c4, y.c0, y.c1, y.c2, y.c3, y.c4) = some (eqB n x y)) : ∀ (m i : Nat), i + m = xs.length →
    equalFunc_L1 (ys, xs, (xs.length : Int), (i : Int)) = some (((xs.drop i).zip (ys.drop i)).all fun p => eqB n p.1 p.2)
  | 0, i, h => by
    rw [equalFunc_L1]
    simp only
    rw [if_neg (by omega), List.drop_of_length_le (by omega)]
    simp
  | m + 1, i, h => by
    obtain ⟨x, hx⟩ : ∃ p, xs[i]? = some p := ⟨_, List.getElem?_eq_getElem (by omega)⟩
    obtain ⟨y, hy⟩ : ∃ p, ys[i]? = some p := ⟨_, List.getElem?_eq_getElem (by omega)⟩
    have hdx : xs.drop i = x :: xs.drop (i + 1) := by
      obtain ⟨hi, rfl⟩ := List.getElem?_eq_some_iff.1 hx
      exact List.drop_eq_getElem_cons hi
    have hdy : ys.drop i = y :: ys.drop (i + 1) := by
      obtain ⟨hi, rfl⟩ := List.getElem?_eq_some_iff.1 hy
      exact List.drop_eq_getElem_cons hi
    rw [equalFunc_L1]
    simp only
    rw [if_pos (by omega), at'_get hx, at'_get hy]
    simp only [Option.bind_eq_bind, Option.bind_some]
    rw [hf x y (List.mem_of_getElem? hx) (List.mem_of_getElem? hy), hdx, hdy]
    simp only [Option.bind_some, List.zip_cons_cons, List.all_cons]
    cases he : eqB n x y with
    | false => rfl
    | true =>
      rw [if_neg (by simp), wrap64 (by omega) (by omega), show ((i : Int) + 1) = ((i + 1 : Nat) : Int) by omega, equal_loop hlen hn hf m (i + 1) (by omega)]
      simp
theorem same_val : ∀ (n : Nat) (x y : S36), Gd n x → Gd n y → szG n x < 9223372036854775808 → szG n y < 9223372036854775808 → sameI (x.c0, x.c1, x.c2, x.c3, x.c4, y.c0, y.c1, y.c2, y.c3, y.c4) = some (eqB n x y)
  | 0, x, y, h, _, _, _ => h.elim
  | n + 1, x, y, hx, hy, sx, sy => by
    have lx := hx.len
    have ly := hy.len
    have mx := fun p hp => @szG_mem n x p hp
    have my := fun p hp => @szG_mem n y p hp
    obtain ⟨_, _, _, _, _, _, px⟩ := hx
    obtain ⟨_, _, _, _, _, _, py⟩ := hy
    have he : equalFunc (x.c4, y.c4) = some (decide (x.c4.length = y.c4.length) && (x.c4.zip y.c4).all fun p => eqB n p.1 p.2) := by
      rw [equalFunc]
      simp only
      by_cases e : x.c4.length = y.c4.length
      · rw [if_neg (by simp [e])]
        have := equal_loop (n := n) e (by omega) (fun a b ha hb => same_val n a b (px a ha) (py b hb) (by have := mx a ha; omega) (by have := my b hb; omega)) x.c4.length 0 (by omega)
        rw [List.drop_zero, List.drop_zero] at this
        have t : equalFunc_L1 (y.c4, x.c4, (x.c4.length : Int), 0) = _ := this
        rw [t]
        simp [e]
      · rw [if_pos (by simp; omega)]
        simp [e]
    rw [sameI]
    simp only [bytesEqual, he, sameI_L1, Option.bind_eq_bind, Option.bind_some, eqB]
    by_cases a0 : x.c0 = y.c0
    · rw [if_pos a0]
      by_cases a1 : x.c1 = y.c1
      · rw [if_pos a1]
        cases a2 : (x.c2 == y.c2) with
        | false => simp [a0, a1]
        | true =>
          cases a3 : strEq (bytesU x.c3) (bytesU y.c3) with
          | false => simp [a0, a1]
          | true => simp [a0, a1]
      · rw [if_neg a1]; simp [a1]
    · rw [if_neg a0]; simp [a0]
/-- the flat list -/
def flatP : Nat → S36 → List S111
  | 0, _ => []
  | n + 1, x => ⟨x.c0, x.c1, x.c2, bytesU x.c3, (x.c4.length : Int)⟩ :: x.c4.flatMap (flatP n)
theorem flatP_length : ∀ n x, (flatP n x).length = szG n x
  | 0, _ => rfl
  | n + 1, x => by
    rw [flatP, szG, List.length_cons, List.length_flatMap]
    have : List.map (fun a => (flatP n a).length) x.c4 = x.c4.map (szG n) := List.map_congr_left (fun p _ => flatP_length n p)
    rw [this]
    omega
theorem sum_drop (l : List S36) (f : S36 → Nat) (i : Nat) : ((l.drop i).map f).sum ≤ (l.map f).sum := by
  induction l generalizing i with
  | nil => simp
  | cons x l ih => cases i with
    | zero => simp
    | succ i => have := ih i; simp only [List.drop_succ_cons, List.map_cons, List.sum_cons]; omega
theorem flat_loop {n : Nat} {ps : List S36} (c0 c1 : Int) (c2 : Bool) (c3 : List Int) (hf : ∀ p, p ∈ ps → Vf.flat (p.c0, p.c1, p.c2, p.c3, p.c4) = some (flatP n p)) (hn : ps.length < 9223372036854775808) : ∀ (m i : Nat) (acc : List S111), i + m = ps.length → acc.length + ((ps.drop i).map (szG n)).sum ≤ 100000 →
    Vf.flat_L1 (acc, (i : Int), c0, c1, c2, c3, ps) = some (acc ++ (ps.drop i).flatMap (flatP n))
  | 0, i, acc, h, _ => by
    rw [Vf.flat_L1]
    simp only
    rw [if_neg (by omega), List.drop_of_length_le (by omega)]
    simp
  | m + 1, i, acc, h, hb => by
    obtain ⟨x, hx⟩ : ∃ p, ps[i]? = some p := ⟨_, List.getElem?_eq_getElem (by omega)⟩
    have hdx : ps.drop i = x :: ps.drop (i + 1) := by
      obtain ⟨hi, rfl⟩ := List.getElem?_eq_some_iff.1 hx
      exact List.drop_eq_getElem_cons hi
    rw [hdx] at hb ⊢
    simp only [List.map_cons, List.sum_cons, List.flatMap_cons] at hb ⊢
    rw [Vf.flat_L1]
    simp only
    rw [if_pos (by omega), at'_get hx]
    simp only [Option.bind_eq_bind, Option.bind_some, hf x (List.mem_of_getElem? hx)]
    have hl := flatP_length n x
    have ha : app' 48 acc (flatP n x) = some (acc ++ flatP n x) := by
      unfold app'
      rw [if_pos (by omega)]
    rw [ha]
    simp only [Option.bind_some, flat_L2]
    rw [wrap64 (by omega) (by omega), show ((i : Int) + 1) = ((i + 1 : Nat) : Int) by omega]
    by_cases e : (flatP n x).length = 0
    · rw [if_pos e, flat_loop c0 c1 c2 c3 hf hn m (i + 1) acc (by omega) (by omega), List.eq_nil_of_length_eq_zero e]
      simp
    · rw [if_neg e, flat_loop c0 c1 c2 c3 hf hn m (i + 1) (acc ++ flatP n x) (by omega) (by rw [List.length_append]; omega)]
      simp
theorem Gd.flat : ∀ (n : Nat) (x : S36), Gd n x → szG n x ≤ 1024 → Vf.flat (x.c0, x.c1, x.c2, x.c3, x.c4) = some (flatP n x)
  | 0, x, h, _ => h.elim
  | n + 1, x, h, hs => by
    have lx := h.len
    have mx := fun p hp => @szG_mem n x p hp
    obtain ⟨h0, h1, _, _, _, _, hp⟩ := h
    rw [Vf.flat]
    simp only
    have := flat_loop (n := n) x.c0 x.c1 x.c2 x.c3 (fun p hpm => Gd.flat n p (hp p hpm) (by have := mx p hpm; omega)) (by omega) x.c4.length 0 [⟨x.c0, x.c1, x.c2, bytesU x.c3, (x.c4.length : Int)⟩] (by omega) (by rw [szG] at hs; simp; omega)
    rw [wrap64 (by omega) (by omega), wrap64 (by omega) (by omega), flatP]
    have t : flat_L1 ([⟨x.c0, x.c1, x.c2, bytesU x.c3, (x.c4.length : Int)⟩], 0, x.c0, x.c1, x.c2, x.c3, x.c4) = _ := this
    rw [t]
    simp
/-- two records are equal -/
def eq1 (x y : S111) : Bool := x.c0 == y.c0 && (x.c1 == y.c1 && (x.c2 == y.c2 && (x.c3 == y.c3 && (x.c4 == y.c4 && true))))
def eqF : List S111 → List S111 → Bool
  | [], [] => true
  | x :: xs, y :: ys => eq1 x y && eqF xs ys
  | _, _ => false
theorem eqF_len : ∀ {xs ys : List S111}, eqF xs ys = true → xs.length = ys.length
  | [], [], _ => rfl
  | x :: xs, y :: ys, h => by
    rw [eqF, Bool.and_eq_true] at h
    simp [eqF_len h.2]
  | [], _ :: _, h => by simp [eqF] at h
  | _ :: _, [], h => by simp [eqF] at h
theorem alike_loop (xs ys : List S111) (hl : xs.length = ys.length) (hb : xs.length ≤ 1000000) : ∀ (m i : Nat), i + m = xs.length → Vf.alike_L1 (xs, ys, (i : Int)) = some (eqF (xs.drop i) (ys.drop i))
  | 0, i, h => by
    rw [Vf.alike_L1]
    simp only
    rw [if_neg (by omega), List.drop_of_length_le (by omega), List.drop_of_length_le (by omega)]
    rfl
  | m + 1, i, h => by
    obtain ⟨x, hx⟩ : ∃ p, xs[i]? = some p := ⟨_, List.getElem?_eq_getElem (by omega)⟩
    obtain ⟨y, hy⟩ : ∃ p, ys[i]? = some p := ⟨_, List.getElem?_eq_getElem (by omega)⟩
    have hdx : xs.drop i = x :: xs.drop (i + 1) := by
      obtain ⟨hi, rfl⟩ := List.getElem?_eq_some_iff.1 hx
      exact List.drop_eq_getElem_cons hi
    have hdy : ys.drop i = y :: ys.drop (i + 1) := by
      obtain ⟨hi, rfl⟩ := List.getElem?_eq_some_iff.1 hy
      exact List.drop_eq_getElem_cons hi
    rw [Vf.alike_L1]
    simp only
    rw [if_pos (by omega), at'_get hx, at'_get hy]
    simp only [Option.bind_eq_bind, Option.bind_some]
    rw [hdx, hdy, eqF]
    change (if (!eq1 x y) = true then some false else _) = _
    cases eq1 x y with
    | false => rfl
    | true =>
      rw [if_neg (by simp), wrap64 (by omega) (by omega), show ((i : Int) + 1) = ((i + 1 : Nat) : Int) by omega, alike_loop xs ys hl hb m (i + 1) (by omega)]
      simp
theorem alike_some (xs ys : List S111) (hb : xs.length ≤ 1000000) : Vf.alike (xs, ys) = some (eqF xs ys) := by
  rw [Vf.alike]
  simp only
  by_cases hl : xs.length = ys.length
  · rw [if_neg (by simp [hl])]
    exact alike_loop xs ys hl hb xs.length 0 (by omega)
  · rw [if_pos (by simp; omega)]
    cases h : eqF xs ys with
    | false => rfl
    | true => exact absurd (eqF_len h) hl
theorem bal_loop (b : ByteArray) : ∀ (m i : Nat) (r : List UInt8), i + m = b.size → ByteArray.toList.loop b i r = r.reverse ++ b.data.toList.drop i
  | 0, i, r, h => by
    rw [ByteArray.toList.loop, if_neg (by omega), List.drop_of_length_le (by rw [Array.length_toList]; show b.size ≤ i; omega)]
    simp
  | m + 1, i, r, h => by
    have hi : i < b.data.toList.length := by rw [Array.length_toList]; show i < b.size; omega
    rw [ByteArray.toList.loop, if_pos (by omega), bal_loop b m (i + 1) _ (by omega), List.drop_eq_getElem_cons hi]
    have : b.get! i = b.data.toList[i] := by
      show b.data[i]! = _
      rw [getElem!_pos b.data i (by simpa using hi)]
      simp
    simp [this]
theorem bal (b : ByteArray) : b.toList = b.data.toList := by
  rw [ByteArray.toList, bal_loop b b.size 0 [] (by omega)]
  simp
theorem bytes_beq (a b : ByteArray) : (a == b) = (a.toList == b.toList) := by
  rw [bal, bal]
  cases a; cases b
  rename_i x y
  rw [show ((ByteArray.mk x == ByteArray.mk y) = (x == y)) from rfl]
  rw [Bool.eq_iff_iff]
  simp
theorem Gd.succ : ∀ {n x}, Gd n x → Gd (n + 1) x
  | 0, _, h => h.elim
  | n + 1, x, h => ⟨h.1, h.2.1, h.2.2.1, h.2.2.2.1, h.2.2.2.2.1, h.2.2.2.2.2.1, fun p hp => (h.2.2.2.2.2.2 p hp).succ⟩
theorem Gd.le {n m x} (h : Gd n x) (hm : n ≤ m) : Gd m x := by
  induction m with
  | zero => have : n = 0 := by omega
            subst this; exact h
  | succ m ih =>
    by_cases e : n = m + 1
    · subst e; exact h
    · exact (ih (by omega)).succ
theorem szG_succ : ∀ {n x}, Gd n x → szG (n + 1) x = szG n x
  | 0, _, h => h.elim
  | n + 1, x, h => by
    rw [szG, szG]
    congr 2
    exact List.map_congr_left (fun p hp => szG_succ (h.2.2.2.2.2.2 p hp))
theorem eqB_self : ∀ (n : Nat) (x : S36), Gd n x → eqB n x x = true
  | 0, _, h => h.elim
  | n + 1, x, h => by
    have hz : (x.c4.zip x.c4).all (fun p => eqB n p.1 p.2) = true := by
      rw [List.all_eq_true]
      intro p hp
      obtain ⟨i, hi⟩ := List.getElem?_of_mem hp
      rw [List.getElem?_zip_eq_some] at hi
      have e : p.1 = p.2 := by have := hi.1.symm.trans hi.2; simpa using this
      rw [← e]
      exact eqB_self n p.1 (h.2.2.2.2.2.2 _ (List.mem_of_getElem? hi.1))
    rw [eqB, hz]
    simp [strEq]
theorem sameT_val {x y : S36} (hx : Gd 16 x) (hy : Gd 16 y) (sx : szG 16 x ≤ 1024) (sy : szG 16 y ≤ 1024) : Vf.sameT (x.c0, x.c1, x.c2, x.c3, x.c4, y.c0, y.c1, y.c2, y.c3, y.c4) = some (eqB 16 x y) := by
  rw [Vf.sameT]
  simp only [hx.check (Nat.le_refl _) sx, hy.check (Nat.le_refl _) sy, Option.bind_eq_bind, Option.bind_some, if_true, same_val 16 x y hx hy (by omega) (by omega)]
  rfl
theorem eqF_cons (x y : S111) (xs ys : List S111) : eqF (x :: xs) (y :: ys) = (eq1 x y && eqF xs ys) := rfl
theorem flat_eq : ∀ (n : Nat), (∀ (x y : S36) (r s : List S111), Gd n x → Gd n y → eqF (flatP n x ++ r) (flatP n y ++ s) = (eqB n x y && eqF r s)) ∧
    (∀ (xs ys : List S36) (r s : List S111), (∀ p, p ∈ xs → Gd n p) → (∀ p, p ∈ ys → Gd n p) → xs.length = ys.length → eqF (xs.flatMap (flatP n) ++ r) (ys.flatMap (flatP n) ++ s) = ((xs.zip ys).all (fun p => eqB n p.1 p.2) && eqF r s))
  | 0 => ⟨fun x y r s h => h.elim, fun xs ys r s hx hy hl => by
      cases xs with
      | nil => cases ys with
        | nil => simp
        | cons y ys => simp at hl
      | cons x xs => exact (hx x (by simp)).elim⟩
  | n + 1 => by
    have ih := flat_eq n
    have h1 : ∀ (x y : S36) (r s : List S111), Gd (n + 1) x → Gd (n + 1) y → eqF (flatP (n + 1) x ++ r) (flatP (n + 1) y ++ s) = (eqB (n + 1) x y && eqF r s) := by
      intro x y r s hx hy
      rw [flatP, flatP, List.cons_append, List.cons_append, eqF_cons, eqB]
      have e0 : (x.c0 == y.c0) = decide (x.c0 = y.c0) := rfl
      have e1 : (x.c1 == y.c1) = decide (x.c1 = y.c1) := rfl
      by_cases hl : x.c4.length = y.c4.length
      · rw [ih.2 _ _ r s hx.2.2.2.2.2.2 hy.2.2.2.2.2.2 hl]
        have e4 : ((x.c4.length : Int) == (y.c4.length : Int)) = true := by simp [hl]
        simp only [eq1, e4, bytes_beq, e0, e1, strEq, decide_eq_true hl, Bool.and_true, Bool.and_assoc]
      · have e4 : ((x.c4.length : Int) == (y.c4.length : Int)) = false := beq_eq_false_iff_ne.2 (by omega)
        simp [eq1, e4, hl]
    refine ⟨h1, ?_⟩
    intro xs
    induction xs with
    | nil =>
      intro ys r s hx hy hl
      cases ys with
      | nil => simp
      | cons y ys => simp at hl
    | cons x xs ihx =>
      intro ys r s hx hy hl
      cases ys with
      | nil => simp at hl
      | cons y ys =>
        rw [List.flatMap_cons, List.flatMap_cons, List.append_assoc, List.append_assoc, h1 _ _ _ _ (hx x (by simp)) (hy y (by simp)), ihx ys r s (fun p hp => hx p (by simp [hp])) (fun p hp => hy p (by simp [hp])) (by simpa using hl), List.zip_cons_cons, List.all_cons, Bool.and_assoc]
theorem alike_val {x y : S36} (hx : Gd 16 x) (hy : Gd 16 y) (sx : szG 16 x ≤ 1024) : Vf.alike (flatP 16 x, flatP 16 y) = some (eqB 16 x y) := by
  rw [alike_some _ _ (by rw [flatP_length]; omega)]
  have := (flat_eq 16).1 x y [] [] hx hy
  simpa [eqF] using this
theorem tm_bound (b n : Int) (hn : 0 < n) : -n < Int.tmod b n ∧ Int.tmod b n < n := by
  have h1 := Int.tmod_lt_of_pos b hn
  have h2 := Int.tmod_lt_of_pos (-b) hn
  rw [Int.neg_tmod] at h2
  omega
theorem L6_false (l : List S65) (d next i b0 b1 : Int) (b2 : Bool) (b3 : List Int) (b4 c0 c1 : Int) (acc : List S36) : grown_L6 (l, d, next, i, false, b0, b1, b2, b3, b4, c0, c1, acc) = some (c0, c1, b2, [], acc, next) := by
  rw [grown_L6]
  simp
theorem app_ok {α : Type} {B : Nat} {l m : List α} (h : (l.length + m.length) * B ≤ 70368744177664) : app' B l m = some (l ++ m) := by
  unfold app'
  rw [if_pos (by omega)]
theorem grown_all (l : List S65) : ∀ (j : Nat),
    (∀ at_ d : Nat, 40 - at_ ≤ j → at_ < l.length → at_ < 40 → 1 ≤ d → d ≤ 10 → ∃ t0 t1 t2 t3 t4, ∃ nx : Nat, grown (l, (at_ : Int), (d : Int)) = some (t0, t1, t2, t3, t4, (nx : Int)) ∧ Gd (11 - d) ⟨t0, t1, t2, t3, t4⟩ ∧ szG (11 - d) ⟨t0, t1, t2, t3, t4⟩ + at_ ≤ nx ∧ nx ≤ 40) ∧
    (∀ (d next i : Nat) (b0 b1 : Int) (b2 : Bool) (b3 : List Int) (b4 c0 c1 : Int) (acc : List S36), 40 - next ≤ j → next ≤ 40 → 1 ≤ d → d ≤ 10 → acc.length ≤ next → ∃ acc', ∃ nx : Nat,
      grown_L5 (l, (d : Int), (next : Int), (i : Int), b0, b1, b2, b3, b4, c0, c1, acc) = some (c0, c1, b2, [], acc', (nx : Int)) ∧ nx ≤ 40 ∧ next ≤ nx ∧ (acc'.map (szG (10 - d))).sum + next ≤ (acc.map (szG (10 - d))).sum + nx ∧ ((∀ p, p ∈ acc → Gd (10 - d) p) → ∀ p, p ∈ acc' → Gd (10 - d) p)) := by
  intro j
  induction j with
  | zero =>
    refine ⟨fun at_ d h1 h2 h3 _ _ => by omega, fun d next i b0 b1 b2 b3 b4 c0 c1 acc h1 h2 h3 h4 h5 => ⟨acc, next, ?_, h2, Nat.le_refl _, by omega, fun h => h⟩⟩
    have : decide ((next : Int) < 40) = false := decide_eq_false (by omega)
    rw [grown_L5]
    simp only [this, L6_false]
    split <;> (try rfl)
    split <;> (try rfl)
    split <;> rfl
  | succ j ih =>
    obtain ⟨ihP, ihL⟩ := ih
    have hP : ∀ at_ d : Nat, 40 - at_ ≤ j + 1 → at_ < l.length → at_ < 40 → 1 ≤ d → d ≤ 10 → ∃ t0 t1 t2 t3 t4, ∃ nx : Nat, grown (l, (at_ : Int), (d : Int)) = some (t0, t1, t2, t3, t4, (nx : Int)) ∧ Gd (11 - d) ⟨t0, t1, t2, t3, t4⟩ ∧ szG (11 - d) ⟨t0, t1, t2, t3, t4⟩ + at_ ≤ nx ∧ nx ≤ 40 := by
      intro at_ d h1 h2 h3 h4 h5
      obtain ⟨e, he⟩ : ∃ e, l[at_]? = some e := ⟨_, List.getElem?_eq_getElem h2⟩
      have t4a : -4 < Int.tmod e.c0 4 ∧ Int.tmod e.c0 4 < 4 := tm_bound _ 4 (by decide)
      have t4b : -2097152 < Int.tmod e.c1 2097152 ∧ Int.tmod e.c1 2097152 < 2097152 := tm_bound _ 2097152 (by decide)
      obtain ⟨k0, hk0⟩ : ∃ k0 : Nat, 11 - d = k0 + 1 := ⟨10 - d, by omega⟩
      have hk1 : 10 - d = k0 := by omega
      -- the tag
      obtain ⟨tg, htg0, htg1, htg2⟩ : ∃ tg : Int, (-2097152 < tg ∧ tg < 2097152) ∧ ¬ (Int.tmod e.c0 4 = 0 ∧ tg = 0) ∧ grown (l, (at_ : Int), (d : Int)) = grown_L3 (l, (at_ : Int), (d : Int), e.c0, e.c1, e.c2, e.c3, e.c4, Int.tmod e.c0 4, tg) := by
        have h40 : decide (40 ≤ (at_ : Int)) = false := decide_eq_false (by omega)
        have hst : grown (l, (at_ : Int), (d : Int)) = if Int.tmod e.c0 4 = 0 then grown_L2 (l, (at_ : Int), (d : Int), decide (Int.tmod e.c1 2097152 = 0), e.c0, e.c1, e.c2, e.c3, e.c4, Int.tmod e.c0 4, Int.tmod e.c1 2097152) else grown_L2 (l, (at_ : Int), (d : Int), false, e.c0, e.c1, e.c2, e.c3, e.c4, Int.tmod e.c0 4, Int.tmod e.c1 2097152) := by
          rw [grown]
          simp only
          rw [if_neg (by omega), h40, grown_L1]
          simp only [Bool.false_eq_true, if_false, at'_get he, Option.bind_eq_bind, Option.bind_some]
          rfl
        rw [hst]
        by_cases g0 : Int.tmod e.c0 4 = 0
        · rw [if_pos g0]
          by_cases g1 : Int.tmod e.c1 2097152 = 0
          · refine ⟨2, by omega, by omega, ?_⟩
            rw [grown_L2]
            simp only
            rw [if_pos (by simpa using g1)]
          · refine ⟨Int.tmod e.c1 2097152, t4b, by omega, ?_⟩
            rw [grown_L2]
            simp only
            rw [if_neg (by simpa using g1)]
        · refine ⟨Int.tmod e.c1 2097152, t4b, by omega, ?_⟩
          rw [if_neg g0, grown_L2]
          simp only
          rw [if_neg (by simp)]
      cases hb : e.c2 with
      | true =>
        obtain ⟨acc', nx, hr, hn1, hn2, hn3, hn4⟩ := ihL d (at_ + 1) 0 e.c0 e.c1 true e.c3 e.c4 (Int.tmod e.c0 4) tg [] (by omega) (by omega) h4 h5 (by simp)
        refine ⟨Int.tmod e.c0 4, tg, true, [], acc', nx, ?_, ?_, ?_, hn1⟩
        · rw [htg2, grown_L3]
          simp only [hb]
          rw [if_neg (by simp), wrap64 (by omega) (by omega)]
          exact hr
        · rw [hk0]
          exact ⟨t4a, htg0, htg1, fun _ => rfl, fun h => by simp at h, by simp, hk1 ▸ hn4 (by simp)⟩
        · rw [hk0, szG]
          rw [hk1] at hn3
          simp at hn3
          show 1 + (acc'.map (szG k0)).sum + at_ ≤ nx
          omega
      | false =>
        have hmn : minI (e.c3.length : Int) 300 ≤ (e.c3.length : Int) ∧ 0 ≤ minI (e.c3.length : Int) 300 ∧ minI (e.c3.length : Int) 300 ≤ 300 := by unfold minI; split <;> omega
        have hs : sub' e.c3 0 (minI (e.c3.length : Int) 300) = some (e.c3.take (minI (e.c3.length : Int) 300).toNat) := by
          unfold sub'
          rw [if_pos ⟨by omega, hmn.2.1, hmn.1⟩]
          simp
        generalize hv : e.c3.take (minI (e.c3.length : Int) 300).toNat = v at hs
        have hvl : v.length ≤ 300 := by rw [← hv, List.length_take]; omega
        refine ⟨Int.tmod e.c0 4, tg, false, v, [], at_ + 1, ?_, ?_, ?_, by omega⟩
        · rw [htg2, grown_L3]
          simp only [hb]
          rw [if_pos (by simp), hs]
          simp only [Option.bind_eq_bind, Option.bind_some]
          rw [app_ok (by simp; omega), wrap64 (by omega) (by omega)]
          simp only [Option.bind_some, grown_L4, List.nil_append]
          split
          · rename_i h0
            rw [List.eq_nil_of_length_eq_zero h0]
            simp
          · simp
        · rw [hk0]
          exact ⟨t4a, htg0, htg1, fun h => by simp at h, fun _ => rfl, hvl, fun p hp => by simp at hp⟩
        · rw [hk0, szG]
          show 1 + (([] : List S36).map (szG k0)).sum + at_ ≤ at_ + 1
          simp
          omega
    refine ⟨hP, ?_⟩
    intro d next i b0 b1 b2 b3 b4 c0 c1 acc h1 h2 h3 h4 h5
    have t4a : -4 < Int.tmod b4 4 ∧ Int.tmod b4 4 < 4 := tm_bound _ 4 (by decide)
    have hw : IntKind.i64.wrap (remI .u8 b4 4) = Int.tmod b4 4 := wrap64 (by show _ ≤ Int.tmod b4 4; omega) (by show Int.tmod b4 4 < _; omega)
    by_cases hs : ¬ ((i : Int) < Int.tmod b4 4) ∨ ¬ ((d : Int) < 10) ∨ ¬ ((next : Int) < (l.length : Int)) ∨ ¬ ((next : Int) < 40)
    · refine ⟨acc, next, ?_, h2, Nat.le_refl _, by omega, fun h => h⟩
      rw [grown_L5]
      simp only [hw, L6_false]
      split
      · split
        · split
          · rw [decide_eq_false (by omega), L6_false]
          · rfl
        · rfl
      · rfl
    · have g1 : (i : Int) < Int.tmod b4 4 := by omega
      have g2 : (d : Int) < 10 := by omega
      have g3 : (next : Int) < (l.length : Int) := by omega
      have g4 : (next : Int) < 40 := by omega
      obtain ⟨t0, t1, t2, t3, t4, nx1, e1, hg, hsz, hn⟩ := hP next (d + 1) (by omega) (by omega) (by omega) (by omega) (by omega)
      have hd : 11 - (d + 1) = 10 - d := by omega
      rw [hd] at hg hsz
      have hpos := hg.pos
      obtain ⟨acc', nx, e2, q1, q2, q3, q4⟩ := ihL d nx1 (i + 1) b0 b1 b2 b3 b4 c0 c1 (acc ++ [⟨t0, t1, t2, t3, t4⟩]) (by omega) hn h3 h4 (by simp; omega)
      refine ⟨acc', nx, ?_, q1, by omega, ?_, fun h => q4 (fun p hp => ?_)⟩
      · rw [grown_L5]
        simp only [hw]
        rw [if_pos g1, if_pos g2, if_pos g3, decide_eq_true g4, grown_L6]
        simp only [if_true]
        rw [wrap64 (by omega) (by omega), wrap64 (by omega) (by omega), show ((d : Int) + 1) = ((d + 1 : Nat) : Int) by omega, e1]
        simp only [Option.bind_eq_bind, Option.bind_some]
        rw [app_ok (by simp; omega)]
        exact e2
      · simp only [List.map_append, List.sum_append, List.map_cons, List.map_nil, List.sum_cons, List.sum_nil] at q3
        omega
      · rcases List.mem_append.1 hp with hp | hp
        · exact h p hp
        · simp at hp
          subst hp
          exact hg
theorem big_loop (l : List S65) (hl : l.length < 9223372036854775808) : ∀ (j i : Nat) (n : Int), i + j = l.length → ∃ b, big_L1 (l, n, (i : Int)) = some b
  | 0, i, n, h => ⟨decide (1000 ≤ n), by
      rw [big_L1]
      simp only
      rw [if_neg (by omega), big_L2]
      simp⟩
  | j + 1, i, n, h => by
    obtain ⟨e, he⟩ : ∃ e, l[i]? = some e := ⟨_, List.getElem?_eq_getElem (by omega)⟩
    by_cases hn : n < 1000
    · obtain ⟨b, hb⟩ := big_loop l hl j (i + 1) (IntKind.i64.wrap ((IntKind.i64.wrap (n + 1)) + (quoI .i64 (e.c3.length : Int) 8))) (by omega)
      refine ⟨b, ?_⟩
      rw [big_L1]
      simp only
      rw [if_pos (by omega), decide_eq_true hn, big_L2]
      simp only [if_true, at'_get he, Option.bind_eq_bind, Option.bind_some]
      rw [wrap64 (n := (i : Int) + 1) (by omega) (by omega)]
      exact hb
    · refine ⟨decide (1000 ≤ n), ?_⟩
      rw [big_L1]
      simp only
      rw [if_pos (by omega), decide_eq_false hn, big_L2]
      simp
theorem big_some (l : List S65) (hl : l.length < 9223372036854775808) : ∃ b, big l = some b := by
  rw [big]
  exact big_loop l hl l.length 0 0 (by omega)
/-- what T.Of makes -/
theorem of_some (l : List S65) : ∃ t0 t1 t2 t3 t4, tOf l = some (t0, t1, t2, t3, t4) ∧ Gd 16 ⟨t0, t1, t2, t3, t4⟩ ∧ szG 16 ⟨t0, t1, t2, t3, t4⟩ ≤ 40 := by
  have up : ∀ {x : S36} (m : Nat), Gd 10 x → szG (10 + m) x = szG 10 x := by
    intro x m h
    induction m with
    | zero => rfl
    | succ m ih => rw [← Nat.add_assoc, szG_succ (h.le (by omega)), ih]
  by_cases h0 : l.length = 0
  · refine ⟨3, 1, false, [], [], ?_, ?_, ?_⟩
    · rw [tOf, grown]
      simp only
      rw [if_pos (by omega), grown_L1]
      simp
    · exact ⟨by decide, by decide, by decide, fun h => by simp at h, fun _ => rfl, by simp, fun p hp => by simp at hp⟩
    · rw [szG]; simp
  · obtain ⟨t0, t1, t2, t3, t4, nx, e, hg, hs, hn⟩ := (grown_all l 40).1 0 1 (by omega) (by omega) (by omega) (by omega) (by omega)
    have e' : grown (l, 0, 1) = some (t0, t1, t2, t3, t4, (nx : Int)) := e
    refine ⟨t0, t1, t2, t3, t4, ?_, hg.le (by omega), ?_⟩
    · rw [tOf, e']
      rfl
    · have := up 6 hg
      rw [this]
      have hs' : szG 10 ⟨t0, t1, t2, t3, t4⟩ + 0 ≤ nx := hs
      omega
/-- .. built, with no value -/
theorem Gd.built {t0 t1 : Int} {t2 : Bool} {t3 : List Int} {t4 : List S36} (h : Gd 16 ⟨t0, t1, t2, t3, t4⟩) : Gd 16 ⟨t0, t1, true, [], t4⟩ ∧ szG 16 ⟨t0, t1, true, [], t4⟩ = szG 16 ⟨t0, t1, t2, t3, t4⟩ :=
  ⟨⟨h.1, h.2.1, h.2.2.1, fun _ => rfl, fun e => by simp at e, by simp, h.2.2.2.2.2.2⟩, rfl⟩
def hit (c n : Int) (p : S36) : Bool := decide (p.c0 = c) && decide (p.c1 = n)
theorem findF_val (p : S36) (c n : Int) : findF (p.c0, p.c1, p.c2, p.c3, p.c4, c, n) = some (hit c n p, c, n) := by
  rw [findF]
  simp only [findF_L1, hit]
  by_cases a0 : p.c0 = c
  · rw [if_pos a0]; simp [a0]
  · rw [if_neg a0]; simp [a0]
theorem index_loop {ps : List S36} (c n : Int) (hn : ps.length < 9223372036854775808) : ∀ (m i : Nat), i + m = ps.length →
    ∃ r : Int, indexF_L1 (ps, (ps.length : Int), (i : Int), c, n) = some (r, c, n) ∧ ((r = -1 ∧ ∀ k, i ≤ k → ∀ p, ps[k]? = some p → hit c n p = false) ∨ (∃ k : Nat, r = k ∧ i ≤ k ∧ (∃ p, ps[k]? = some p ∧ hit c n p = true) ∧ ∀ k', i ≤ k' → k' < k → ∀ p, ps[k']? = some p → hit c n p = false))
  | 0, i, h => by
    refine ⟨-1, ?_, .inl ⟨rfl, fun k hk p hp => ?_⟩⟩
    · rw [indexF_L1]
      simp only
      rw [if_neg (by omega)]
    · rw [List.getElem?_eq_none (by omega)] at hp
      exact absurd hp (by simp)
  | m + 1, i, h => by
    obtain ⟨p, hp⟩ : ∃ p, ps[i]? = some p := ⟨_, List.getElem?_eq_getElem (by omega)⟩
    have hst : indexF_L1 (ps, (ps.length : Int), (i : Int), c, n) = if hit c n p = true then some ((i : Int), c, n) else indexF_L1 (ps, (ps.length : Int), ((i + 1 : Nat) : Int), c, n) := by
      rw [indexF_L1]
      simp only
      rw [if_pos (by omega), at'_get hp]
      simp only [Option.bind_eq_bind, Option.bind_some, findF_val]
      rw [wrap64 (by omega) (by omega)]
      rfl
    rw [hst]
    cases hh : hit c n p with
    | true =>
      exact ⟨i, by simp, .inr ⟨i, rfl, Nat.le_refl _, ⟨p, hp, hh⟩, fun k' h1 h2 => by omega⟩⟩
    | false =>
      obtain ⟨r, h1, h2⟩ := index_loop c n hn m (i + 1) (by omega)
      refine ⟨r, by simpa using h1, ?_⟩
      have one : ∀ k, i ≤ k → ¬ i + 1 ≤ k → ∀ q, ps[k]? = some q → hit c n q = false := by
        intro k a b q hq
        have : k = i := by omega
        subst this
        rw [hp] at hq
        cases hq
        exact hh
      rcases h2 with ⟨e, h2⟩ | ⟨k, e, hk, hp2, h2⟩
      · refine .inl ⟨e, fun k hk q hq => ?_⟩
        by_cases a : i + 1 ≤ k
        · exact h2 k a q hq
        · exact one k hk a q hq
      · refine .inr ⟨k, e, by omega, hp2, fun k' a b q hq => ?_⟩
        by_cases a' : i + 1 ≤ k'
        · exact h2 k' a' b q hq
        · exact one k' a a' q hq
section
variable {t0 t1 : Int} {t4 : List S36} {u0 u1 : Int} {u2 : Bool} {u3 : List Int} {u4 : List S36}
theorem loop_step (c n : Int) (ok : Bool) (i : Nat) (g0 g1 : Int) (g2 : Bool) (g3 : List Int) (g4 : List S36) {p : S36} (hp : t4[i]? = some p) :
    law_L4 (c, n, ok, (i : Int), t0, t1, t4, u0, u1, u2, u3, u4, g0, g1, g2, g3, g4) = law_L5 (c, n, ok, (i : Int), hit c n p, t0, t1, t4, u0, u1, u2, u3, u4, g0, g1, g2, g3, g4) := by
  have hi : i < t4.length := (List.getElem?_eq_some_iff.1 hp).1
  rw [law_L4]
  simp only
  rw [if_pos (by omega), at'_get hp]
  simp only [Option.bind_eq_bind, Option.bind_some, hit]
  by_cases a0 : p.c0 = c
  · rw [if_pos a0]; simp [a0]
  · rw [if_neg a0]; simp [a0]
theorem loop_next (c n : Int) (ok : Bool) (i : Nat) (hi : i + 1 < 9223372036854775808) (g0 g1 : Int) (g2 : Bool) (g3 : List Int) (g4 : List S36) :
    law_L5 (c, n, ok, (i : Int), false, t0, t1, t4, u0, u1, u2, u3, u4, g0, g1, g2, g3, g4) = law_L4 (c, n, ok, ((i + 1 : Nat) : Int), t0, t1, t4, u0, u1, u2, u3, u4, g0, g1, g2, g3, g4) := by
  rw [law_L5]
  simp only
  rw [if_neg (by simp), wrap64 (by omega) (by omega)]
  rfl
theorem loop_upto (c n : Int) (ok : Bool) (g0 g1 : Int) (g2 : Bool) (g3 : List Int) (g4 : List S36) (hn : t4.length < 9223372036854775808) (k : Nat) (hk : k ≤ t4.length) (hno : ∀ k', k' < k → ∀ p, t4[k']? = some p → hit c n p = false) : ∀ (m i : Nat), i + m = k →
    law_L4 (c, n, ok, (i : Int), t0, t1, t4, u0, u1, u2, u3, u4, g0, g1, g2, g3, g4) = law_L4 (c, n, ok, (k : Int), t0, t1, t4, u0, u1, u2, u3, u4, g0, g1, g2, g3, g4)
  | 0, i, h => by rw [show i = k by omega]
  | m + 1, i, h => by
    obtain ⟨p, hp⟩ : ∃ p, t4[i]? = some p := ⟨_, List.getElem?_eq_getElem (by omega)⟩
    rw [loop_step c n ok i g0 g1 g2 g3 g4 hp, hno i (by omega) p hp, loop_next c n ok i (by omega)]
    exact loop_upto c n ok g0 g1 g2 g3 g4 hn k hk hno m (i + 1) (by omega)
theorem law_body (c n : Int) (ht : Gd 16 ⟨t0, t1, true, [], t4⟩) (st : szG 16 ⟨t0, t1, true, [], t4⟩ ≤ 40) (hu : Gd 16 ⟨u0, u1, u2, u3, u4⟩) (su : szG 16 ⟨u0, u1, u2, u3, u4⟩ ≤ 40) :
    law_L3 (c, n, t0, t1, t4, u0, u1, u2, u3, u4) = some true := by
  have hl : t4.length ≤ 40 := Nat.le_trans ht.len st
  have mt := fun p (hp : p ∈ t4) => @szG_mem 15 ⟨t0, t1, true, [], t4⟩ p hp
  have hE : ∀ {x y : S36}, Gd 16 x → Gd 16 y → szG 16 x ≤ 40 → szG 16 y ≤ 40 → Vf.sameT (x.c0, x.c1, x.c2, x.c3, x.c4, y.c0, y.c1, y.c2, y.c3, y.c4) = some (eqB 16 x y) := fun hx hy a b => sameT_val hx hy (by omega) (by omega)
  have s1 := hE ht hu st su
  have s2 := hE hu hu su su
  have s3 := hE ht ht st st
  rw [eqB_self 16 _ hu] at s2
  rw [eqB_self 16 _ ht] at s3
  have f1 := ht.flat 16 _ (by omega)
  have f2 := hu.flat 16 _ (by omega)
  have a1 := alike_val ht hu (by omega)
  obtain ⟨r, hr, hcase⟩ := index_loop c n (ps := t4) (by omega) t4.length 0 (by omega)
  have hr' : indexF (t4, c, n) = some (r, c, n) := by
    rw [indexF]
    exact hr
  rw [law_L3]
  simp only
  rw [find]
  simp only [hr', Option.bind_eq_bind, Option.bind_some]
  rcases hcase with ⟨rfl, hno⟩ | ⟨k, rfl, _, ⟨p, hp, hh⟩, hno⟩
  · rw [if_pos (by omega)]
    simp only [Option.bind_some]
    have := loop_upto (t0 := t0) (t1 := t1) (u0 := u0) (u1 := u1) (u2 := u2) (u3 := u3) (u4 := u4) c n false 0 0 false [] [] (by omega) t4.length (Nat.le_refl _) (fun k' _ p hp => hno k' (by omega) p hp) t4.length 0 (by omega)
    refine this.trans ?_
    rw [law_L4]
    simp only
    rw [if_neg (by omega), if_pos (by simp), if_pos trivial]
    simp only at s1 s3 f1 f2
    simp only [s1, s3, f1, f2, a1, Option.bind_eq_bind, Option.bind_some]
    simp [law_L7]
  · rw [if_neg (by omega), at'_get hp]
    simp only [Option.bind_some]
    have hk := (List.getElem?_eq_some_iff.1 hp).1
    have := loop_upto (t0 := t0) (t1 := t1) (u0 := u0) (u1 := u1) (u2 := u2) (u3 := u3) (u4 := u4) c n true p.c0 p.c1 p.c2 p.c3 p.c4 (by omega) k (by omega) (fun k' a p hp => hno k' (by omega) a p hp) k 0 (by omega)
    refine this.trans ?_
    have hpm := List.mem_of_getElem? hp
    have gp : Gd 15 p := ht.2.2.2.2.2.2 p hpm
    have sp : szG 16 p ≤ 40 := by
      have h1 : szG 15 p ≤ szG 16 ⟨t0, t1, true, [], t4⟩ := mt p hpm
      rw [szG_succ gp]
      omega
    have s4 := hE gp.succ gp.succ sp sp
    rw [eqB_self 16 _ gp.succ] at s4
    rw [loop_step c n true k p.c0 p.c1 p.c2 p.c3 p.c4 hp, hh, law_L5]
    simp only [if_true]
    rw [at'_get hp]
    simp only at s1 s2 f1 f2
    simp only [s1, s2, s4, f1, f2, a1, Option.bind_eq_bind, Option.bind_some, if_true]
    simp [law_L6]
end
theorem law_true (l m : List S65) (a b : Int) (hl : l.length < 9223372036854775808) (hm : m.length < 9223372036854775808) (hb : 0 ≤ b) (hb2 : b < 256) : law (l, m, a, b) = some true := by
  obtain ⟨b1, e1⟩ := big_some l hl
  obtain ⟨b2, e2⟩ := big_some m hm
  have key : ∀ y, law_L1 (l, m, y, a, b) = some true := by
    intro y
    rw [law_L1]
    simp only
    cases y with
    | true => simp
    | false =>
      obtain ⟨t0, t1, t2, t3, t4, et, gt, st⟩ := of_some l
      obtain ⟨u0, u1, u2, u3, u4, eu, gu, su⟩ := of_some m
      have gt' := gt.built
      have st' : szG 16 ⟨t0, t1, true, [], t4⟩ ≤ 40 := by rw [gt'.2]; exact st
      have hlen : t4.length ≤ 40 := Nat.le_trans gt.len st
      rw [if_neg (by simp), et, eu]
      simp only [Option.bind_eq_bind, Option.bind_some]
      have hB := fun c n => law_body c n gt'.1 st' gu su
      have h2 : ∀ (c n : Int) (z : Bool), (z = true → 0 < t4.length) → law_L2 (c, n, z, a, b, t0, t1, t4, u0, u1, u2, u3, u4) = some true := by
        intro c n z hz
        rw [law_L2]
        simp only
        cases z with
        | false => rw [if_neg (by simp)]; exact hB _ _
        | true =>
          have hpos := hz rfl
          have h0 := Int.tmod_nonneg (t4.length : Int) hb
          have h1 := Int.tmod_lt_of_pos b (b := (t4.length : Int)) (by omega)
          rw [if_pos rfl, wrap64 (by omega) (by omega)]
          unfold rem'
          rw [if_pos (by omega)]
          obtain ⟨p, hp⟩ : ∃ p, t4[(Int.tmod b t4.length).toNat]? = some p := ⟨_, List.getElem?_eq_getElem (by omega)⟩
          have hat : at' t4 (remI .i64 b t4.length) = some p := by
            unfold at' remI
            rw [if_pos h0, hp]
          simp only [Option.bind_eq_bind, Option.bind_some, hat]
          exact hB _ _
      split
      · exact h2 _ _ _ (fun _ => by omega)
      · exact h2 _ _ _ (fun h => by simp at h)
  rw [law]
  simp only [e1, e2, Option.bind_eq_bind, Option.bind_some]
  cases b1 with
  | true => rw [if_pos rfl]; exact key _
  | false => rw [if_neg (by simp)]; exact key _
#print axioms law_true
end Vf
