import Derived.Test.YtcokmnpgeokfpaaDoorVfWc
set_option linter.unusedVariables false
set_option linter.unusedSimpArgs false
namespace Vf
open Go Go.Vx
theorem wrap64 {n : Int} (h0 : -9223372036854775808 ≤ n) (h1 : n < 9223372036854775808) : IntKind.i64.wrap n = n := by
  unfold IntKind.wrap
  simp only [IntKind.bits, IntKind.signed, Bool.true_and]
  split <;> rename_i h <;> simp at h <;> omega
theorem at'_get {α : Type} {l : List α} {i : Nat} {x : α} (h : l[i]? = some x) : at' l (i : Int) = some x := by
  unfold at'
  rw [if_pos (by omega)]
  simpa using h
theorem index1_loop {ps : List S36} {b : S36 → Bool} (hb : ∀ p, p ∈ ps → plainF (p.c0, p.c1, p.c2, p.c3, p.c4) = some (b p)) (hn : ps.length < 9223372036854775808) : ∀ (m i : Nat), i + m = ps.length →
    ∃ r : Int, indexF_L1 (ps, (ps.length : Int), (i : Int)) = some r ∧ (0 ≤ r ↔ (ps.drop i).any b = true)
  | 0, i, h => by
    refine ⟨-1, ?_, ?_⟩
    · rw [indexF_L1]
      simp only
      rw [if_neg (by omega)]
    · rw [List.drop_of_length_le (by omega)]
      simp
  | m + 1, i, h => by
    obtain ⟨p, hp⟩ : ∃ p, ps[i]? = some p := ⟨_, List.getElem?_eq_getElem (by omega)⟩
    have hd : ps.drop i = p :: ps.drop (i + 1) := by
      obtain ⟨hi, rfl⟩ := List.getElem?_eq_some_iff.1 hp
      exact List.drop_eq_getElem_cons hi
    rw [indexF_L1]
    simp only
    rw [if_pos (by omega), at'_get hp]
    simp only [Option.bind_eq_bind, Option.bind_some, hb p (List.mem_of_getElem? hp)]
    cases hbp : b p with
    | true => exact ⟨i, by simp, by rw [hd]; simp [hbp]⟩
    | false =>
      obtain ⟨r, h1, h2⟩ := index1_loop hb hn m (i + 1) (by omega)
      refine ⟨r, ?_, ?_⟩
      · rw [if_neg (by simp), wrap64 (by omega) (by omega)]
        exact_mod_cast h1
      · rw [h2, hd]; simp [hbp]
theorem contains_ok {ps : List S36} {b : S36 → Bool} (hb : ∀ p, p ∈ ps → plainF (p.c0, p.c1, p.c2, p.c3, p.c4) = some (b p)) (hn : ps.length < 9223372036854775808) : containsF ps = some (ps.any b) := by
  obtain ⟨r, h1, h2⟩ := index1_loop hb hn ps.length 0 (by omega)
  rw [containsF, indexF]
  have h1' : indexF_L1 (ps, (ps.length : Int), 0) = some r := h1
  rw [h1']
  simp only [Option.bind_eq_bind, Option.bind_some, Option.some.injEq]
  rw [List.drop_zero] at h2
  cases hq : ps.any b with
  | true => exact decide_eq_true (h2.2 hq)
  | false => exact decide_eq_false (fun h => by rw [hq] at h2; exact absurd (h2.1 h) (by simp))
def okF (c0 c1 : Int) (c2 : Bool) (lv lp : Nat) : Bool := decide (c0 ≤ 3) && decide (c1 ≤ 2097151) && !(decide (c0 = 0) && decide (c1 = 0)) && (if c2 then decide (lv = 0) else decide (lp = 0))
mutual
def plainB : S36 → Bool
  | .mk c0 c1 c2 c3 c4 => okF c0 c1 c2 c3.length c4.length && plainBL c4
def plainBL : List S36 → Bool
  | [] => true
  | p :: l => plainB p && plainBL l
end
mutual
def smallB : S36 → Prop
  | .mk _ _ _ _ c4 => c4.length < 9223372036854775808 ∧ smallBL c4
def smallBL : List S36 → Prop
  | [] => True
  | p :: l => smallB p ∧ smallBL l
end
def Gd : Nat → S36 → Prop
  | 0, _ => False
  | n + 1, x => (0 ≤ x.c0 ∧ x.c0 < 4) ∧ (0 ≤ x.c1 ∧ x.c1 < 2097152) ∧ ¬ (x.c0 = 0 ∧ x.c1 = 0) ∧ (x.c2 = true → x.c3 = []) ∧ (x.c2 = false → x.c4 = []) ∧ (∀ b, b ∈ x.c3 → 0 ≤ b ∧ b < 256) ∧ ∀ p, p ∈ x.c4 → Gd n p
def Sm : Nat → S36 → Prop
  | 0, _ => False
  | n + 1, x => x.c3.length ≤ 300 ∧ ∀ p, p ∈ x.c4 → Sm n p
def wt : Nat → S36 → Nat
  | 0, _ => 0
  | n + 1, x => 12 + x.c3.length + (x.c4.map (wt n)).sum
def szG : Nat → S36 → Nat
  | 0, _ => 0
  | n + 1, x => 1 + (x.c4.map (szG n)).sum
theorem meas_loop {d : Int} {ps : List S36} {f : S36 → Nat} (hn : ps.length < 9223372036854775808) (hd : 0 ≤ d ∧ d ≤ 16) (hf : ∀ p, p ∈ ps → ∀ c : Int, 0 ≤ c → c + f p ≤ 1024 → measure (p.c0, p.c1, p.c2, p.c3, p.c4, d + 1, c) = some (true, c + f p)) : ∀ (m i : Nat) (c : Int), i + m = ps.length → 0 ≤ c → c + ((ps.drop i).map f).sum ≤ 1024 →
    measure_L2 (d, ps, (ps.length : Int), (i : Int), c) = some (true, c + ((ps.drop i).map f).sum)
  | 0, i, c, h, h0, h1 => by
    rw [measure_L2]
    simp only
    rw [if_neg (by omega), List.drop_of_length_le (by omega)]
    simp
  | m + 1, i, c, h, h0, h1 => by
    obtain ⟨p, hp⟩ : ∃ p, ps[i]? = some p := ⟨_, List.getElem?_eq_getElem (by omega)⟩
    have hdr : ps.drop i = p :: ps.drop (i + 1) := by
      obtain ⟨hi, rfl⟩ := List.getElem?_eq_some_iff.1 hp
      exact List.drop_eq_getElem_cons hi
    rw [hdr] at h1 ⊢
    simp only [List.map_cons, List.sum_cons] at h1 ⊢
    rw [measure_L2]
    simp only
    rw [if_pos (by omega), at'_get hp]
    simp only [Option.bind_eq_bind, Option.bind_some]
    rw [wrap64 (by omega) (by omega), hf p (List.mem_of_getElem? hp) c h0 (by omega)]
    simp only [Option.bind_some]
    rw [if_neg (by simp), wrap64 (by omega) (by omega)]
    have := meas_loop hn hd hf m (i + 1) (c + f p) (by omega) (by omega) (by omega)
    rw [show ((i : Int) + 1) = ((i + 1 : Nat) : Int) by omega, this]
    congr 2
    omega
theorem sum_ge : ∀ (l : List Nat), (∀ x, x ∈ l → 1 ≤ x) → l.length ≤ l.sum
  | [], _ => by simp
  | x :: l, h => by
    have := sum_ge l (fun y hy => h y (by simp [hy]))
    have := h x (by simp)
    simp only [List.length_cons, List.sum_cons]
    omega
theorem Gd.pos {n : Nat} {x : S36} (h : Gd n x) : 1 ≤ szG n x := by
  cases n with
  | zero => exact h.elim
  | succ n => rw [szG]; omega
theorem Gd.meas : ∀ (n : Nat) (x : S36) (d c : Int), Gd n x → 0 ≤ d → d + n ≤ 17 → 0 ≤ c → c + szG n x ≤ 1024 → measure (x.c0, x.c1, x.c2, x.c3, x.c4, d, c) = some (true, c + szG n x)
  | 0, x, d, c, h, _, _, _, _ => h.elim
  | n + 1, x, d, c, h, h0, h1, h2, h3 => by
    obtain ⟨_, _, _, _, _, _, hp⟩ := h
    rw [szG] at h3 ⊢
    have hlen : x.c4.length ≤ (x.c4.map (szG n)).sum := by
      have := sum_ge (x.c4.map (szG n)) (fun y hy => by
        obtain ⟨p, hpm, rfl⟩ := List.mem_map.1 hy
        exact (hp p hpm).pos)
      simpa using this
    rw [measure]
    simp only
    rw [if_neg (by omega), measure_L1]
    simp only
    rw [wrap64 (by omega) (by omega), if_neg (by simp; omega)]
    have := meas_loop (d := d) (ps := x.c4) (f := szG n) (by omega) ⟨h0, by omega⟩ (fun p hpm c hc hs => Gd.meas n p (d + 1) c (hp p hpm) (by omega) (by omega) hc hs) x.c4.length 0 (c + 1) (by omega) (by omega) (by simp; omega)
    rw [List.drop_zero] at this
    have this' : measure_L2 (d, x.c4, (x.c4.length : Int), 0, c + 1) = _ := this
    rw [this']
    congr 2
    omega
theorem Gd.len {n : Nat} {x : S36} (h : Gd n x) : x.c4.length ≤ szG n x := by
  cases n with
  | zero => exact h.elim
  | succ n =>
    obtain ⟨_, _, _, _, _, _, hp⟩ := h
    rw [szG]
    have := sum_ge (x.c4.map (szG n)) (fun y hy => by
      obtain ⟨p, hpm, rfl⟩ := List.mem_map.1 hy
      exact (hp p hpm).pos)
    simp at this
    omega
theorem mem_le_sum : ∀ {l : List Nat} {x : Nat}, x ∈ l → x ≤ l.sum
  | [], x, h => by simp at h
  | y :: l, x, h => by
    rw [List.sum_cons]
    rcases List.mem_cons.1 h with rfl | h
    · omega
    · have := mem_le_sum h; omega
theorem szG_mem {n : Nat} {x p : S36} (hp : p ∈ x.c4) : szG n p ≤ szG (n + 1) x := by
  rw [szG]
  have : szG n p ≤ (x.c4.map (szG n)).sum := mem_le_sum (List.mem_map.2 ⟨p, hp, rfl⟩)
  omega
theorem Gd.plain : ∀ (n : Nat) (x : S36), Gd n x → szG n x < 9223372036854775808 → Vf.plain (x.c0, x.c1, x.c2, x.c3, x.c4) = some true
  | 0, x, h, _ => h.elim
  | n + 1, x, h, hs => by
    have hl := h.len
    have hm := fun p hp => @szG_mem n x p hp
    obtain ⟨h0, h1, h2, h3, h4, h5, hp⟩ := h
    have hb : ∀ p, p ∈ x.c4 → plainF (p.c0, p.c1, p.c2, p.c3, p.c4) = some ((fun _ => false) p) := by
      intro p hpm
      rw [plainF]
      simp only
      rw [Gd.plain n p (hp p hpm) (by have := hm p hpm; omega)]
      rfl
    have hc := contains_ok hb (by omega)
    rw [show (x.c4.any fun _ => false) = false by simp] at hc
    rw [Vf.plain]
    simp only [plain_L1, plain_L2, hc, Option.bind_eq_bind, Option.bind_some]
    rw [if_neg (by omega), if_neg (by omega)]
    cases hb2 : x.c2 with
    | true => rw [h3 hb2]; by_cases a3 : x.c0 = 0 <;> by_cases a4 : x.c1 = 0 <;> simp_all
    | false => rw [h4 hb2] at hc ⊢; by_cases a3 : x.c0 = 0 <;> by_cases a4 : x.c1 = 0 <;> simp_all
theorem Gd.check {n : Nat} {x : S36} (h : Gd n x) (hn : n ≤ 16) (hs : szG n x ≤ 1024) : Vf.check (x.c0, x.c1, x.c2, x.c3, x.c4) = some 0 := by
  rw [Vf.check]
  simp only
  rw [Gd.meas n x 1 0 h (by omega) (by omega) (by omega) (by omega)]
  simp only [Option.bind_eq_bind, Option.bind_some]
  rw [if_neg (by simp), Gd.plain n x h (by omega)]
  rfl
def eqB : Nat → S36 → S36 → Bool
  | 0, _, _ => false
  | n + 1, x, y => decide (x.c0 = y.c0) && decide (x.c1 = y.c1) && (x.c2 == y.c2) && strEq (bytesU x.c3) (bytesU y.c3) && decide (x.c4.length = y.c4.length) && (x.c4.zip y.c4).all fun p => eqB n p.1 p.2
theorem equal_loop {n : Nat} {xs ys : List S36} (hlen : xs.length = ys.length) (hn : xs.length < 9223372036854775808) (hf : ∀ x y, x ∈ xs → y ∈ ys → sameI (x.c0, x.c1, x.c2, x.c3, x.c4, y.c0, y.c1, y.c2, y.c3, y.c4) = some (eqB n x y)) : ∀ (m i : Nat), i + m = xs.length →
    equalFunc_L1 (ys, xs, (xs.length : Int), (i : Int)) = some (((xs.drop i).zip (ys.drop i)).all fun p => eqB n p.1 p.2)
  | 0, i, h => by
    rw [equalFunc_L1]
    simp only
    rw [if_neg (by omega), List.drop_of_length_le (by omega)]
    simp
  | m + 1, i, h => by
    obtain ⟨x, hx⟩ : ∃ p, xs[i]? = some p := ⟨_, List.getElem?_eq_getElem (by omega)⟩
    obtain ⟨y, hy⟩ : ∃ p, ys[i]? = some p := ⟨_, List.getElem?_eq_getElem (by omega)⟩
    have hdx : xs.drop i = x :: xs.drop (i + 1) := by
      obtain ⟨hi, rfl⟩ := List.getElem?_eq_some_iff.1 hx
      exact List.drop_eq_getElem_cons hi
    have hdy : ys.drop i = y :: ys.drop (i + 1) := by
      obtain ⟨hi, rfl⟩ := List.getElem?_eq_some_iff.1 hy
      exact List.drop_eq_getElem_cons hi
    rw [equalFunc_L1]
    simp only
    rw [if_pos (by omega), at'_get hx, at'_get hy]
    simp only [Option.bind_eq_bind, Option.bind_some]
    rw [hf x y (List.mem_of_getElem? hx) (List.mem_of_getElem? hy), hdx, hdy]
    simp only [Option.bind_some, List.zip_cons_cons, List.all_cons]
    cases he : eqB n x y with
    | false => rfl
    | true =>
      rw [if_neg (by simp), wrap64 (by omega) (by omega), show ((i : Int) + 1) = ((i + 1 : Nat) : Int) by omega, equal_loop hlen hn hf m (i + 1) (by omega)]
      simp
theorem same_val : ∀ (n : Nat) (x y : S36), Gd n x → Gd n y → szG n x < 9223372036854775808 → szG n y < 9223372036854775808 → sameI (x.c0, x.c1, x.c2, x.c3, x.c4, y.c0, y.c1, y.c2, y.c3, y.c4) = some (eqB n x y)
  | 0, x, y, h, _, _, _ => h.elim
  | n + 1, x, y, hx, hy, sx, sy => by
    have lx := hx.len
    have ly := hy.len
    have mx := fun p hp => @szG_mem n x p hp
    have my := fun p hp => @szG_mem n y p hp
    obtain ⟨_, _, _, _, _, _, px⟩ := hx
    obtain ⟨_, _, _, _, _, _, py⟩ := hy
    have he : equalFunc (x.c4, y.c4) = some (decide (x.c4.length = y.c4.length) && (x.c4.zip y.c4).all fun p => eqB n p.1 p.2) := by
      rw [equalFunc]
      simp only
      by_cases e : x.c4.length = y.c4.length
      · rw [if_neg (by simp [e])]
        have := equal_loop (n := n) e (by omega) (fun a b ha hb => same_val n a b (px a ha) (py b hb) (by have := mx a ha; omega) (by have := my b hb; omega)) x.c4.length 0 (by omega)
        rw [List.drop_zero, List.drop_zero] at this
        have t : equalFunc_L1 (y.c4, x.c4, (x.c4.length : Int), 0) = _ := this
        rw [t]
        simp [e]
      · rw [if_pos (by simp; omega)]
        simp [e]
    rw [sameI]
    simp only [bytesEqual, he, sameI_L1, Option.bind_eq_bind, Option.bind_some, eqB]
    by_cases a0 : x.c0 = y.c0
    · rw [if_pos a0]
      by_cases a1 : x.c1 = y.c1
      · rw [if_pos a1]
        cases a2 : (x.c2 == y.c2) with
        | false => simp [a0, a1]
        | true =>
          cases a3 : strEq (bytesU x.c3) (bytesU y.c3) with
          | false => simp [a0, a1]
          | true => simp [a0, a1]
      · rw [if_neg a1]; simp [a1]
    · rw [if_neg a0]; simp [a0]
theorem bal_loop (b : ByteArray) : ∀ (m i : Nat) (r : List UInt8), i + m = b.size → ByteArray.toList.loop b i r = r.reverse ++ b.data.toList.drop i
  | 0, i, r, h => by
    rw [ByteArray.toList.loop, if_neg (by omega), List.drop_of_length_le (by rw [Array.length_toList]; show b.size ≤ i; omega)]
    simp
  | m + 1, i, r, h => by
    have hi : i < b.data.toList.length := by rw [Array.length_toList]; show i < b.size; omega
    rw [ByteArray.toList.loop, if_pos (by omega), bal_loop b m (i + 1) _ (by omega), List.drop_eq_getElem_cons hi]
    have : b.get! i = b.data.toList[i] := by
      show b.data[i]! = _
      rw [getElem!_pos b.data i (by simpa using hi)]
      simp
    simp [this]
theorem bal (b : ByteArray) : b.toList = b.data.toList := by
  rw [ByteArray.toList, bal_loop b b.size 0 [] (by omega)]
  simp
theorem Gd.succ : ∀ {n x}, Gd n x → Gd (n + 1) x
  | 0, _, h => h.elim
  | n + 1, x, h => ⟨h.1, h.2.1, h.2.2.1, h.2.2.2.1, h.2.2.2.2.1, h.2.2.2.2.2.1, fun p hp => (h.2.2.2.2.2.2 p hp).succ⟩
theorem Gd.le {n m x} (h : Gd n x) (hm : n ≤ m) : Gd m x := by
  induction m with
  | zero => have : n = 0 := by omega
            subst this; exact h
  | succ m ih =>
    by_cases e : n = m + 1
    · subst e; exact h
    · exact (ih (by omega)).succ
theorem szG_succ : ∀ {n x}, Gd n x → szG (n + 1) x = szG n x
  | 0, _, h => h.elim
  | n + 1, x, h => by
    rw [szG, szG]
    congr 2
    exact List.map_congr_left (fun p hp => szG_succ (h.2.2.2.2.2.2 p hp))
theorem eqB_self : ∀ (n : Nat) (x : S36), Gd n x → eqB n x x = true
  | 0, _, h => h.elim
  | n + 1, x, h => by
    have hz : (x.c4.zip x.c4).all (fun p => eqB n p.1 p.2) = true := by
      rw [List.all_eq_true]
      intro p hp
      obtain ⟨i, hi⟩ := List.getElem?_of_mem hp
      rw [List.getElem?_zip_eq_some] at hi
      have e : p.1 = p.2 := by have := hi.1.symm.trans hi.2; simpa using this
      rw [← e]
      exact eqB_self n p.1 (h.2.2.2.2.2.2 _ (List.mem_of_getElem? hi.1))
    rw [eqB, hz]
    simp [strEq]
theorem sameT_val {x y : S36} (hx : Gd 16 x) (hy : Gd 16 y) (sx : szG 16 x ≤ 1024) (sy : szG 16 y ≤ 1024) : Vf.sameT (x.c0, x.c1, x.c2, x.c3, x.c4, y.c0, y.c1, y.c2, y.c3, y.c4) = some (eqB 16 x y) := by
  rw [Vf.sameT]
  simp only [hx.check (Nat.le_refl _) sx, hy.check (Nat.le_refl _) sy, Option.bind_eq_bind, Option.bind_some, if_true, same_val 16 x y hx hy (by omega) (by omega)]
  rfl
theorem app_ok {α : Type} {B : Nat} {l m : List α} (h : (l.length + m.length) * B ≤ 70368744177664) : app' B l m = some (l ++ m) := by
  unfold app'
  rw [if_pos (by omega)]
theorem Sm.succ : ∀ {n x}, Sm n x → Sm (n + 1) x
  | 0, _, h => h.elim
  | n + 1, x, h => ⟨h.1, fun p hp => (h.2 p hp).succ⟩
theorem Sm.le {n m x} (h : Sm n x) (hm : n ≤ m) : Sm m x := by
  induction m with
  | zero => have : n = 0 := by omega
            subst this; exact h
  | succ m ih =>
    by_cases e : n = m + 1
    · subst e; exact h
    · exact (ih (by omega)).succ
theorem sum_scale {f g : S36 → Nat} (k : Nat) : ∀ {l : List S36}, (∀ p, p ∈ l → f p ≤ k * g p) → (l.map f).sum ≤ k * (l.map g).sum
  | [], _ => by simp
  | p :: l, h => by
    have h1 := h p (by simp)
    have h2 := sum_scale k (l := l) (fun q hq => h q (by simp [hq]))
    simp only [List.map_cons, List.sum_cons, Nat.mul_add]
    omega
theorem Sm.wt : ∀ {n x}, Sm n x → Vf.wt n x ≤ 312 * szG n x
  | 0, _, h => h.elim
  | n + 1, x, h => by
    have := sum_scale (f := Vf.wt n) (g := szG n) 312 (l := x.c4) (fun p hp => (h.2 p hp).wt)
    have h1 := h.1
    rw [Vf.wt, szG, Nat.mul_add]
    omega
theorem wrapU8 {n : Int} (h0 : 0 ≤ n) (h1 : n < 256) : IntKind.u8.wrap n = n := by
  unfold IntKind.wrap
  simp only [IntKind.bits, IntKind.signed, Bool.false_and]
  rw [if_neg (by simp)]
  omega
theorem wrapU32 {n : Int} (h0 : 0 ≤ n) (h1 : n < 4294967296) : IntKind.u32.wrap n = n := by
  unfold IntKind.wrap
  simp only [IntKind.bits, IntKind.signed, Bool.false_and]
  rw [if_neg (by simp)]
  omega
theorem or_nat (k : IntKind) (X Y : Nat) (hX : X < 2 ^ k.bits) (hY : Y < 2 ^ k.bits) : bOr k (X : Int) (Y : Int) = k.wrap ((X ||| Y : Nat) : Int) := by
  unfold bOr
  rw [BitVec.ofInt_natCast, BitVec.ofInt_natCast, BitVec.toNat_or, BitVec.toNat_ofNat, BitVec.toNat_ofNat, Nat.mod_eq_of_lt hX, Nat.mod_eq_of_lt hY]
theorem or_shl (a i w : Nat) (hw : w < 2 ^ i) : (a * 2 ^ i) ||| w = a * 2 ^ i + w := by
  have := Nat.shiftLeft_add_eq_or_of_lt hw a
  rw [Nat.shiftLeft_eq] at this
  exact this.symm
def Bys (l : List Int) : Prop := ∀ b, b ∈ l → 0 ≤ b ∧ b < 256
theorem Bys.drop {l : List Int} (h : Bys l) (k : Nat) : Bys (l.drop k) := fun b hb => h b (List.mem_of_mem_drop hb)
theorem Bys.take {l : List Int} (h : Bys l) (k : Nat) : Bys (l.take k) := fun b hb => h b (List.mem_of_mem_take hb)
theorem sub_to {α : Type} (l : List α) (n : Nat) (h : n ≤ l.length) : sub' l 0 (n : Int) = some (l.take n) := by
  unfold sub'
  rw [if_pos ⟨by omega, by omega, by omega⟩]
  simp
theorem sub_from {α : Type} (l : List α) (n : Nat) (h : n ≤ l.length) : sub' l (n : Int) (l.length : Int) = some (l.drop n) := by
  unfold sub'
  rw [if_pos ⟨by omega, by omega, by omega⟩]
  simp
theorem wrapM (n : Int) : IntKind.u8.wrap n = n % 256 := by
  unfold IntKind.wrap
  simp only [IntKind.bits, IntKind.signed, Bool.false_and]
  rw [if_neg (by simp)]
  rfl
theorem fd (n d : Int) (hd : 0 ≤ d) : n.fdiv d = n / d := Int.fdiv_eq_ediv_of_nonneg n hd
theorem clip_eq (l : List Int) : clip l = some l := by
  rw [clip, sub_to l l.length (Nat.le_refl _), List.take_length]
  rfl
def bigN (a : Int) : List Int → Int
  | [] => a
  | x :: l => bigN (a * 256 + x) l
theorem bigN_mono : ∀ (l : List Int) (a : Int), 0 ≤ a → Bys l → a ≤ bigN a l
  | [], a, _, _ => Int.le_refl _
  | x :: l, a, h, hb => by
    have hx := hb x (by simp)
    have := bigN_mono l (a * 256 + x) (by omega) (fun y hy => hb y (by simp [hy]))
    rw [bigN]
    omega
theorem shi (t : Int) (s : Nat) (h : s ≤ 64) : shrI .i64 t (s : Int) = t / 2 ^ s := by
  unfold shrI
  rw [show min ((s : Int)).toNat IntKind.i64.bits = s by show min _ 64 = s; omega, fd _ _ (by exact_mod_cast Nat.zero_le _)]
theorem or8w {n b : Int} (h0 : -36028797018963968 ≤ n) (h1 : n < 36028797018963968) (b0 : 0 ≤ b) (b1 : b < 256) : bOr .i64 (shlI .i64 n 8) (IntKind.i64.wrap b) = n * 256 + b := by
  rw [wrap64 (n := b) (by omega) (by omega)]
  have e1 : shlI .i64 n 8 = n * 256 := by
    unfold shlI
    rw [show (2 : Int) ^ min (8 : Int).toNat IntKind.i64.bits = 256 by decide]
    exact wrap64 (by omega) (by omega)
  rw [e1]
  obtain ⟨B, rfl⟩ := Int.eq_ofNat_of_zero_le b0
  by_cases hn : 0 ≤ n
  · obtain ⟨N, rfl⟩ := Int.eq_ofNat_of_zero_le hn
    have e2 : ((N : Int) * 256) = ((N * 2 ^ 8 : Nat) : Int) := by omega
    rw [e2, or_nat .i64 _ _ (by show _ < 2 ^ 64; omega) (by show _ < 2 ^ 64; omega), or_shl _ _ _ (by omega), wrap64 (by omega) (by omega)]
    omega
  · obtain ⟨N, hN⟩ := Int.eq_ofNat_of_zero_le (show 0 ≤ n + 72057594037927936 by omega)
    have e2 : BitVec.ofInt IntKind.i64.bits (n * 256) = BitVec.ofNat IntKind.i64.bits (N * 2 ^ 8) := by
      apply BitVec.eq_of_toNat_eq
      rw [BitVec.toNat_ofInt, BitVec.toNat_ofNat]
      show (n * 256 % ((18446744073709551616 : Nat) : Int)).toNat = N * 2 ^ 8 % 18446744073709551616
      omega
    unfold bOr
    rw [e2, BitVec.ofInt_natCast, BitVec.toNat_or, BitVec.toNat_ofNat, BitVec.toNat_ofNat, Nat.mod_eq_of_lt (show N * 2 ^ 8 < 2 ^ IntKind.i64.bits by show _ < 2 ^ 64; omega), Nat.mod_eq_of_lt (show B < 2 ^ IntKind.i64.bits by show _ < 2 ^ 64; omega), or_shl _ _ _ (by omega)]
    unfold IntKind.wrap
    simp only [IntKind.bits, IntKind.signed, Bool.true_and]
    split <;> rename_i h <;> simp at h <;> omega
def intP (n : Int) : List Int :=
  if n < 128 then [n]
  else if n < 32768 then [n / 256 % 256, n % 256]
  else if n < 8388608 then [n / 65536 % 256, n / 256 % 256, n % 256]
  else if n < 2147483648 then [n / 16777216 % 256, n / 65536 % 256, n / 256 % 256, n % 256]
  else [n / 4294967296 % 256, n / 16777216 % 256, n / 65536 % 256, n / 256 % 256, n % 256]
theorem intP_bys {n : Int} (h0 : 0 ≤ n) : Bys (intP n) := by
  intro b hb
  unfold intP at hb
  repeat' split at hb
  all_goals simp at hb; omega
theorem intP_len (n : Int) : (intP n).length ≤ 5 := by
  unfold intP
  repeat' split
  all_goals simp
theorem intC_eq {n : Int} (h0 : 0 ≤ n) (h1 : n < 4294967296) : intC n = some (intP n) := by
  have s7 : shrI .i64 n 7 = n / 128 := by simpa using shi n 7 (by omega)
  have s15 : shrI .i64 n 15 = n / 32768 := by simpa using shi n 15 (by omega)
  have s23 : shrI .i64 n 23 = n / 8388608 := by simpa using shi n 23 (by omega)
  have s31 : shrI .i64 n 31 = n / 2147483648 := by simpa using shi n 31 (by omega)
  have s39 : shrI .i64 n 39 = n / 549755813888 := by simpa using shi n 39 (by omega)
  have s8 : shrI .i64 n 8 = n / 256 := by simpa using shi n 8 (by omega)
  have s16 : shrI .i64 n 16 = n / 65536 := by simpa using shi n 16 (by omega)
  have s24 : shrI .i64 n 24 = n / 16777216 := by simpa using shi n 24 (by omega)
  have s32 : shrI .i64 n 32 = n / 4294967296 := by simpa using shi n 32 (by omega)
  have s0 : shrI .i64 n 0 = n := by simpa using shi n 0 (by omega)
  rw [intC]
  simp only [s0, s7, s15, s23, s31, s39, s8, s16, s24, s32, wrapM]
  unfold intP
  by_cases c1 : n < 128
  · rw [if_neg (by simp; omega), if_pos c1]
    congr 2; omega
  rw [if_pos (by simp; omega), if_pos (by simp; omega), if_neg c1]
  by_cases c2 : n < 32768
  · rw [if_neg (by simp; omega), if_pos c2]
  rw [if_pos (by simp; omega), if_pos (by simp; omega), if_neg c2]
  by_cases c3 : n < 8388608
  · rw [if_neg (by simp; omega), if_pos c3]
  rw [if_pos (by simp; omega), if_pos (by simp; omega), if_neg c3]
  by_cases c4 : n < 2147483648
  · rw [if_neg (by simp; omega), if_pos c4]
  rw [if_pos (by simp; omega), if_pos (by simp; omega), if_neg c4, if_neg (by simp; omega)]
def s8 (x : Int) : Int := if x < 128 then x else x - 256
theorem s8_eq {x : Int} (h0 : 0 ≤ x) (h1 : x < 256) : IntKind.i64.wrap (IntKind.i8.wrap x) = s8 x := by
  have e : IntKind.i8.wrap x = s8 x := by
    unfold IntKind.wrap s8
    simp only [IntKind.bits, IntKind.signed, Bool.true_and]
    split <;> rename_i h <;> simp at h <;> split <;> omega
  rw [e]
  unfold s8
  split <;> exact wrap64 (by omega) (by omega)
theorem toL2 (l : List Int) (hb : Bys l) (hl : l.length ≤ 7) : ∀ (m i : Nat) (a : Int), i + m = l.length → -(128 * 256 ^ i) ≤ a → a < 128 * 256 ^ i → toInt_L2 (a, l, (l.length : Int), (i : Int)) = some (bigN a (l.drop i), 0)
  | 0, i, a, h, _, _ => by
    rw [toInt_L2]
    simp only
    rw [if_neg (by omega), List.drop_of_length_le (by omega)]
    rfl
  | m + 1, i, a, h, h0, h1 => by
    obtain ⟨y, hy⟩ : ∃ p, l[i]? = some p := ⟨_, List.getElem?_eq_getElem (by omega)⟩
    have hd : l.drop i = y :: l.drop (i + 1) := by
      obtain ⟨hi, rfl⟩ := List.getElem?_eq_some_iff.1 hy
      exact List.drop_eq_getElem_cons hi
    have hyb := hb y (List.mem_of_getElem? hy)
    have hp : (256 : Int) ^ i ≤ 281474976710656 := by
      have : i ≤ 6 := by omega
      match i, this with
      | 0, _ => decide
      | 1, _ => decide
      | 2, _ => decide
      | 3, _ => decide
      | 4, _ => decide
      | 5, _ => decide
      | 6, _ => decide
    rw [toInt_L2]
    simp only
    rw [if_pos (by omega), at'_get hy]
    simp only [Option.bind_eq_bind, Option.bind_some]
    rw [or8w (by omega) (by omega) hyb.1 hyb.2, wrap64 (by omega) (by omega)]
    have := toL2 l hb hl m (i + 1) (a * 256 + y) (by omega) (by rw [Int.pow_succ]; omega) (by rw [Int.pow_succ]; omega)
    rw [show ((i : Int) + 1) = ((i + 1 : Nat) : Int) by omega, this, hd]
    rfl
def dupB : List Int → Bool
  | x :: y :: _ => (decide (x = 0) && decide (y < 128)) || (decide (x = 255) && decide (128 ≤ y))
  | _ => false
theorem at0 {α : Type} (x : α) (l : List α) : at' (x :: l) 0 = some x := at'_get (i := 0) rfl
theorem at1 {α : Type} (x y : α) (l : List α) : at' (x :: y :: l) 1 = some y := at'_get (i := 1) rfl
theorem subs {α : Type} (x : α) (l : List α) : sub' (x :: l) 1 ((x :: l).length : Int) = some l := by
  have := sub_from (x :: l) 1 (by simp)
  simpa using this
theorem toInt_shape (x : Int) (l : List Int) : toInt (x :: l) = toInt_L1 (x :: l, dupB (x :: l)) := by
  rw [toInt, if_neg (by simp; omega)]
  cases l with
  | nil => rw [if_neg (by simp)]; rfl
  | cons y l =>
    rw [if_pos (by simp; omega)]
    simp only [at0, at1, Option.bind_eq_bind, Option.bind_some, dupB]
    by_cases c1 : x = 0
    · rw [if_pos c1]
      subst c1
      by_cases c2 : y < 128
      · rw [if_pos c2]; simp [c2]
      · rw [if_neg c2, if_neg (by decide)]; simp [c2]
    · rw [if_neg c1]
      by_cases c3 : x = 255
      · rw [if_pos c3]; simp [c3]
      · rw [if_neg c3]; simp [c1, c3]
theorem toInt_of {x : Int} {l : List Int} (hb : Bys (x :: l)) (hl : l.length ≤ 7) (hd : dupB (x :: l) = false) : toInt (x :: l) = some (bigN (s8 x) l, 0) := by
  have hx := hb x (by simp)
  rw [toInt_shape, hd, toInt_L1]
  simp only
  rw [if_neg (by simp), if_neg (by simp; omega), at0]
  simp only [Option.bind_eq_bind, Option.bind_some]
  rw [subs]
  simp only [Option.bind_some]
  rw [s8_eq hx.1 hx.2]
  exact toL2 l (fun b h => hb b (by simp [h])) hl l.length 0 (s8 x) (by omega) (by unfold s8; split <;> simp <;> omega) (by unfold s8; split <;> simp <;> omega)
theorem toInt_cases (c : List Int) (hb : Bys c) : (∃ e, e ≠ 0 ∧ toInt c = some (0, e)) ∨ ∃ x l, c = x :: l ∧ l.length ≤ 7 ∧ dupB c = false ∧ toInt c = some (bigN (s8 x) l, 0) := by
  cases c with
  | nil => exact .inl ⟨4, by decide, by rw [toInt, if_pos (by simp)]⟩
  | cons x l =>
    cases hd : dupB (x :: l) with
    | true => exact .inl ⟨4, by decide, by rw [toInt_shape, hd, toInt_L1, if_pos rfl]⟩
    | false =>
      by_cases hl : l.length ≤ 7
      · exact .inr ⟨x, l, rfl, hl, rfl, toInt_of hb hl hd⟩
      · exact .inl ⟨3, by decide, by rw [toInt_shape, hd, toInt_L1, if_neg (by simp), if_pos (by simp; omega)]⟩
theorem toInt_some (c : List Int) (hb : Bys c) : ∃ v e, toInt c = some (v, e) := by
  rcases toInt_cases c hb with ⟨e, _, h⟩ | ⟨x, l, _, _, _, h⟩
  · exact ⟨_, _, h⟩
  · exact ⟨_, _, h⟩
theorem toInt_intP {n : Int} (h0 : 0 ≤ n) (h1 : n < 4294967296) : toInt (intP n) = some (n, 0) := by
  have hb := intP_bys h0
  unfold intP at hb ⊢
  by_cases c1 : n < 128
  · rw [if_pos c1] at hb ⊢
    rw [toInt_of hb (by simp) rfl]
    simp [bigN, s8, c1]
  rw [if_neg c1] at hb ⊢
  by_cases c2 : n < 32768
  · rw [if_pos c2] at hb ⊢
    rw [toInt_of hb (by simp) (by simp [dupB]; omega)]
    simp [bigN, s8]; rw [if_pos (by omega)]; omega
  rw [if_neg c2] at hb ⊢
  by_cases c3 : n < 8388608
  · rw [if_pos c3] at hb ⊢
    rw [toInt_of hb (by simp) (by simp [dupB]; omega)]
    simp [bigN, s8]; rw [if_pos (by omega)]; omega
  rw [if_neg c3] at hb ⊢
  by_cases c4 : n < 2147483648
  · rw [if_pos c4] at hb ⊢
    rw [toInt_of hb (by simp) (by simp [dupB]; omega)]
    simp [bigN, s8]; rw [if_pos (by omega)]; omega
  rw [if_neg c4] at hb ⊢
  rw [toInt_of hb (by simp) (by simp [dupB]; omega)]
  simp [bigN, s8]; rw [if_pos (by omega)]; omega
theorem bigN_neg : ∀ (l : List Int) (a : Int), a ≤ -1 → Bys l → bigN a l ≤ -1
  | [], a, h, _ => h
  | x :: l, a, h, hb => by
    have hx := hb x (by simp)
    exact bigN_neg l (a * 256 + x) (by omega) (fun b h => hb b (by simp [h]))
theorem intP_of {c : List Int} {n : Int} (hb : Bys c) (h : toInt c = some (n, 0)) (h0 : 0 ≤ n) (h1 : n < 4294967296) : c = intP n := by
  rcases toInt_cases c hb with ⟨e, he, h2⟩ | ⟨x, l, rfl, hl, hd, h2⟩
  · rw [h2] at h
    simp at h
    exact absurd h.2 he
  rw [h2] at h
  simp only [Option.some.injEq, Prod.mk.injEq, and_true] at h
  have hx := hb x (by simp)
  have hbl : Bys l := fun b h => hb b (by simp [h])
  have hs : x < 128 := by
    by_cases c : x < 128
    · exact c
    · have := bigN_neg l (s8 x) (by unfold s8; rw [if_neg c]; omega) hbl
      omega
  rw [show s8 x = x by unfold s8; rw [if_pos hs]] at h
  match l, hbl, hd, h with
  | [], _, hd, h =>
    simp only [bigN] at h
    unfold intP
    rw [if_pos (by omega), h]
  | [a], hbl, hd, h =>
    have ha := hbl a (by simp)
    simp only [bigN] at h
    simp [dupB] at hd
    unfold intP
    rw [if_neg (by omega), if_pos (by omega)]
    simp only [List.cons.injEq, and_true]
    omega
  | [a, b], hbl, hd, h =>
    have ha := hbl a (by simp); have hb' := hbl b (by simp)
    simp only [bigN] at h
    simp [dupB] at hd
    unfold intP
    rw [if_neg (by omega), if_neg (by omega), if_pos (by omega)]
    simp only [List.cons.injEq, and_true]
    omega
  | [a, b, c], hbl, hd, h =>
    have ha := hbl a (by simp); have hb' := hbl b (by simp); have hc := hbl c (by simp)
    simp only [bigN] at h
    simp [dupB] at hd
    unfold intP
    rw [if_neg (by omega), if_neg (by omega), if_neg (by omega), if_pos (by omega)]
    simp only [List.cons.injEq, and_true]
    omega
  | [a, b, c, d], hbl, hd, h =>
    have ha := hbl a (by simp); have hb' := hbl b (by simp); have hc := hbl c (by simp); have hd' := hbl d (by simp)
    simp only [bigN] at h
    simp [dupB] at hd
    unfold intP
    rw [if_neg (by omega), if_neg (by omega), if_neg (by omega), if_neg (by omega)]
    simp only [List.cons.injEq, and_true]
    omega
  | a :: b :: c :: d :: e :: l, hbl, hd, h =>
    have ha := hbl a (by simp); have hb' := hbl b (by simp); have hc := hbl c (by simp); have hd' := hbl d (by simp); have he := hbl e (by simp)
    simp only [bigN] at h
    simp [dupB] at hd
    have := bigN_mono l (((((x * 256 + a) * 256 + b) * 256 + c) * 256 + d) * 256 + e) (by omega) (fun b h => hbl b (by simp [h]))
    omega
theorem S36.eta (x : S36) : x = ⟨x.c0, x.c1, x.c2, x.c3, x.c4⟩ := by cases x; rfl
theorem szG_le {n m : Nat} {x : S36} (h : Gd n x) (hm : n ≤ m) : szG m x = szG n x := by
  induction m with
  | zero => have : n = 0 := by omega
            subst this; rfl
  | succ m ih =>
    by_cases e : n = m + 1
    · subst e; rfl
    · rw [szG_succ (h.le (by omega)), ih (by omega)]
theorem bytes_inj {a b : List Int} (ha : Bys a) (hb : Bys b) (h : strEq (bytesU a) (bytesU b) = true) : a = b := by
  unfold strEq at h
  rw [beq_iff_eq, bal, bal] at h
  have h' : (a.map fun n => UInt8.ofNat n.toNat) = (b.map fun n => UInt8.ofNat n.toNat) := by simpa [bytesU] using h
  have hl : a.length = b.length := by simpa using congrArg List.length h'
  refine List.ext_getElem hl fun i h1 h2 => ?_
  have e : (a.map fun n => UInt8.ofNat n.toNat)[i]? = (b.map fun n => UInt8.ofNat n.toNat)[i]? := by rw [h']
  rw [List.getElem?_map, List.getElem?_map, List.getElem?_eq_getElem h1, List.getElem?_eq_getElem h2] at e
  simp only [Option.map_some, Option.some.injEq] at e
  have e2 := congrArg UInt8.toNat e
  have x1 := ha _ (List.getElem_mem h1)
  have x2 := hb _ (List.getElem_mem h2)
  simp at e2
  omega
theorem eqB_eq : ∀ (n : Nat) (x y : S36), Gd n x → Gd n y → eqB n x y = true → x = y
  | 0, _, _, h, _, _ => h.elim
  | n + 1, x, y, hx, hy, h => by
    obtain ⟨_, _, _, _, _, bx, px⟩ := hx
    obtain ⟨_, _, _, _, _, yb, py⟩ := hy
    rw [eqB] at h
    simp only [Bool.and_eq_true, decide_eq_true_eq, beq_iff_eq] at h
    obtain ⟨⟨⟨⟨⟨h0, h1⟩, h2⟩, h3⟩, h4⟩, h5⟩ := h
    have e3 := bytes_inj bx yb h3
    have e4 : x.c4 = y.c4 := by
      refine List.ext_getElem h4 fun i i1 i2 => ?_
      rw [List.all_eq_true] at h5
      have hm : (x.c4[i], y.c4[i]) ∈ x.c4.zip y.c4 := by
        have : (x.c4.zip y.c4)[i]? = some (x.c4[i], y.c4[i]) := by
          rw [List.getElem?_zip_eq_some]
          exact ⟨List.getElem?_eq_getElem i1, List.getElem?_eq_getElem i2⟩
        exact List.mem_of_getElem? this
      exact eqB_eq n _ _ (px _ (List.getElem_mem i1)) (py _ (List.getElem_mem i2)) (h5 _ hm)
    rw [S36.eta x, S36.eta y, h0, h1, h2, e3, e4]
theorem strEq_self (a : ByteArray) : strEq a a = true := by simp [strEq]
theorem tm_bound (b n : Int) (hn : 0 < n) : -n < Int.tmod b n ∧ Int.tmod b n < n := by
  have h1 := Int.tmod_lt_of_pos b hn
  have h2 := Int.tmod_lt_of_pos (-b) hn
  rw [Int.neg_tmod] at h2
  omega
theorem L6_false (l : List S65) (d next i b0 b1 : Int) (b2 : Bool) (b3 : List Int) (b4 c0 c1 : Int) (acc : List S36) : grown_L6 (l, d, next, i, false, b0, b1, b2, b3, b4, c0, c1, acc) = some (c0, c1, b2, [], acc, next) := by
  rw [grown_L6]
  simp
def okN (y : S65) : Prop := (0 ≤ y.c0 ∧ y.c0 < 256) ∧ (0 ≤ y.c1 ∧ y.c1 < 4294967296) ∧ (∀ b, b ∈ y.c3 → 0 ≤ b ∧ b < 256) ∧ (0 ≤ y.c4 ∧ y.c4 < 256)
theorem grown_all (l : List S65) (hok : ∀ y, y ∈ l → okN y) : ∀ (j : Nat),
    (∀ at_ d : Nat, 40 - at_ ≤ j → at_ < l.length → at_ < 40 → 1 ≤ d → d ≤ 10 → ∃ t0 t1 t2 t3 t4, ∃ nx : Nat, grown (l, (at_ : Int), (d : Int)) = some (t0, t1, t2, t3, t4, (nx : Int)) ∧ (Gd (11 - d) ⟨t0, t1, t2, t3, t4⟩ ∧ Sm (11 - d) ⟨t0, t1, t2, t3, t4⟩) ∧ szG (11 - d) ⟨t0, t1, t2, t3, t4⟩ + at_ ≤ nx ∧ nx ≤ 40) ∧
    (∀ (d next i : Nat) (b0 b1 : Int) (b2 : Bool) (b3 : List Int) (b4 c0 c1 : Int) (acc : List S36), 40 - next ≤ j → next ≤ 40 → 1 ≤ d → d ≤ 10 → acc.length ≤ next → ∃ acc', ∃ nx : Nat,
      grown_L5 (l, (d : Int), (next : Int), (i : Int), b0, b1, b2, b3, b4, c0, c1, acc) = some (c0, c1, b2, [], acc', (nx : Int)) ∧ nx ≤ 40 ∧ next ≤ nx ∧ (acc'.map (szG (10 - d))).sum + next ≤ (acc.map (szG (10 - d))).sum + nx ∧ ((∀ p, p ∈ acc → Gd (10 - d) p ∧ Sm (10 - d) p) → ∀ p, p ∈ acc' → Gd (10 - d) p ∧ Sm (10 - d) p)) := by
  intro j
  induction j with
  | zero =>
    refine ⟨fun at_ d h1 h2 h3 _ _ => by omega, fun d next i b0 b1 b2 b3 b4 c0 c1 acc h1 h2 h3 h4 h5 => ⟨acc, next, ?_, h2, Nat.le_refl _, by omega, fun h => h⟩⟩
    have : decide ((next : Int) < 40) = false := decide_eq_false (by omega)
    rw [grown_L5]
    simp only [this, L6_false]
    split <;> (try rfl)
    split <;> (try rfl)
    split <;> rfl
  | succ j ih =>
    obtain ⟨ihP, ihL⟩ := ih
    have hP : ∀ at_ d : Nat, 40 - at_ ≤ j + 1 → at_ < l.length → at_ < 40 → 1 ≤ d → d ≤ 10 → ∃ t0 t1 t2 t3 t4, ∃ nx : Nat, grown (l, (at_ : Int), (d : Int)) = some (t0, t1, t2, t3, t4, (nx : Int)) ∧ (Gd (11 - d) ⟨t0, t1, t2, t3, t4⟩ ∧ Sm (11 - d) ⟨t0, t1, t2, t3, t4⟩) ∧ szG (11 - d) ⟨t0, t1, t2, t3, t4⟩ + at_ ≤ nx ∧ nx ≤ 40 := by
      intro at_ d h1 h2 h3 h4 h5
      obtain ⟨e, he⟩ : ∃ e, l[at_]? = some e := ⟨_, List.getElem?_eq_getElem h2⟩
      have eok := hok e (List.mem_of_getElem? he)
      have t4a : 0 ≤ Int.tmod e.c0 4 ∧ Int.tmod e.c0 4 < 4 := ⟨Int.tmod_nonneg _ eok.1.1, (tm_bound _ 4 (by decide)).2⟩
      have t4b : 0 ≤ Int.tmod e.c1 2097152 ∧ Int.tmod e.c1 2097152 < 2097152 := ⟨Int.tmod_nonneg _ eok.2.1.1, (tm_bound _ 2097152 (by decide)).2⟩
      obtain ⟨k0, hk0⟩ : ∃ k0 : Nat, 11 - d = k0 + 1 := ⟨10 - d, by omega⟩
      have hk1 : 10 - d = k0 := by omega
      -- the tag
      obtain ⟨tg, htg0, htg1, htg2⟩ : ∃ tg : Int, (0 ≤ tg ∧ tg < 2097152) ∧ ¬ (Int.tmod e.c0 4 = 0 ∧ tg = 0) ∧ grown (l, (at_ : Int), (d : Int)) = grown_L3 (l, (at_ : Int), (d : Int), e.c0, e.c1, e.c2, e.c3, e.c4, Int.tmod e.c0 4, tg) := by
        have h40 : decide (40 ≤ (at_ : Int)) = false := decide_eq_false (by omega)
        have hst : grown (l, (at_ : Int), (d : Int)) = if Int.tmod e.c0 4 = 0 then grown_L2 (l, (at_ : Int), (d : Int), decide (Int.tmod e.c1 2097152 = 0), e.c0, e.c1, e.c2, e.c3, e.c4, Int.tmod e.c0 4, Int.tmod e.c1 2097152) else grown_L2 (l, (at_ : Int), (d : Int), false, e.c0, e.c1, e.c2, e.c3, e.c4, Int.tmod e.c0 4, Int.tmod e.c1 2097152) := by
          rw [grown]
          simp only
          rw [if_neg (by omega), h40, grown_L1]
          simp only [Bool.false_eq_true, if_false, at'_get he, Option.bind_eq_bind, Option.bind_some]
          rfl
        rw [hst]
        by_cases g0 : Int.tmod e.c0 4 = 0
        · rw [if_pos g0]
          by_cases g1 : Int.tmod e.c1 2097152 = 0
          · refine ⟨2, by omega, by omega, ?_⟩
            rw [grown_L2]
            simp only
            rw [if_pos (by simpa using g1)]
          · refine ⟨Int.tmod e.c1 2097152, t4b, by omega, ?_⟩
            rw [grown_L2]
            simp only
            rw [if_neg (by simpa using g1)]
        · refine ⟨Int.tmod e.c1 2097152, t4b, by omega, ?_⟩
          rw [if_neg g0, grown_L2]
          simp only
          rw [if_neg (by simp)]
      cases hb : e.c2 with
      | true =>
        obtain ⟨acc', nx, hr, hn1, hn2, hn3, hn4⟩ := ihL d (at_ + 1) 0 e.c0 e.c1 true e.c3 e.c4 (Int.tmod e.c0 4) tg [] (by omega) (by omega) h4 h5 (by simp)
        refine ⟨Int.tmod e.c0 4, tg, true, [], acc', nx, ?_, ?_, ?_, hn1⟩
        · rw [htg2, grown_L3]
          simp only [hb]
          rw [if_neg (by simp), wrap64 (by omega) (by omega)]
          exact hr
        · rw [hk0]
          rw [hk1] at hn4
          have hq := hn4 (by simp)
          exact ⟨⟨t4a, htg0, htg1, fun _ => rfl, fun h => by simp at h, by simp, fun p hp => (hq p hp).1⟩, by simp, fun p hp => (hq p hp).2⟩
        · rw [hk0, szG]
          rw [hk1] at hn3
          simp at hn3
          show 1 + (acc'.map (szG k0)).sum + at_ ≤ nx
          omega
      | false =>
        have hmn : minI (e.c3.length : Int) 300 ≤ (e.c3.length : Int) ∧ 0 ≤ minI (e.c3.length : Int) 300 ∧ minI (e.c3.length : Int) 300 ≤ 300 := by unfold minI; split <;> omega
        have hs : sub' e.c3 0 (minI (e.c3.length : Int) 300) = some (e.c3.take (minI (e.c3.length : Int) 300).toNat) := by
          unfold sub'
          rw [if_pos ⟨by omega, hmn.2.1, hmn.1⟩]
          simp
        generalize hv : e.c3.take (minI (e.c3.length : Int) 300).toNat = v at hs
        have hvl : v.length ≤ 300 := by rw [← hv, List.length_take]; omega
        refine ⟨Int.tmod e.c0 4, tg, false, v, [], at_ + 1, ?_, ?_, ?_, by omega⟩
        · rw [htg2, grown_L3]
          simp only [hb]
          rw [if_pos (by simp), hs]
          simp only [Option.bind_eq_bind, Option.bind_some]
          rw [app_ok (by simp; omega), wrap64 (by omega) (by omega)]
          simp only [Option.bind_some, grown_L4, List.nil_append]
          split
          · rename_i h0
            rw [List.eq_nil_of_length_eq_zero h0]
            simp
          · simp
        · rw [hk0]
          exact ⟨⟨t4a, htg0, htg1, fun h => by simp at h, fun _ => rfl, fun b hb => eok.2.2.1 b (by rw [← hv] at hb; exact List.mem_of_mem_take hb), fun p hp => by simp at hp⟩, hvl, fun p hp => by simp at hp⟩
        · rw [hk0, szG]
          show 1 + (([] : List S36).map (szG k0)).sum + at_ ≤ at_ + 1
          simp
          omega
    refine ⟨hP, ?_⟩
    intro d next i b0 b1 b2 b3 b4 c0 c1 acc h1 h2 h3 h4 h5
    have t4a : -4 < Int.tmod b4 4 ∧ Int.tmod b4 4 < 4 := tm_bound _ 4 (by decide)
    have hw : IntKind.i64.wrap (remI .u8 b4 4) = Int.tmod b4 4 := wrap64 (by show _ ≤ Int.tmod b4 4; omega) (by show Int.tmod b4 4 < _; omega)
    by_cases hs : ¬ ((i : Int) < Int.tmod b4 4) ∨ ¬ ((d : Int) < 10) ∨ ¬ ((next : Int) < (l.length : Int)) ∨ ¬ ((next : Int) < 40)
    · refine ⟨acc, next, ?_, h2, Nat.le_refl _, by omega, fun h => h⟩
      rw [grown_L5]
      simp only [hw, L6_false]
      split
      · split
        · split
          · rw [decide_eq_false (by omega), L6_false]
          · rfl
        · rfl
      · rfl
    · have g1 : (i : Int) < Int.tmod b4 4 := by omega
      have g2 : (d : Int) < 10 := by omega
      have g3 : (next : Int) < (l.length : Int) := by omega
      have g4 : (next : Int) < 40 := by omega
      obtain ⟨t0, t1, t2, t3, t4, nx1, e1, hg, hsz, hn⟩ := hP next (d + 1) (by omega) (by omega) (by omega) (by omega) (by omega)
      have hd : 11 - (d + 1) = 10 - d := by omega
      rw [hd] at hg hsz
      have hpos := hg.1.pos
      obtain ⟨acc', nx, e2, q1, q2, q3, q4⟩ := ihL d nx1 (i + 1) b0 b1 b2 b3 b4 c0 c1 (acc ++ [⟨t0, t1, t2, t3, t4⟩]) (by omega) hn h3 h4 (by simp; omega)
      refine ⟨acc', nx, ?_, q1, by omega, ?_, fun h => q4 (fun p hp => ?_)⟩
      · rw [grown_L5]
        simp only [hw]
        rw [if_pos g1, if_pos g2, if_pos g3, decide_eq_true g4, grown_L6]
        simp only [if_true]
        rw [wrap64 (by omega) (by omega), wrap64 (by omega) (by omega), show ((d : Int) + 1) = ((d + 1 : Nat) : Int) by omega, e1]
        simp only [Option.bind_eq_bind, Option.bind_some]
        rw [app_ok (by simp; omega)]
        exact e2
      · simp only [List.map_append, List.sum_append, List.map_cons, List.map_nil, List.sum_cons, List.sum_nil] at q3
        omega
      · rcases List.mem_append.1 hp with hp | hp
        · exact h p hp
        · simp at hp
          subst hp
          exact hg
end Vf
set_option linter.unusedVariables false
set_option linter.unusedSimpArgs false
namespace Vf
open Go Go.Vx
def numT (cls tag v : Int) : S36 := ⟨cls, tag, false, intP v, []⟩
def nilT : S36 := ⟨0, 5, false, [], []⟩
def idT (i : Int) : S36 := if i < 0 then nilT else numT 0 2 i
def partsC (x : S70) : List S36 := idT x.c1 :: (if x.c0 = 5 then [numT 2 1 x.c4] else (if x.c0 = 1 ∧ 0 ≤ x.c2 then [numT 2 0 x.c2] else []) ++ [numT 0 10 x.c3, ⟨0, 4, false, x.c5, []⟩])
def treeC (x : S70) : S36 := ⟨2, x.c0, true, [], partsC x⟩
def VC (x : S70) : Prop := x.c5.length ≤ 2000 ∧ (((x.c0 = 1 ∧ 0 ≤ x.c1 ∧ x.c1 ≤ 127 ∧ -1 ≤ x.c2 ∧ x.c2 ≤ 127 ∧ 0 ≤ x.c3 ∧ x.c3 ≤ 255 ∧ x.c4 = 0) ∨ ((x.c0 = 2 ∨ x.c0 = 3 ∨ x.c0 = 4) ∧ 0 ≤ x.c1 ∧ x.c1 ≤ 127 ∧ x.c2 = 0 ∧ 0 ≤ x.c3 ∧ x.c3 ≤ 255 ∧ x.c4 = 0)) ∨ (x.c0 = 5 ∧ -1 ≤ x.c1 ∧ x.c1 ≤ 127 ∧ x.c2 = 0 ∧ x.c3 = 0 ∧ (x.c5.length : Int) = 0 ∧ 1 ≤ x.c4 ∧ x.c4 ≤ 7))
instance (x : S70) : Decidable (VC x) := by unfold VC; infer_instance
def chkV (x : S70) : Int := if 2000 < (x.c5.length : Int) then 3 else if VC x then 0 else 1
theorem within_eq (n a b : Int) : within (n, a, b) = some (decide (a ≤ n ∧ n ≤ b)) := by
  rw [within]
  simp only [within_L1]
  by_cases h : a ≤ n
  · rw [if_pos h]; simp [h]
  · rw [if_neg h]; simp [h]
theorem cpCheck_eq (x : S70) : cpCheck (x.c0, x.c1, x.c2, x.c3, x.c4, x.c5) = some (chkV x) := by
  have L1 : cpCheck_L2 true = some 0 := by rw [cpCheck_L2]; rfl
  have L0 : cpCheck_L2 false = some 1 := by rw [cpCheck_L2]; rfl
  have L : ∀ b, cpCheck_L2 b = some (if b then 0 else 1) := by intro b; cases b <;> simp [L1, L0]
  rw [cpCheck]
  unfold chkV VC
  simp only [within_eq, cpCheck_L1, L, Option.bind_eq_bind, Option.bind_some]
  by_cases c0 : 2000 < (x.c5.length : Int)
  · rw [if_pos c0, if_pos c0]
  rw [if_neg c0, if_neg c0]
  have hlen : x.c5.length ≤ 2000 := by omega
  have z5 : ((x.c5.length : Int) == 0) = decide ((x.c5.length : Int) = 0) := rfl
  by_cases k1 : x.c0 = 1
  · rw [if_pos k1]
    by_cases a1 : 0 ≤ x.c1 ∧ x.c1 ≤ 127 <;> by_cases a2 : -1 ≤ x.c2 ∧ x.c2 ≤ 127 <;> by_cases a3 : 0 ≤ x.c3 ∧ x.c3 ≤ 255 <;> by_cases a4 : x.c4 = 0 <;> simp [k1, hlen, a1, a2, a3, a4] <;> omega
  rw [if_neg k1]
  by_cases k5 : x.c0 = 5
  · have : ¬ x.c0 = 2 ∧ ¬ x.c0 = 3 ∧ ¬ x.c0 = 4 := by omega
    rw [if_neg this.1, if_neg this.2.1, decide_eq_false this.2.2]
    obtain ⟨L, hL⟩ : ∃ L, (x.c5.length : Int) = L := ⟨_, rfl⟩
    simp only [hL]
    by_cases a1 : -1 ≤ x.c1 ∧ x.c1 ≤ 127 <;> by_cases a2 : x.c2 = 0 <;> by_cases a3 : x.c3 = 0 <;> by_cases a4 : L = 0 <;> by_cases a5 : 1 ≤ x.c4 <;> by_cases a6 : x.c4 ≤ 7 <;> simp [k5, hlen, a1, a2, a3, a4, a5, a6] <;> omega
  have key : ∀ (b : Bool), (x.c0 = 2 ∨ x.c0 = 3 ∨ x.c0 = 4 → b = true) → (b = true → x.c0 = 2 ∨ x.c0 = 3 ∨ x.c0 = 4) → (if b = true then
      if decide (0 ≤ x.c1 ∧ x.c1 ≤ 127) = true then
        if x.c2 = 0 then
          if decide (0 ≤ x.c3 ∧ x.c3 ≤ 255) = true then some (if decide (x.c4 = 0) = true then (0 : Int) else 1)
          else some (if false = true then 0 else 1)
        else some (if false = true then 0 else 1)
      else some (if false = true then 0 else 1)
    else if x.c0 = 5 then
      if decide (-1 ≤ x.c1 ∧ x.c1 ≤ 127) = true then
        if ((x.c2 == 0) && ((x.c3 == 0) && (((x.c5.length : Int) == 0) && true))) = true then
          if 1 ≤ x.c4 then some (if decide (x.c4 ≤ 7) = true then 0 else 1) else some (if false = true then 0 else 1)
        else some (if false = true then 0 else 1)
      else some (if false = true then 0 else 1)
    else some (if false = true then 0 else 1)) = some (if VC x then 0 else 1) := by
    intro b hb1 hb2
    unfold VC
    cases b with
    | true =>
      have hk := hb2 rfl
      by_cases a1 : 0 ≤ x.c1 ∧ x.c1 ≤ 127 <;> by_cases a2 : x.c2 = 0 <;> by_cases a3 : 0 ≤ x.c3 ∧ x.c3 ≤ 255 <;> by_cases a4 : x.c4 = 0 <;> simp [hlen, k1, k5, hk, a1, a2, a3, a4] <;> omega
    | false =>
      have hk : ¬ (x.c0 = 2 ∨ x.c0 = 3 ∨ x.c0 = 4) := fun h => by have := hb1 h; simp at this
      simp [k1, k5, hk]
  unfold VC at key
  by_cases k2 : x.c0 = 2
  · rw [if_pos k2]; exact key _ (fun _ => decide_eq_true k2) (fun _ => .inl k2)
  rw [if_neg k2]
  by_cases k3 : x.c0 = 3
  · rw [if_pos k3]; exact key _ (fun _ => decide_eq_true k3) (fun _ => .inr (.inl k3))
  rw [if_neg k3]
  refine key _ (fun h => decide_eq_true (by omega)) (fun h => .inr (.inr (of_decide_eq_true h)))
theorem clipT_eq (l : List S36) : clipT l = some l := by
  rw [clipT, sub_to l l.length (Nat.le_refl _), List.take_length]
  rfl
theorem numberC_eq {a b n : Int} (h0 : 0 ≤ n) (h1 : n < 4294967296) : numberC (a, b, n) = some (a, b, false, intP n, []) := by
  rw [numberC]
  simp only [intC_eq h0 h1, Option.bind_eq_bind, Option.bind_some]
theorem cpTreeI_eq {x : S70} (h : VC x) : cpTreeI (x.c0, x.c1, x.c2, x.c3, x.c4, x.c5) = some (2, x.c0, true, [], partsC x) := by
  obtain ⟨hl, h⟩ := h
  have hc : cloneS x.c5 = some x.c5 := by
    have hl2 : x.c5.length ≤ 70368744177664 := by omega
    rw [cloneS, app_ok (by simp; omega)]
    rfl
  rw [cpTreeI]
  simp only
  unfold partsC idT numT nilT
  have kk : IntKind.u32.wrap x.c0 = x.c0 := wrapU32 (by omega) (by omega)
  rcases h with (⟨k1, a1, a2, a3, a4, a5, a6, a7⟩ | ⟨k2, a1, a2, a3, a4, a5, a6⟩) | ⟨k5, a1, a2, a3, a4, a5, a6, a7⟩
  · have e1 := numberC_eq (a := 0) (b := 2) (n := x.c1) (by omega) (by omega)
    have e3 := numberC_eq (a := 0) (b := 10) (n := x.c3) (by omega) (by omega)
    have n1 : ¬ x.c1 < 0 := by omega
    have n5 : ¬ x.c0 = 5 := by omega
    by_cases c : 0 ≤ x.c2
    · have e2 := numberC_eq (a := 2) (b := 0) (n := x.c2) (by omega) (by omega)
      simp only [if_neg n1, if_neg n5, if_pos k1, if_pos c, e1, e2, e3, hc, clip_eq, clipT_eq, kk, Option.bind_eq_bind, Option.bind_some, k1, c, and_self, if_true, List.cons_append, List.nil_append]
      rfl
    · simp only [if_neg n1, if_neg n5, if_pos k1, if_neg c, e1, e3, hc, clip_eq, clipT_eq, kk, Option.bind_eq_bind, Option.bind_some, c, and_false, if_false, List.cons_append, List.nil_append]
  · have e1 := numberC_eq (a := 0) (b := 2) (n := x.c1) (by omega) (by omega)
    have e3 := numberC_eq (a := 0) (b := 10) (n := x.c3) (by omega) (by omega)
    have n1 : ¬ x.c1 < 0 := by omega
    have n5 : ¬ x.c0 = 5 := by omega
    have n0 : ¬ x.c0 = 1 := by omega
    have n2 : ¬ (x.c0 = 1 ∧ 0 ≤ x.c2) := by omega
    simp only [if_neg n1, if_neg n5, if_neg n0, if_neg n2, e1, e3, hc, clip_eq, clipT_eq, kk, Option.bind_eq_bind, Option.bind_some, List.cons_append, List.nil_append]
  · have w4 : IntKind.i64.wrap x.c4 = x.c4 := wrap64 (by omega) (by omega)
    have e4 := numberC_eq (a := 2) (b := 1) (n := x.c4) (by omega) (by omega)
    by_cases c : x.c1 < 0
    · simp only [if_pos c, if_pos k5, w4, e4, clipT_eq, kk, Option.bind_eq_bind, Option.bind_some]
    · have e1 := numberC_eq (a := 0) (b := 2) (n := x.c1) (by omega) (by omega)
      simp only [if_neg c, if_pos k5, w4, e1, e4, clipT_eq, kk, Option.bind_eq_bind, Option.bind_some]
theorem num_gd {a b v : Int} (h0 : 0 ≤ a) (h1 : a < 4) (t0 : 0 ≤ b) (t1 : b < 2097152) (hn : ¬ (a = 0 ∧ b = 0)) (hv : 0 ≤ v) : Gd 1 (numT a b v) :=
  ⟨⟨h0, h1⟩, ⟨t0, t1⟩, hn, fun h => by simp [numT] at h, fun _ => rfl, intP_bys hv, fun p hp => by simp [numT] at hp⟩
theorem part_gd {x : S70} (hV : VC x) (hb : Bys x.c5) : ∀ p, p ∈ partsC x → Gd 1 p := by
  have hi : Gd 1 (idT x.c1) := by
    unfold idT
    split
    · exact ⟨⟨by show (0 : Int) ≤ 0; omega, by show (0 : Int) < 4; omega⟩, ⟨by show (0 : Int) ≤ 5; omega, by show (5 : Int) < _; omega⟩, fun h => by simp [nilT] at h, fun _ => rfl, fun _ => rfl, fun b hb => by simp [nilT] at hb, fun p hp => by simp [nilT] at hp⟩
    · exact num_gd (by omega) (by omega) (by omega) (by omega) (by omega) (by omega)
  obtain ⟨_, hV⟩ := hV
  intro p hp
  unfold partsC at hp
  rcases List.mem_cons.1 hp with rfl | hp
  · exact hi
  by_cases k5 : x.c0 = 5
  · rw [if_pos k5] at hp
    simp only [List.mem_singleton] at hp
    subst hp
    exact num_gd (by omega) (by omega) (by omega) (by omega) (by omega) (by omega)
  · rw [if_neg k5] at hp
    rcases List.mem_append.1 hp with hp | hp
    · by_cases c : x.c0 = 1 ∧ 0 ≤ x.c2
      · rw [if_pos c] at hp
        simp only [List.mem_singleton] at hp
        subst hp
        exact num_gd (by omega) (by omega) (by omega) (by omega) (by omega) c.2
      · rw [if_neg c] at hp
        simp at hp
    · simp only [List.mem_cons, List.not_mem_nil, or_false] at hp
      rcases hp with rfl | rfl
      · exact num_gd (by omega) (by omega) (by omega) (by omega) (by omega) (by omega)
      · exact ⟨⟨by show (0 : Int) ≤ 0; omega, by show (0 : Int) < 4; omega⟩, ⟨by show (0 : Int) ≤ 4; omega, by show (4 : Int) < _; omega⟩, fun h => by simp at h, fun h => by simp at h, fun _ => rfl, hb, fun p hp => by simp at hp⟩
theorem treeC_gd {x : S70} (hV : VC x) (hb : Bys x.c5) : Gd 2 (treeC x) := by
  refine ⟨⟨by show (0 : Int) ≤ 2; omega, by show (2 : Int) < 4; omega⟩, ?_, fun h => by have := h.1; simp [treeC] at this, fun _ => rfl, fun h => by simp [treeC] at h, fun b hb => by simp [treeC] at hb, part_gd hV hb⟩
  obtain ⟨_, hV⟩ := hV
  exact ⟨by show 0 ≤ x.c0; omega, by show x.c0 < _; omega⟩
theorem partsC_sum (F : S36 → Nat) (x : S70) (N : Nat) (h1 : ∀ a b v, F (numT a b v) ≤ 17) (h0 : F nilT ≤ 17) (h2 : F ⟨0, 4, false, x.c5, []⟩ ≤ N) : ((partsC x).map F).sum ≤ 51 + N := by
  have hi : F (idT x.c1) ≤ 17 := by
    unfold idT
    split
    · exact h0
    · exact h1 _ _ _
  unfold partsC
  simp only [List.map_cons, List.sum_cons]
  split
  · have := h1 2 1 x.c4
    simp
    omega
  · have := h1 2 0 x.c2
    have := h1 0 10 x.c3
    simp only [List.map_append, List.sum_append]
    split
    · simp; omega
    · simp; omega
theorem treeC_sz (x : S70) : szG 2 (treeC x) ≤ 53 := by
  have := partsC_sum (szG 1) x 1 (fun a b v => by simp [szG, numT]) (by simp [szG, nilT]) (by simp [szG])
  show 1 + ((partsC x).map (szG 1)).sum ≤ 53
  omega
theorem chk0 (x : S70) : chkV x = 0 ↔ VC x := by
  unfold chkV
  by_cases c : 2000 < (x.c5.length : Int)
  · rw [if_pos c]
    exact ⟨fun h => by simp at h, fun h => by have := h.1; omega⟩
  · rw [if_neg c]
    by_cases v : VC x
    · simp [v]
    · simp [v]
theorem valueC_spec {n : Nat} {y : S36} (hg : Gd n y) (a b lo hi : Int) (h0 : 0 ≤ lo) (h1 : hi < 4294967296) :
    (∃ v, y = numT a b v ∧ lo ≤ v ∧ v ≤ hi ∧ valueC (y.c0, y.c1, y.c2, y.c3, y.c4, a, b, lo, hi) = some (v, true)) ∨ (valueC (y.c0, y.c1, y.c2, y.c3, y.c4, a, b, lo, hi) = some (0, false) ∧ ∀ v, lo ≤ v → v ≤ hi → y ≠ numT a b v) := by
  cases n with
  | zero => exact hg.elim
  | succ n =>
  obtain ⟨_, _, _, h3, h4, h5, _⟩ := hg
  have no : ∀ v, valueC_L1 (v, true) = some (0, false) := fun v => by rw [valueC_L1, if_pos rfl]
  obtain ⟨v, e, hv⟩ := toInt_some y.c3 h5
  have hne : ∀ w, (e ≠ 0 ∨ v ≠ w) → lo ≤ w → w ≤ hi → y ≠ numT a b w := by
    intro w hw h1 h2 h
    have := congrArg S36.c3 h
    simp only [numT] at this
    rw [this, toInt_intP (by omega) (by omega)] at hv
    simp at hv
    omega
  rw [valueC]
  simp only [hv, Option.bind_eq_bind, Option.bind_some, no]
  by_cases c0 : e = 0
  · rw [if_neg (by simp [c0])]
    by_cases c1 : y.c2 = true
    · rw [if_pos c1]
      exact .inr ⟨rfl, fun w _ _ h => by rw [h] at c1; simp [numT] at c1⟩
    rw [if_neg c1]
    by_cases c2 : y.c0 = a
    · rw [if_neg (by simp [c2])]
      by_cases c3 : y.c1 = b
      · rw [if_neg (by simp [c3])]
        by_cases c4 : v < lo
        · rw [if_pos c4]
          exact .inr ⟨rfl, fun w w1 w2 => hne w (.inr (by omega)) w1 w2⟩
        rw [if_neg c4]
        by_cases c5 : hi < v
        · rw [decide_eq_true c5, no]
          exact .inr ⟨rfl, fun w w1 w2 => hne w (.inr (by omega)) w1 w2⟩
        · rw [decide_eq_false c5, valueC_L1, if_neg (by simp)]
          refine .inl ⟨v, ?_, by omega, by omega, rfl⟩
          subst c0
          have c1' : y.c2 = false := by simpa using c1
          have := intP_of h5 hv (by omega) (by omega)
          rw [S36.eta y, c2, c3, c1', this, h4 c1']
          rfl
      · rw [if_pos (by simp [c3])]
        exact .inr ⟨rfl, fun w _ _ h => c3 (by rw [h]; rfl)⟩
    · rw [if_pos (by simp [c2])]
      exact .inr ⟨rfl, fun w _ _ h => c2 (by rw [h]; rfl)⟩
  · rw [if_pos (by simp [c0])]
    exact .inr ⟨rfl, fun w w1 w2 => hne w (.inl c0) w1 w2⟩
theorem takeF_spec {n : Nat} {l : List S36} (hg : ∀ p, p ∈ l → Gd n p) (a b lo hi : Int) (h0 : 0 ≤ lo) (h1 : hi < 4294967296) :
    (∃ v l', l = numT a b v :: l' ∧ lo ≤ v ∧ v ≤ hi ∧ takeF (a, b, lo, hi, l) = some (v, true, l')) ∨ (takeF (a, b, lo, hi, l) = some (0, false, l) ∧ ∀ v l', lo ≤ v → v ≤ hi → l ≠ numT a b v :: l') := by
  cases l with
  | nil => exact .inr ⟨by rw [takeF, if_pos (by simp)], fun v l' _ _ h => by simp at h⟩
  | cons y l =>
    rw [takeF, if_neg (by simp; omega), at0]
    simp only [Option.bind_eq_bind, Option.bind_some]
    rcases valueC_spec (hg y (by simp)) a b lo hi h0 h1 with ⟨v, e, w1, w2, h⟩ | ⟨h, hn⟩
    · rw [h]
      simp only [Option.bind_some]
      rw [if_pos (by trivial), subs]
      simp only [Option.bind_some, takeF_L1]
      exact .inl ⟨v, l, by rw [e], w1, w2, rfl⟩
    · rw [h]
      simp only [Option.bind_some]
      rw [if_neg (by simp), takeF_L1]
      exact .inr ⟨rfl, fun v l' w1 w2 h => hn v w1 w2 (List.cons.inj h).1⟩
theorem L4_spec {k i lk : Int} {l : List S36} (hg : ∀ p, p ∈ l → Gd 15 p) (hc : ∀ p, p ∈ l → p.c3.length ≤ 65536) :
    ∃ c v ok, fieldsC_L4 (k, i, lk, l) = some (k, i, lk, c, 0, v, ok) ∧ (ok = true → l = [numT 0 10 c, ⟨0, 4, false, v, []⟩] ∧ Bys v) := by
  have no : ∀ (c : Int) (l : List S36), fieldsC_L5 (c, true, k, i, lk, l) = some (k, i, lk, 0, 0, [], false) := fun c l => by rw [fieldsC_L5, if_pos rfl]
  rw [fieldsC_L4]
  rcases takeF_spec hg 0 10 0 255 (by omega) (by omega) with ⟨c, l', rfl, w1, w2, h⟩ | ⟨h, _⟩
  · simp only [h, Option.bind_eq_bind, Option.bind_some]
    rw [if_neg (by simp)]
    match l', hg, hc with
    | [], _, _ => exact ⟨0, [], false, by simp [no], fun h => by simp at h⟩
    | p :: q :: l', _, _ =>
      rw [show (!decide ((((p :: q :: l').length : Nat) : Int) = 1)) = true by simp; omega, no]
      exact ⟨0, [], false, rfl, fun h => by simp at h⟩
    | [p], hg, hc =>
      have gp := hg p (by simp)
      have hp := hc p (by simp)
      have hp' : p.c3.length ≤ 70368744177664 := by omega
      obtain ⟨_, _, _, _, h4, h5, _⟩ := gp
      have hcl : cloneS p.c3 = some p.c3 := by
        rw [cloneS, app_ok (by simp; omega)]
        rfl
      rw [show (!decide (((([p] : List S36).length : Nat) : Int) = 1)) = false by simp, fieldsC_L5, if_neg (by simp)]
      simp only [at0, hcl, clip_eq, Option.bind_eq_bind, Option.bind_some, fieldsC_L6]
      by_cases a0 : p.c0 = 0
      · rw [if_pos a0]
        by_cases a1 : p.c1 = 4
        · rw [if_pos a1]
          refine ⟨c, p.c3, !p.c2, rfl, fun hk => ⟨?_, h5⟩⟩
          have a2 : p.c2 = false := by simpa using hk
          have e : p = ⟨0, 4, false, p.c3, []⟩ := by
            have := S36.eta p
            rw [a0, a1, a2, h4 a2] at this
            exact this
          rw [← e]
        · rw [if_neg a1]
          exact ⟨c, p.c3, false, rfl, fun h => by simp at h⟩
      · rw [if_neg a0]
        exact ⟨c, p.c3, false, rfl, fun h => by simp at h⟩
  · simp only [h, Option.bind_eq_bind, Option.bind_some]
    rw [if_pos (by simp), no]
    exact ⟨0, [], false, rfl, fun h => by simp at h⟩
theorem L2_spec {k i : Int} {l : List S36} (hg : ∀ p, p ∈ l → Gd 15 p) (hc : ∀ p, p ∈ l → p.c3.length ≤ 65536) :
    ∃ x ok, fieldsC_L2 (k, i, l) = some (x.c0, x.c1, x.c2, x.c3, x.c4, x.c5, ok) ∧ x.c0 = k ∧ x.c1 = i ∧ (ok = true → idT i :: l = partsC x ∧ Bys x.c5) := by
  rw [fieldsC_L2]
  by_cases k5 : k = 5
  · rw [if_pos k5]
    rcases takeF_spec hg 2 1 1 7 (by omega) (by omega) with ⟨v, l', rfl, w1, w2, h⟩ | ⟨h, _⟩
    · simp only [h, Option.bind_eq_bind, Option.bind_some, fieldsC_L3, if_true]
      refine ⟨⟨k, i, 0, 0, v, []⟩, decide ((l'.length : Int) = 0), by rw [wrapU8 (n := v) (by omega) (by omega)], rfl, rfl, fun hk => ?_⟩
      have : l' = [] := List.eq_nil_of_length_eq_zero (by simpa using hk)
      subst this
      exact ⟨by unfold partsC; simp [k5], fun b hb => by simp at hb⟩
    · simp only [h, Option.bind_eq_bind, Option.bind_some, fieldsC_L3]
      rw [if_neg (by simp)]
      exact ⟨⟨k, i, 0, 0, IntKind.u8.wrap 0, []⟩, false, rfl, rfl, rfl, fun h => by simp at h⟩
  · rw [if_neg k5]
    by_cases k1 : k = 1
    · rw [if_pos k1]
      rcases takeF_spec hg 2 0 0 127 (by omega) (by omega) with ⟨v, l', rfl, w1, w2, h⟩ | ⟨h, _⟩
      · simp only [h, Option.bind_eq_bind, Option.bind_some, if_true]
        obtain ⟨c, val, ok, e, hk⟩ := L4_spec (k := k) (i := i) (lk := v) (l := l') (fun p hp => hg p (by simp [hp])) (fun p hp => hc p (by simp [hp]))
        refine ⟨⟨k, i, v, c, 0, val⟩, ok, e, rfl, rfl, fun hok => ?_⟩
        obtain ⟨rfl, hb⟩ := hk hok
        exact ⟨by unfold partsC; simp [k1, w1], hb⟩
      · simp only [h, Option.bind_eq_bind, Option.bind_some]
        rw [if_neg (by simp)]
        obtain ⟨c, val, ok, e, hk⟩ := L4_spec (k := k) (i := i) (lk := -1) (l := l) hg hc
        refine ⟨⟨k, i, -1, c, 0, val⟩, ok, e, rfl, rfl, fun hok => ?_⟩
        obtain ⟨rfl, hb⟩ := hk hok
        exact ⟨by unfold partsC; simp [k1], hb⟩
    · rw [if_neg k1]
      obtain ⟨c, val, ok, e, hk⟩ := L4_spec (k := k) (i := i) (lk := 0) (l := l) hg hc
      refine ⟨⟨k, i, 0, c, 0, val⟩, ok, e, rfl, rfl, fun hok => ?_⟩
      obtain ⟨rfl, hb⟩ := hk hok
      exact ⟨by unfold partsC; simp [k1, k5], hb⟩
theorem nilT_gd : Gd 16 nilT := ⟨⟨by show (0 : Int) ≤ 0; omega, by show (0 : Int) < 4; omega⟩, ⟨by show (0 : Int) ≤ 5; omega, by show (5 : Int) < _; omega⟩, fun h => by simp [nilT] at h, fun _ => rfl, fun _ => rfl, fun b hb => by simp [nilT] at hb, fun p hp => by simp [nilT] at hp⟩
theorem fields_spec {p : S36} (g : Gd 15 p) (hs : szG 15 p ≤ 1024) (hc : ∀ q, q ∈ p.c4 → q.c3.length ≤ 65536) (hk : 1 ≤ p.c1 ∧ p.c1 ≤ 5) :
    ∃ x ok, fieldsC (p.c0, p.c1, p.c2, p.c3, p.c4) = some (x.c0, x.c1, x.c2, x.c3, x.c4, x.c5, ok) ∧ (ok = true → x.c0 = p.c1 ∧ p.c4 = partsC x ∧ Bys x.c5) := by
  have gp := g.2.2.2.2.2.2
  have w : IntKind.u8.wrap p.c1 = p.c1 := wrapU8 (by omega) (by omega)
  rw [fieldsC]
  have gp15 : ∀ q, q ∈ p.c4 → Gd 15 q := fun q hq => (gp q hq).succ
  rcases takeF_spec gp 0 2 0 127 (by omega) (by omega) with ⟨v, l', e, w1, w2, h⟩ | ⟨h, _⟩
  · simp only [h, Option.bind_eq_bind, Option.bind_some, if_true, w]
    obtain ⟨x, ok, e1, e2, e3, e4⟩ := L2_spec (k := p.c1) (i := v) (l := l') (fun q hq => gp15 q (by rw [e]; simp [hq])) (fun q hq => hc q (by rw [e]; simp [hq]))
    refine ⟨x, ok, e1, fun hok => ?_⟩
    obtain ⟨a1, a2⟩ := e4 hok
    refine ⟨e2, ?_, a2⟩
    rw [e, ← a1]
    unfold idT
    rw [if_neg (by omega)]
  · simp only [h, Option.bind_eq_bind, Option.bind_some, w]
    rw [if_neg (by simp)]
    have bad : ∃ x ok, fieldsC_L1 (false, p.c1, p.c4) = some (x.c0, x.c1, x.c2, x.c3, x.c4, x.c5, ok) ∧ (ok = true → x.c0 = p.c1 ∧ p.c4 = partsC x ∧ Bys x.c5) := by
      rw [fieldsC_L1, if_neg (by simp)]
      exact ⟨⟨p.c1, -1, 0, 0, 0, []⟩, false, rfl, fun h => by simp at h⟩
    cases hp4 : p.c4 with
    | nil =>
      rw [hp4] at bad
      rw [if_neg (by simp)]
      exact bad
    | cons y l =>
      have hy : y ∈ p.c4 := by rw [hp4]; simp
      have gy := (gp15 y hy).le (m := 16) (by omega)
      have sy : szG 16 y ≤ 1024 := by
        rw [szG_le (n := 14) (m := 16) (gp y hy) (by decide)]
        have : szG 14 y ≤ szG 15 p := szG_mem (n := 14) hy
        omega
      have st := sameT_val (y := nilT) gy nilT_gd sy (by simp [szG, nilT])
      have st' : sameT (y.c0, y.c1, y.c2, y.c3, y.c4, 0, 5, false, [], []) = some (eqB 16 y nilT) := st
      rw [if_pos (by simp), at0]
      simp only [Option.bind_some, st']
      cases he : eqB 16 y nilT with
      | false =>
        rw [hp4] at bad
        exact bad
      | true =>
        have e := eqB_eq 16 y nilT gy nilT_gd he
        rw [fieldsC_L1, if_pos rfl]
        simp only [subs, Option.bind_eq_bind, Option.bind_some]
        obtain ⟨x, ok, e1, e2, e3, e4⟩ := L2_spec (k := p.c1) (i := -1) (l := l) (fun q hq => gp15 q (by rw [hp4]; simp [hq])) (fun q hq => hc q (by rw [hp4]; simp [hq]))
        refine ⟨x, ok, e1, fun hok => ?_⟩
        obtain ⟨a1, a2⟩ := e4 hok
        refine ⟨e2, ?_, a2⟩
        rw [e, ← a1]
        rfl
abbrev OfR := Int × Int × Int × Int × Int × (List Int) × Int × Int × Int × Int × Int × (List Int) × Int
def errOf (r : OfR) : Int := r.2.2.2.2.2.2.2.2.2.2.2.2
theorem num_inj {a b v w : Int} (h : numT a b v = numT a b w) (h0 : 0 ≤ v) (h1 : v < 4294967296) (g0 : 0 ≤ w) (g1 : w < 4294967296) : v = w := by
  have e := congrArg S36.c3 h
  simp only [numT] at e
  have e1 := toInt_intP h0 h1
  rw [e, toInt_intP g0 g1] at e1
  simp at e1
  exact e1.symm
theorem take_hit {n : Nat} {l : List S36} {a b lo hi v : Int} (hg : ∀ p, p ∈ numT a b v :: l → Gd n p) (h0 : 0 ≤ lo) (h1 : hi < 4294967296) (hv : lo ≤ v) (hv2 : v ≤ hi) : takeF (a, b, lo, hi, numT a b v :: l) = some (v, true, l) := by
  rcases takeF_spec hg a b lo hi h0 h1 with ⟨w, l', e, w1, w2, h⟩ | ⟨_, h⟩
  · obtain ⟨e1, e2⟩ := List.cons.inj e
    rw [h, e2, num_inj e1 (by omega) (by omega) (by omega) (by omega)]
  · exact absurd rfl (h v l hv hv2)
theorem take_miss {n : Nat} {p : S36} {l : List S36} {a b lo hi : Int} (hg : ∀ q, q ∈ p :: l → Gd n q) (h0 : 0 ≤ lo) (h1 : hi < 4294967296) (hp : p.c0 ≠ a ∨ p.c1 ≠ b) : takeF (a, b, lo, hi, p :: l) = some (0, false, p :: l) := by
  rcases takeF_spec hg a b lo hi h0 h1 with ⟨w, l', e, w1, w2, h⟩ | ⟨h, _⟩
  · have := (List.cons.inj e).1
    subst this
    simp [numT] at hp
  · exact h
theorem L4_hit {k i lk c : Int} {v : List Int} (hc : 0 ≤ c ∧ c ≤ 255) (hv : v.length ≤ 2000) (hb : Bys v) : fieldsC_L4 (k, i, lk, [numT 0 10 c, ⟨0, 4, false, v, []⟩]) = some (k, i, lk, c, 0, v, true) := by
  have gv : Gd 1 (⟨0, 4, false, v, []⟩ : S36) := ⟨⟨by show (0 : Int) ≤ 0; omega, by show (0 : Int) < 4; omega⟩, ⟨by show (0 : Int) ≤ 4; omega, by show (4 : Int) < _; omega⟩, fun h => by simp at h, fun h => by simp at h, fun _ => rfl, hb, fun p hp => by simp at hp⟩
  have gn : Gd 1 (numT 0 10 c) := num_gd (by omega) (by omega) (by omega) (by omega) (by omega) hc.1
  have hcl : cloneS v = some v := by
    have : v.length ≤ 70368744177664 := by omega
    rw [cloneS, app_ok (by simp; omega)]
    rfl
  rw [fieldsC_L4, take_hit (n := 1) (fun p hp => by simp only [List.mem_cons, List.not_mem_nil, or_false] at hp; rcases hp with rfl | rfl; exact gn; exact gv) (by omega) (by omega) hc.1 hc.2]
  simp only [Option.bind_eq_bind, Option.bind_some]
  rw [if_neg (by simp), fieldsC_L5, if_neg (by simp)]
  simp only [at0, hcl, clip_eq, Option.bind_eq_bind, Option.bind_some, fieldsC_L6, if_true, Bool.not_false]
theorem fields_hit {x : S70} (hV : VC x) (hb : Bys x.c5) : fieldsC (2, x.c0, true, [], partsC x) = some (x.c0, x.c1, x.c2, x.c3, x.c4, x.c5, true) := by
  have hg := part_gd hV hb
  obtain ⟨hl, h⟩ := hV
  have w : IntKind.u8.wrap x.c0 = x.c0 := wrapU8 (by omega) (by omega)
  have L2 : ∀ l, idT x.c1 :: l = partsC x → fieldsC_L2 (x.c0, x.c1, l) = some (x.c0, x.c1, x.c2, x.c3, x.c4, x.c5, true) := by
    intro l e
    have hgl : ∀ p, p ∈ l → Gd 1 p := fun p hp => hg p (by rw [← e]; simp [hp])
    unfold partsC at e
    have e := (List.cons.inj e).2
    rw [fieldsC_L2]
    by_cases k5 : x.c0 = 5
    · rw [if_pos k5] at e ⊢
      subst e
      rw [take_hit hgl (by omega) (by omega) (by omega) (by omega)]
      simp only [Option.bind_eq_bind, Option.bind_some, if_true, fieldsC_L3]
      rw [wrapU8 (n := x.c4) (by omega) (by omega)]
      have h5 : x.c5 = [] := List.eq_nil_of_length_eq_zero (by omega)
      rw [h5, show x.c2 = 0 by omega, show x.c3 = 0 by omega]
      rfl
    · rw [if_neg k5] at e ⊢
      by_cases k1 : x.c0 = 1
      · rw [if_pos k1]
        by_cases c : 0 ≤ x.c2
        · rw [if_pos ⟨k1, c⟩] at e
          rw [List.singleton_append] at e
          subst e
          rw [take_hit hgl (by omega) (by omega) c (by omega)]
          simp only [Option.bind_eq_bind, Option.bind_some, if_true]
          rw [L4_hit (by omega) hl hb, show x.c4 = 0 by omega]
        · rw [if_neg (by omega), List.nil_append] at e
          subst e
          rw [take_miss hgl (by omega) (by omega) (.inl (by simp [numT]))]
          simp only [Option.bind_eq_bind, Option.bind_some]
          rw [if_neg (by simp), L4_hit (by omega) hl hb, show x.c4 = 0 by omega, show x.c2 = -1 by omega]
      · rw [if_neg k1]
        rw [if_neg (by omega), List.nil_append] at e
        subst e
        rw [L4_hit (by omega) hl hb, show x.c4 = 0 by omega, show x.c2 = 0 by omega]
  rw [fieldsC]
  simp only [w]
  obtain ⟨l, hpl⟩ : ∃ l, partsC x = idT x.c1 :: l := ⟨_, rfl⟩
  have L2l := L2 l hpl.symm
  rw [hpl] at hg ⊢
  unfold idT at hg ⊢
  by_cases c : x.c1 < 0
  · rw [if_pos c] at hg ⊢
    have st := sameT_val (x := nilT) (y := nilT) nilT_gd nilT_gd (by simp [szG, nilT]) (by simp [szG, nilT])
    rw [eqB_self 16 _ nilT_gd] at st
    have st' : sameT (nilT.c0, nilT.c1, nilT.c2, nilT.c3, nilT.c4, 0, 5, false, [], []) = some true := st
    rw [take_miss hg (by omega) (by omega) (.inr (by simp [nilT]))]
    simp only [Option.bind_eq_bind, Option.bind_some]
    rw [if_neg (by simp), if_pos (by simp), at0]
    simp only [Option.bind_some, st']
    rw [fieldsC_L1, if_pos rfl]
    simp only [subs, Option.bind_eq_bind, Option.bind_some]
    rw [show x.c1 = -1 by omega] at L2l ⊢
    exact L2l
  · rw [if_neg c] at hg ⊢
    rw [take_hit hg (by omega) (by omega) (by omega) (by omega)]
    simp only [Option.bind_eq_bind, Option.bind_some, if_true]
    exact L2l
theorem cpOf_hit {x : S70} (hV : VC x) (hb : Bys x.c5) : cpOf (2, x.c0, true, [], partsC x) = some (x.c0, x.c1, x.c2, x.c3, x.c4, x.c5, 0, 0, 0, 0, 0, [], 0) := by
  have g := treeC_gd hV hb
  have hs := treeC_sz x
  have hck : check (2, x.c0, true, [], partsC x) = some 0 := g.check (by omega) (by omega)
  have hk : 1 ≤ x.c0 ∧ x.c0 ≤ 5 := by obtain ⟨_, h⟩ := hV; omega
  rw [cpOf, if_pos rfl, if_pos (by rfl), if_pos hk.1]
  simp only
  rw [decide_eq_true hk.2, cpOf_L1, if_pos rfl]
  simp only [hck, Option.bind_eq_bind, Option.bind_some, decide_true]
  rw [cpOf_L2, if_pos rfl]
  simp only [fields_hit hV hb, Option.bind_eq_bind, Option.bind_some, if_true, cpCheck_eq, (chk0 x).2 hV, decide_true]
  rw [cpOf_L3, if_pos rfl]
def okK (y : S63) : Prop := 0 ≤ y.c0 ∧ 0 ≤ y.c1 ∧ 0 ≤ y.c2 ∧ (0 ≤ y.c3 ∧ y.c3 < 256) ∧ 0 ≤ y.c4 ∧ Bys y.c5
theorem kOf_some {y : S63} (h : okK y) : ∃ x : S70, kOf (y.c0, y.c1, y.c2, y.c3, y.c4, y.c5) = some (x.c0, x.c1, x.c2, x.c3, x.c4, x.c5) ∧ VC x ∧ Bys x.c5 := by
  obtain ⟨h0, h1, h2, h3, h4, h5⟩ := h
  have a0 := Int.tmod_nonneg 5 h0; have a1 := Int.tmod_lt_of_pos y.c0 (b := 5) (by omega)
  have b0 := Int.tmod_nonneg 128 h1; have b1 := Int.tmod_lt_of_pos y.c1 (b := 128) (by omega)
  have d0 := Int.tmod_nonneg 129 h2; have d1 := Int.tmod_lt_of_pos y.c2 (b := 129) (by omega)
  have e0 := Int.tmod_nonneg 7 h4; have e1 := Int.tmod_lt_of_pos y.c4 (b := 7) (by omega)
  have r0 : remI .u8 y.c0 5 = y.c0.tmod 5 := rfl
  have r1 : remI .u8 y.c1 128 = y.c1.tmod 128 := rfl
  have r2 : remI .u8 y.c2 129 = y.c2.tmod 129 := rfl
  have r4 : remI .u8 y.c4 7 = y.c4.tmod 7 := rfl
  obtain ⟨q, hq⟩ : ∃ q, y.c0.tmod 5 = q := ⟨_, rfl⟩
  obtain ⟨i, hi⟩ : ∃ q, y.c1.tmod 128 = q := ⟨_, rfl⟩
  obtain ⟨lk, hlk⟩ : ∃ q, y.c2.tmod 129 = q := ⟨_, rfl⟩
  obtain ⟨p, hp⟩ : ∃ q, y.c4.tmod 7 = q := ⟨_, rfl⟩
  rw [hq] at a0 a1 r0; rw [hi] at b0 b1 r1; rw [hlk] at d0 d1 r2; rw [hp] at e0 e1 r4
  have w0 : IntKind.u8.wrap (1 + q) = 1 + q := wrapU8 (by omega) (by omega)
  have w1 : IntKind.i64.wrap i = i := wrap64 (by omega) (by omega)
  have w1' : IntKind.i64.wrap (i - 1) = i - 1 := wrap64 (by omega) (by omega)
  have w2 : IntKind.i64.wrap lk = lk := wrap64 (by omega) (by omega)
  have w2' : IntKind.i64.wrap (lk - 1) = lk - 1 := wrap64 (by omega) (by omega)
  have w3 : IntKind.i64.wrap y.c3 = y.c3 := wrap64 (by omega) (by omega)
  have w4 : IntKind.u8.wrap (1 + p) = 1 + p := wrapU8 (by omega) (by omega)
  have L1 : ∀ k ii l, kOf_L1 (y.c0, y.c1, y.c2, y.c3, y.c4, y.c5, k, ii, l) = some (k, ii, l, y.c3, 0, y.c5.take 2000) := by
    intro k ii l
    have hs : sub' y.c5 0 (minI (y.c5.length : Int) 2000) = some (y.c5.take 2000) := by
      unfold sub' minI
      by_cases c : (y.c5.length : Int) ≤ 2000
      · have e : min (y.c5.length : Int) 2000 = (y.c5.length : Int) := by omega
        first
        | (rw [if_pos (by omega)]; simp; omega)
        | (simp [c]; omega)
      · first
        | (rw [if_pos (by omega)]; simp; omega)
        | (simp [c]; omega)
    have hl2 : (y.c5.take 2000).length ≤ 70368744177664 := by rw [List.length_take]; omega
    rw [kOf_L1]
    simp only [hs, Option.bind_eq_bind, Option.bind_some, w3]
    rw [app_ok (by simp; omega)]
    simp only [Option.bind_some, List.nil_append, kOf_L2]
    by_cases c : (y.c5.take 2000).length = 0
    · rw [if_pos c, List.eq_nil_of_length_eq_zero c]
    · rw [if_neg c]
  have hbt : Bys (y.c5.take 2000) := h5.take 2000
  have hlt : (y.c5.take 2000).length ≤ 2000 := by rw [List.length_take]; omega
  rw [kOf]
  simp only [r0, r1, r2, r4, w0, w1, w1', w2, w2', w4]
  by_cases k5 : 1 + q = 5
  · rw [if_pos k5]
    exact ⟨⟨1 + q, i - 1, 0, 0, 1 + p, []⟩, rfl, ⟨by simp, .inr ⟨k5, by show -1 ≤ i - 1; omega, by show i - 1 ≤ 127; omega, rfl, rfl, rfl, by show 1 ≤ 1 + p; omega, by show 1 + p ≤ 7; omega⟩⟩, fun b hb => by simp at hb⟩
  · rw [if_neg k5]
    by_cases k1 : 1 + q = 1
    · rw [if_pos k1, L1]
      exact ⟨⟨1 + q, i, lk - 1, y.c3, 0, y.c5.take 2000⟩, rfl, ⟨hlt, .inl (.inl ⟨k1, b0, by show i ≤ 127; omega, by show -1 ≤ lk - 1; omega, by show lk - 1 ≤ 127; omega, h3.1, by show y.c3 ≤ 255; omega, rfl⟩)⟩, hbt⟩
    · rw [if_neg k1, L1]
      exact ⟨⟨1 + q, i, 0, y.c3, 0, y.c5.take 2000⟩, rfl, ⟨hlt, .inl (.inr ⟨by show 1 + q = 2 ∨ 1 + q = 3 ∨ 1 + q = 4; omega, b0, by show i ≤ 127; omega, rfl, h3.1, by show y.c3 ≤ 255; omega, rfl⟩)⟩, hbt⟩
theorem lawPart_eq {a b n : Int} (h0 : 0 ≤ n) (h1 : n < 4294967296) : lawPart (a, b, n) = some (a, b, false, intP n, []) := by
  rw [lawPart]
  simp only [intC_eq h0 h1, Option.bind_eq_bind, Option.bind_some]
theorem lawTree_eq {x : S70} (h : VC x) : lawTree (x.c0, x.c1, x.c2, x.c3, x.c4, x.c5) = some (2, x.c0, true, [], partsC x) := by
  obtain ⟨hl, h⟩ := h
  rw [lawTree]
  simp only
  unfold partsC idT numT nilT
  have kk : IntKind.u32.wrap x.c0 = x.c0 := wrapU32 (by omega) (by omega)
  rcases h with (⟨k1, a1, a2, a3, a4, a5, a6, a7⟩ | ⟨k2, a1, a2, a3, a4, a5, a6⟩) | ⟨k5, a1, a2, a3, a4, a5, a6, a7⟩
  · have e1 := lawPart_eq (a := 0) (b := 2) (n := x.c1) (by omega) (by omega)
    have e3 := lawPart_eq (a := 0) (b := 10) (n := x.c3) (by omega) (by omega)
    have n1 : ¬ x.c1 < 0 := by omega
    have n1' : ¬ x.c1 = -1 := by omega
    have n5 : ¬ x.c0 = 5 := by omega
    by_cases c : 0 ≤ x.c2
    · have e2 := lawPart_eq (a := 2) (b := 0) (n := x.c2) (by omega) (by omega)
      simp only [if_neg n1, if_neg n1', if_neg n5, if_pos k1, if_pos c, e1, e2, e3, kk, Option.bind_eq_bind, Option.bind_some, k1, c, and_self, if_true, List.cons_append, List.nil_append]
      rfl
    · simp only [if_neg n1, if_neg n1', if_neg n5, if_pos k1, if_neg c, e1, e3, kk, Option.bind_eq_bind, Option.bind_some, c, and_false, if_false, List.cons_append, List.nil_append]
  · have e1 := lawPart_eq (a := 0) (b := 2) (n := x.c1) (by omega) (by omega)
    have e3 := lawPart_eq (a := 0) (b := 10) (n := x.c3) (by omega) (by omega)
    have n1 : ¬ x.c1 < 0 := by omega
    have n1' : ¬ x.c1 = -1 := by omega
    have n5 : ¬ x.c0 = 5 := by omega
    have n0 : ¬ x.c0 = 1 := by omega
    have n2 : ¬ (x.c0 = 1 ∧ 0 ≤ x.c2) := by omega
    simp only [if_neg n1, if_neg n1', if_neg n5, if_neg n0, if_neg n2, e1, e3, kk, Option.bind_eq_bind, Option.bind_some, List.cons_append, List.nil_append]
  · have w4 : IntKind.i64.wrap x.c4 = x.c4 := wrap64 (by omega) (by omega)
    have e4 := lawPart_eq (a := 2) (b := 1) (n := x.c4) (by omega) (by omega)
    have n0 : ¬ x.c0 = 1 := by omega
    by_cases c : x.c1 < 0
    · have c' : x.c1 = -1 := by omega
      simp only [if_pos c, if_pos c', if_pos k5, if_neg n0, w4, e4, kk, Option.bind_eq_bind, Option.bind_some]
    · have c' : ¬ x.c1 = -1 := by omega
      have e1 := lawPart_eq (a := 0) (b := 2) (n := x.c1) (by omega) (by omega)
      simp only [if_neg c, if_neg c', if_pos k5, if_neg n0, w4, e1, e4, kk, Option.bind_eq_bind, Option.bind_some]
theorem sameC_self (x : S70) : sameC (x.c0, x.c1, x.c2, x.c3, x.c4, x.c5, x.c0, x.c1, x.c2, x.c3, x.c4, x.c5) = some true := by
  rw [sameC]
  simp only [strEq_self, sameC_L1, if_true]
theorem zeroC_0 : zeroC (0, 0, 0, 0, 0, []) = some true := by
  have := sameC_self ⟨0, 0, 0, 0, 0, []⟩
  have e : sameC (0, 0, 0, 0, 0, [], 0, 0, 0, 0, 0, []) = some true := this
  rw [zeroC]
  simp only [e, Option.bind_eq_bind, Option.bind_some]
end Vf
set_option linter.unusedVariables false
set_option linter.unusedSimpArgs false
namespace Vf
open Go Go.Vx
def OkT (p : S36) : Prop := Gd 15 p ∧ szG 15 p ≤ 1024 ∧ ∀ q, q ∈ p.c4 → q.c3.length ≤ 65536
def knownB (p : S36) : Bool := p.c2 && decide (p.c0 = 2) && decide (1 ≤ p.c1) && decide (p.c1 ≤ 5)
def headN : List S36 → Int
  | [] => -1
  | y :: _ => if y.c0 = 0 ∧ y.c1 = 2 ∧ y.c2 = false then (match y.c3 with | [b] => if b < 128 then b else -1 | _ => -1) else -1
theorem intP_one {v : Int} (h1 : v ≤ 127) : intP v = [v] := by unfold intP; rw [if_pos (by omega)]
theorem headN_num {v : Int} {l : List S36} (h0 : 0 ≤ v) (h1 : v ≤ 127) : headN (numT 0 2 v :: l) = v := by
  unfold headN numT
  simp only [intP_one h1, and_self, if_true]
  rw [if_pos (by omega)]
theorem headN_no {n : Nat} {y : S36} {l : List S36} (g : Gd n y) (h : ∀ v, 0 ≤ v → v ≤ 127 → y ≠ numT 0 2 v) : headN (y :: l) = -1 := by
  unfold headN
  simp only
  split
  · rename_i hc
    split
    · rename_i b hb
      split
      · rename_i hlt
        cases n with
        | zero => exact g.elim
        | succ n =>
        obtain ⟨_, _, _, _, h4, h5, _⟩ := g
        have hb0 := (h5 b (by rw [hb]; simp)).1
        refine absurd ?_ (h b hb0 (by omega))
        rw [S36.eta y, hc.1, hc.2.1, hc.2.2, h4 hc.2.2, hb]
        unfold numT
        rw [intP_one (by omega)]
      · rfl
    · rfl
  · rfl
def rejT (p : S36) : OfR := if knownB p = true ∧ p.c1 = 5 then (0, 0, 0, 0, 0, [], 0, 0, 0, 0, 0, [], 4) else (0, 0, 0, 0, 0, [], 5, headN p.c4, 0, 0, (if knownB p then 2 else 1), [], 4)
theorem Of_L6x {p : S36} (g : Gd 15 p) (z : Int) : cpOf_L6 (p.c0, p.c1, p.c2, p.c3, p.c4, z) = some (0, 0, 0, 0, 0, [], 5, headN p.c4, 0, 0, z, [], 4) := by
  rw [cpOf_L6]
  cases hp4 : p.c4 with
  | nil => rw [if_neg (by simp), cpOf_L7]; rfl
  | cons y l =>
    have gy := g.2.2.2.2.2.2 y (by rw [hp4]; simp)
    rw [if_pos (by simp), at0]
    simp only [Option.bind_eq_bind, Option.bind_some]
    rcases valueC_spec gy 0 2 0 127 (by omega) (by omega) with ⟨v, rfl, w1, w2, h⟩ | ⟨h, hn⟩
    · rw [h]; simp only [Option.bind_some, if_true]; rw [cpOf_L7, headN_num w1 w2]
    · rw [h]; simp only [Option.bind_some]; rw [if_neg (by simp), cpOf_L7, headN_no gy hn]
theorem Of_L4x {p : S36} (g : Gd 15 p) : cpOf_L4 (knownB p, p.c0, p.c1, p.c2, p.c3, p.c4) = some (rejT p) := by
  rw [cpOf_L4]
  unfold rejT
  cases hk : knownB p with
  | true =>
    rw [if_pos rfl, cpOf_L5]
    by_cases c : p.c1 = 5
    · simp only [c, decide_true, if_true, and_self]
    · simp only [c, decide_false, and_false, if_false, if_true, Bool.false_eq_true, Bool.not_true]
      exact Of_L6x g 2
  | false =>
    rw [if_neg (by simp), cpOf_L5]
    simp only [Bool.false_eq_true, false_and, if_false, Bool.not_false, if_true]
    exact Of_L6x g 1
theorem Of_full {p : S36} (h : OkT p) :
    (∃ x, cpOf (p.c0, p.c1, p.c2, p.c3, p.c4) = some (x.c0, x.c1, x.c2, x.c3, x.c4, x.c5, 0, 0, 0, 0, 0, [], 0) ∧ VC x ∧ Bys x.c5 ∧ p = treeC x) ∨ (cpOf (p.c0, p.c1, p.c2, p.c3, p.c4) = some (rejT p) ∧ ∀ x, VC x → Bys x.c5 → p ≠ treeC x) := by
  obtain ⟨g, hs, hc⟩ := h
  have key : (∃ x, cpOf (p.c0, p.c1, p.c2, p.c3, p.c4) = some (x.c0, x.c1, x.c2, x.c3, x.c4, x.c5, 0, 0, 0, 0, 0, [], 0) ∧ VC x ∧ Bys x.c5 ∧ p = treeC x) ∨ cpOf (p.c0, p.c1, p.c2, p.c3, p.c4) = some (rejT p) := by
    have L4 := Of_L4x g
    have no : knownB p = false → cpOf_L1 (false, p.c0, p.c1, p.c2, p.c3, p.c4) = some (rejT p) := fun hk => by
      rw [cpOf_L1, if_neg (by simp), cpOf_L2, if_neg (by simp)]
      rw [hk] at L4
      exact L4
    rw [cpOf]
    by_cases c2 : p.c2 = true
    case neg => rw [if_neg c2]; exact .inr (no (by unfold knownB; simp [c2]))
    rw [if_pos c2]
    by_cases c0 : p.c0 = 2
    case neg => rw [if_neg c0]; exact .inr (no (by unfold knownB; simp [c0]))
    rw [if_pos c0]
    by_cases c1 : 1 ≤ p.c1
    case neg => rw [if_neg c1]; exact .inr (no (by unfold knownB; simp [c1]))
    rw [if_pos c1]
    by_cases c5 : p.c1 ≤ 5
    case neg => rw [decide_eq_false c5]; exact .inr (no (by unfold knownB; simp [c5]))
    have hk : knownB p = true := by unfold knownB; simp [c2, c0, c1, c5]
    rw [hk] at L4
    rw [decide_eq_true c5, cpOf_L1, if_pos rfl]
    simp only [g.check (by omega) hs, Option.bind_eq_bind, Option.bind_some, decide_true]
    obtain ⟨x, ok, e, hok⟩ := fields_spec g hs hc ⟨c1, c5⟩
    rw [cpOf_L2, if_pos rfl]
    simp only [e, Option.bind_eq_bind, Option.bind_some, cpCheck_eq]
    cases ok with
    | false =>
      rw [if_neg (by simp), cpOf_L3, if_neg (by simp)]
      exact .inr L4
    | true =>
      rw [if_pos rfl, cpOf_L3]
      by_cases hv : chkV x = 0
      · rw [decide_eq_true hv, if_pos rfl]
        obtain ⟨h1, h2, h3⟩ := hok rfl
        refine .inl ⟨x, rfl, (chk0 x).1 hv, h3, ?_⟩
        have := S36.eta p
        rw [c0, c2, g.2.2.2.1 c2, h2, ← h1] at this
        exact this
      · rw [decide_eq_false hv, if_neg (by simp)]
        exact .inr L4
  rcases key with h | h
  · exact .inl h
  · refine .inr ⟨h, fun x hV hb e => ?_⟩
    have e1 := cpOf_hit hV hb
    rw [e] at h
    have h' : cpOf (2, x.c0, true, [], partsC x) = some (rejT (treeC x)) := h
    rw [e1] at h'
    have h2 := congrArg (fun z : Option OfR => z.map errOf) h'
    unfold rejT at h2
    simp only [Option.map_some, errOf] at h2
    split at h2 <;> simp at h2
theorem kinds_eq (p : S36) : kindsC (p.c0, p.c1, p.c2, p.c3, p.c4) = some (knownB p) := by
  rw [kindsC]
  unfold knownB
  cases p.c2 with
  | false => simp [kindsC_L1]
  | true =>
    by_cases c0 : p.c0 = 2
    · by_cases c1 : 1 ≤ p.c1
      · simp [c0, c1, kindsC_L1]
      · simp [c0, c1, kindsC_L1]
    · simp [c0, kindsC_L1]
theorem number_some {c0 c1 : Int} {c2 : Bool} {c3 : List Int} {c4 : List S36} (hb : Bys c3) : ∃ n, lawNumber (c0, c1, c2, c3, c4) = some n := by
  obtain ⟨v, e, h⟩ := toInt_some c3 hb
  have L1 : ∀ b, ∃ n, lawNumber_L1 (v, b) = some n := fun b => by
    rw [lawNumber_L1]
    cases b with
    | true => exact ⟨_, by rw [if_pos rfl]⟩
    | false => exact ⟨_, by rw [if_neg (by simp)]⟩
  rw [lawNumber]
  simp only [h, Option.bind_eq_bind, Option.bind_some]
  split
  · exact L1 _
  · split
    · exact L1 _
    · exact L1 _
theorem OkT.part {p q : S36} (h : OkT p) (hq : q ∈ p.c4) : Bys q.c3 := (h.1.2.2.2.2.2.2 q hq).2.2.2.2.2.1
theorem OkT.s16 {p : S36} (h : OkT p) : Gd 16 p ∧ szG 16 p ≤ 1024 := ⟨h.1.succ, by rw [szG_succ h.1]; exact h.2.1⟩
theorem is_end {p : S36} (h : OkT p) (x : S70) (hb : Bys x.c5) {L : Bool → Option Bool} (hL : ∀ b, L b = some b) :
    ∃ b, (cpCheck (x.c0, x.c1, x.c2, x.c3, x.c4, x.c5) >>= fun y => if y = 0 then lawTree (x.c0, x.c1, x.c2, x.c3, x.c4, x.c5) >>= fun y16 => sameT (y16.1, y16.2.1, y16.2.2.1, y16.2.2.2.1, y16.2.2.2.2, p.c0, p.c1, p.c2, p.c3, p.c4) >>= fun y17 => L y17 else L false) = some b ∧ (b = true → ∃ x, VC x ∧ Bys x.c5 ∧ p = treeC x) := by
  simp only [cpCheck_eq, Option.bind_eq_bind, Option.bind_some]
  by_cases hv : chkV x = 0
  · have hV := (chk0 x).1 hv
    rw [if_pos hv]
    simp only [lawTree_eq hV, Option.bind_some]
    have g := (treeC_gd hV hb).le (m := 16) (by omega)
    have gs : szG 16 (treeC x) ≤ 1024 := by
      rw [szG_le (treeC_gd hV hb) (by omega)]
      have := treeC_sz x
      omega
    have st : sameT (2, x.c0, true, [], partsC x, p.c0, p.c1, p.c2, p.c3, p.c4) = some (eqB 16 (treeC x) p) := sameT_val g h.s16.1 gs h.s16.2
    simp only [st, Option.bind_some, hL]
    exact ⟨_, rfl, fun e => ⟨x, hV, hb, (eqB_eq 16 _ _ g h.s16.1 e).symm⟩⟩
  · rw [if_neg hv, hL]
    exact ⟨false, rfl, fun e => by simp at e⟩
theorem is_L4 {p : S36} (h : OkT p) (a : Nat) (k i lk : Int) (ha : a < p.c4.length) (hl : p.c4.length ≤ 4) : ∃ b, isC_L4 ((a : Int), p.c0, p.c1, p.c2, p.c3, p.c4, k, i, lk) = some b ∧ (b = true → ∃ x, VC x ∧ Bys x.c5 ∧ p = treeC x) := by
  rw [isC_L4]
  simp only
  have w : IntKind.i64.wrap ((a : Int) + 1) = ((a + 1 : Nat) : Int) := by rw [wrap64 (by omega) (by omega)]; omega
  rw [w]
  by_cases c : (p.c4.length : Int) ≤ ((a + 1 : Nat) : Int)
  · rw [if_pos c]; exact ⟨false, rfl, fun e => by simp at e⟩
  rw [if_neg c]
  obtain ⟨y, hy⟩ : ∃ y, p.c4[a]? = some y := ⟨_, List.getElem?_eq_getElem ha⟩
  obtain ⟨z, hz⟩ : ∃ z, p.c4[a + 1]? = some z := ⟨_, List.getElem?_eq_getElem (by omega)⟩
  have by_ := h.part (List.mem_of_getElem? hy)
  have bz := h.part (List.mem_of_getElem? hz)
  obtain ⟨n, hn⟩ := number_some (c0 := y.c0) (c1 := y.c1) (c2 := y.c2) (c4 := y.c4) by_
  rw [at'_get hy, at'_get hz]
  simp only [Option.bind_eq_bind, Option.bind_some, hn]
  exact is_end h ⟨k, i, lk, n, 0, z.c3⟩ bz (fun b => by rw [isC_L5])
theorem is_L2 {p : S36} (h : OkT p) (k i : Int) (h2 : 2 ≤ p.c4.length) (hl : p.c4.length ≤ 4) : ∃ b, isC_L2 (p.c0, p.c1, p.c2, p.c3, p.c4, k, i) = some b ∧ (b = true → ∃ x, VC x ∧ Bys x.c5 ∧ p = treeC x) := by
  obtain ⟨y, hy⟩ : ∃ y, p.c4[1]? = some y := ⟨_, List.getElem?_eq_getElem (by omega)⟩
  have by_ := h.part (List.mem_of_getElem? hy)
  obtain ⟨n, hn⟩ := number_some (c0 := y.c0) (c1 := y.c1) (c2 := y.c2) (c4 := y.c4) by_
  have h1 : at' p.c4 1 = some y := at'_get (i := 1) hy
  rw [isC_L2]
  simp only
  by_cases k5 : k = 5
  · rw [if_pos k5, h1]
    simp only [Option.bind_eq_bind, Option.bind_some, hn]
    exact is_end h ⟨k, i, 0, 0, IntKind.u8.wrap (minI (maxI n 0) 9), []⟩ (fun b hb => by simp at hb) (fun b => by rw [isC_L3])
  · rw [if_neg k5]
    by_cases k1 : k = 1
    · rw [if_pos k1]
      by_cases c4 : (p.c4.length : Int) = 4
      · rw [if_pos c4, h1]
        simp only [Option.bind_eq_bind, Option.bind_some, hn]
        exact is_L4 h 2 k i n (by omega) hl
      · rw [if_neg c4]
        exact is_L4 h 1 k i (-1) (by omega) hl
    · rw [if_neg k1]
      exact is_L4 h 1 k i 0 (by omega) hl
theorem is_spec {p : S36} (h : OkT p) : ∃ b, isC (p.c0, p.c1, p.c2, p.c3, p.c4) = some b ∧ (b = true → ∃ x, VC x ∧ Bys x.c5 ∧ p = treeC x) := by
  have no : isC_L1 (true, p.c0, p.c1, p.c2, p.c3, p.c4) = some false := by rw [isC_L1, if_pos rfl]
  rw [isC]
  simp only [kinds_eq, Option.bind_eq_bind, Option.bind_some]
  cases knownB p with
  | false => rw [if_pos (by simp), no]; exact ⟨false, rfl, fun e => by simp at e⟩
  | true =>
    rw [if_neg (by simp)]
    by_cases c2 : (p.c4.length : Int) < 2
    · rw [if_pos c2, no]; exact ⟨false, rfl, fun e => by simp at e⟩
    rw [if_neg c2]
    by_cases c4 : 4 < (p.c4.length : Int)
    · rw [decide_eq_true c4, no]; exact ⟨false, rfl, fun e => by simp at e⟩
    rw [decide_eq_false c4, isC_L1, if_neg (by simp)]
    obtain ⟨y, hy⟩ : ∃ y, p.c4[0]? = some y := ⟨_, List.getElem?_eq_getElem (by omega)⟩
    have by_ := h.part (List.mem_of_getElem? hy)
    obtain ⟨n, hn⟩ := number_some (c0 := y.c0) (c1 := y.c1) (c2 := y.c2) (c4 := y.c4) by_
    have h0 : at' p.c4 0 = some y := at'_get (i := 0) hy
    simp only [h0, Option.bind_eq_bind, Option.bind_some, hn]
    split
    · exact is_L2 h _ _ (by omega) (by omega)
    · exact is_L2 h _ _ (by omega) (by omega)
end Vf
set_option linter.unusedVariables false
set_option linter.unusedSimpArgs false
namespace Vf
open Go Go.Vx
theorem cpTree_eq {x : S70} (h : VC x) : cpTree (x.c0, x.c1, x.c2, x.c3, x.c4, x.c5) = some (2, x.c0, true, [], partsC x, 0) := by
  rw [cpTree]
  simp only [cpCheck_eq, (chk0 x).2 h, cpTreeI_eq h, Option.bind_eq_bind, Option.bind_some]
  rw [if_neg (by simp)]
theorem headN_ne {y : S36} {l : List S36} (h : ¬ (y.c0 = 0 ∧ y.c1 = 2 ∧ y.c2 = false)) : headN (y :: l) = -1 := by unfold headN; simp only; rw [if_neg h]
theorem headN_len {y : S36} {l : List S36} (h : y.c3.length ≠ 1) : headN (y :: l) = -1 := by
  unfold headN
  simp only
  split
  · split
    · rename_i b hb; rw [hb] at h; exact absurd rfl h
    · rfl
  · rfl
theorem headN_b {y : S36} {l : List S36} {b : Int} (h0 : y.c0 = 0) (h1 : y.c1 = 2) (h2 : y.c2 = false) (h : y.c3 = [b]) : headN (y :: l) = if b < 128 then b else -1 := by
  unfold headN
  simp only
  rw [if_pos ⟨h0, h1, h2⟩, h]
theorem law20 {p : S36} (h : OkT p) (r0 r1 r2 r3 r4 : Int) (r5 : List Int) (z : Int) : law_L20 (p.c0, p.c1, p.c2, p.c3, p.c4, r0, r1, r2, r3, r4, r5, z) = law_L22 (p.c0, p.c1, p.c2, p.c3, p.c4, r0, r1, r2, r3, r4, r5, headN p.c4, z) := by
  have hbys := fun q hq => h.part (q := q) hq
  generalize p.c4 = l at hbys ⊢
  have no : law_L21 (false, p.c0, p.c1, p.c2, p.c3, l, r0, r1, r2, r3, r4, r5, z) = law_L22 (p.c0, p.c1, p.c2, p.c3, l, r0, r1, r2, r3, r4, r5, -1, z) := by rw [law_L21, if_neg (by simp)]
  rw [law_L20]
  cases l with
  | nil => rw [if_neg (by simp), no]; rfl
  | cons y l =>
    rw [if_pos (by simp)]
    simp only [at0, Option.bind_eq_bind, Option.bind_some, no]
    by_cases c0 : y.c0 = 0
    · rw [if_pos c0]
      by_cases c1 : y.c1 = 2
      · rw [if_pos c1]
        by_cases c2 : y.c2 = false
        · rw [if_pos (by simp [c2])]
          by_cases hl : y.c3.length = 1
          · obtain ⟨b, hc3⟩ := List.length_eq_one_iff.1 hl
            have hb0 := hbys y (by simp) b (by rw [hc3]; simp)
            rw [if_pos (by omega), hc3, at0, headN_b c0 c1 c2 hc3]
            simp only [Option.bind_some]
            by_cases c : b < 128
            · rw [decide_eq_true c, law_L21, if_pos rfl]
              simp only [at0, Option.bind_eq_bind, Option.bind_some, hc3]
              rw [wrap64 (by omega) (by omega), if_pos c]
            · rw [decide_eq_false c, no, if_neg c]
          · rw [if_neg (by omega), headN_len hl]
        · rw [if_neg (by simp [c2]), headN_ne (by simp [c2])]
      · rw [if_neg c1, headN_ne (by simp [c1])]
    · rw [if_neg c0, headN_ne (by simp [c0])]
theorem headN_bound {p : S36} (h : OkT p) : -1 ≤ headN p.c4 ∧ headN p.c4 ≤ 127 := by
  have hbys := fun q hq => h.part (q := q) hq
  generalize p.c4 = l at hbys ⊢
  cases l with
  | nil => exact ⟨by decide, by decide⟩
  | cons y l =>
    unfold headN
    simp only
    split
    · split
      · rename_i b hb
        have := (hbys y (by simp)) b (by rw [hb]; simp)
        split <;> omega
      · omega
    · omega
theorem law15 {p : S36} (h : OkT p) : law_L15 (p.c0, p.c1, p.c2, p.c3, p.c4) = some true := by
  rw [law_L15]
  simp only
  rcases Of_full h with ⟨x, e, hV, hb, ep⟩ | ⟨e, hno⟩
  · simp only [e, Option.bind_eq_bind, Option.bind_some, if_true, cpTree_eq hV, zeroC_0, law_L16]
    have st := sameT_val h.s16.1 h.s16.1 h.s16.2 h.s16.2
    rw [eqB_self 16 _ h.s16.1] at st
    have st' : sameT (2, x.c0, true, [], partsC x, p.c0, p.c1, p.c2, p.c3, p.c4) = some true := by
      conv at st => lhs; arg 1; rw [show (p.c0, p.c1, p.c2, p.c3, p.c4, p.c0, p.c1, p.c2, p.c3, p.c4) = ((treeC x).c0, (treeC x).c1, (treeC x).c2, (treeC x).c3, (treeC x).c4, p.c0, p.c1, p.c2, p.c3, p.c4) by rw [← ep]]
      exact st
    simp only [st', Option.bind_some, if_true]
  · have hB := headN_bound h
    simp only [e, Option.bind_eq_bind, Option.bind_some]
    unfold rejT
    by_cases hk : knownB p = true ∧ p.c1 = 5
    · rw [if_pos hk]
      simp only
      rw [if_neg (by decide), if_neg (by decide), zeroC_0]
      simp only [Option.bind_some]
      rw [law_L17, if_neg (by simp)]
      simp only [kinds_eq, Option.bind_eq_bind, Option.bind_some]
      rw [if_pos hk.1, decide_eq_true hk.2, law_L18, if_pos rfl]
      simp only [zeroC_0, Option.bind_eq_bind, Option.bind_some, if_true, law_L19]
    · rw [if_neg hk]
      simp only
      rw [if_neg (by decide), if_neg (by decide), zeroC_0]
      simp only [Option.bind_some]
      rw [law_L17, if_neg (by simp)]
      simp only [kinds_eq, Option.bind_eq_bind, Option.bind_some]
      obtain ⟨bi, hi, hi2⟩ := is_spec h
      have hbi : bi = false := by
        cases bi with
        | false => rfl
        | true =>
          obtain ⟨x, q1, q2, q3⟩ := hi2 rfl
          exact absurd q3 (hno x q1 q2)
      subst hbi
      have L22 : ∀ z, (z = 1 ∨ z = 2) → law_L22 (p.c0, p.c1, p.c2, p.c3, p.c4, 5, headN p.c4, 0, 0, z, [], headN p.c4, z) = some true := by
        intro z hz
        have e1 : sameC (5, headN p.c4, 0, 0, z, [], 5, headN p.c4, 0, 0, z, []) = some true := sameC_self ⟨5, headN p.c4, 0, 0, z, []⟩
        have e2 : cpCheck (5, headN p.c4, 0, 0, z, []) = some 0 := by
          have := cpCheck_eq ⟨5, headN p.c4, 0, 0, z, []⟩
          rw [(chk0 _).2 ⟨by simp, .inr ⟨rfl, hB.1, hB.2, rfl, rfl, rfl, by show 1 ≤ z; omega, by show z ≤ 7; omega⟩⟩] at this
          exact this
        rw [law_L22]
        simp only [e1, e2, hi, Option.bind_eq_bind, Option.bind_some, if_true, law_L23, Bool.not_false]
      have L18 : law_L18 (false, p.c0, p.c1, p.c2, p.c3, p.c4, 5, headN p.c4, 0, 0, (if knownB p = true then 2 else 1), []) = some true := by
        rw [law_L18, if_neg (by simp)]
        simp only [kinds_eq, Option.bind_eq_bind, Option.bind_some]
        cases hq : knownB p with
        | true =>
          rw [if_neg (by simp), law20 h]
          exact L22 2 (.inr rfl)
        | false =>
          rw [if_pos (by simp), law20 h]
          exact L22 1 (.inl rfl)
      cases hq : knownB p with
      | true =>
        rw [if_pos rfl]
        rw [hq] at L18
        rw [decide_eq_false (fun c => hk ⟨hq, c⟩)]
        exact L18
      | false =>
        rw [if_neg (by simp)]
        rw [hq] at L18
        exact L18
end Vf
set_option linter.unusedVariables false
set_option linter.unusedSimpArgs false
namespace Vf
open Go Go.Vx
def GP (q : S36) : Prop := Gd 14 q ∧ szG 14 q ≤ 64 ∧ q.c3.length ≤ 65536
theorem sum_le5 {α : Type} {F : α → Nat} {B : Nat} : ∀ {l : List α}, (∀ x, x ∈ l → F x ≤ B) → (l.map F).sum ≤ B * l.length
  | [], _ => by simp
  | x :: l, h => by
    have := sum_le5 (l := l) (fun y hy => h y (by simp [hy]))
    have h1 := h x (by simp)
    simp only [List.map_cons, List.sum_cons, List.length_cons, Nat.mul_add]
    omega
theorem ok_mk {tag : Int} (h0 : 0 ≤ tag) (h1 : tag < 2097152) (l : List S36) (hl : l.length ≤ 5) (h : ∀ q, q ∈ l → GP q) : OkT ⟨2, tag, true, [], l⟩ := by
  refine ⟨⟨⟨by show (0 : Int) ≤ 2; omega, by show (2 : Int) < 4; omega⟩, ⟨h0, h1⟩, fun e => by simp at e, fun _ => rfl, fun e => by simp at e, fun b hb => by simp at hb, fun q hq => (h q hq).1⟩, ?_, fun q hq => (h q hq).2.2⟩
  rw [szG]
  have := sum_le5 (F := szG 14) (B := 64) (l := l) (fun x hx => (h x hx).2.1)
  have h5 : 64 * l.length ≤ 320 := by omega
  show 1 + (l.map (szG 14)).sum ≤ 1024
  omega
theorem GP.lit (v : List Int) (hb : Bys v) (hl : v.length ≤ 65536) : GP ⟨0, 4, false, v, []⟩ := by
  refine ⟨⟨⟨by show (0 : Int) ≤ 0; omega, by show (0 : Int) < 4; omega⟩, ⟨by show (0 : Int) ≤ 4; omega, by show (4 : Int) < _; omega⟩, fun e => by simp at e, fun e => by simp at e, fun _ => rfl, hb, fun p hp => by simp at hp⟩, ?_, hl⟩
  rw [szG]; simp
theorem law10 {t0 t1 : Int} {t2 : Bool} {t3 : List Int} {t4 : List S36} {a0 a1 : Int} {a2 : Bool} {a3 : List Int} {a4 : List S36} {tag : Int} (g0 : 0 ≤ tag) (g1 : tag < 2097152) (ha : GP ⟨a0, a1, a2, a3, a4⟩) : law_L10 (t0, t1, t2, t3, t4, tag, a0, a1, a2, a3, a4) = some true := by
  rw [law_L10]
  have := law15 (p := ⟨2, tag, true, [], [⟨a0, a1, a2, a3, a4⟩]⟩) (ok_mk g0 g1 _ (by simp) fun q hq => by
      simp only [List.mem_cons, List.not_mem_nil, or_false] at hq
      rcases hq with rfl
      · exact ha)
  exact this
theorem law11 {t0 t1 : Int} {t2 : Bool} {t3 : List Int} {t4 : List S36} {a0 a1 : Int} {a2 : Bool} {a3 : List Int} {a4 : List S36} {b0 b1 : Int} {b2 : Bool} {b3 : List Int} {b4 : List S36} {tag : Int} (g0 : 0 ≤ tag) (g1 : tag < 2097152) (ha : GP ⟨a0, a1, a2, a3, a4⟩) (hb : GP ⟨b0, b1, b2, b3, b4⟩) : law_L11 (t0, t1, t2, t3, t4, tag, a0, a1, a2, a3, a4, b0, b1, b2, b3, b4) = some true := by
  rw [law_L11]
  have := law15 (p := ⟨2, tag, true, [], [⟨a0, a1, a2, a3, a4⟩, ⟨b0, b1, b2, b3, b4⟩]⟩) (ok_mk g0 g1 _ (by simp) fun q hq => by
      simp only [List.mem_cons, List.not_mem_nil, or_false] at hq
      rcases hq with rfl | rfl
      · exact ha
      · exact hb)
  exact this
theorem law12 {t0 t1 : Int} {t2 : Bool} {t3 : List Int} {t4 : List S36} {a0 a1 : Int} {a2 : Bool} {a3 : List Int} {a4 : List S36} {b0 b1 : Int} {b2 : Bool} {b3 : List Int} {b4 : List S36} {c0 c1 : Int} {c2 : Bool} {c3 : List Int} {c4 : List S36} {tag : Int} (g0 : 0 ≤ tag) (g1 : tag < 2097152) (ha : GP ⟨a0, a1, a2, a3, a4⟩) (hb : GP ⟨b0, b1, b2, b3, b4⟩) (hc : GP ⟨c0, c1, c2, c3, c4⟩) : law_L12 (t0, t1, t2, t3, t4, tag, a0, a1, a2, a3, a4, b0, b1, b2, b3, b4, c0, c1, c2, c3, c4) = some true := by
  rw [law_L12]
  have := law15 (p := ⟨2, tag, true, [], [⟨a0, a1, a2, a3, a4⟩, ⟨b0, b1, b2, b3, b4⟩, ⟨c0, c1, c2, c3, c4⟩]⟩) (ok_mk g0 g1 _ (by simp) fun q hq => by
      simp only [List.mem_cons, List.not_mem_nil, or_false] at hq
      rcases hq with rfl | rfl | rfl
      · exact ha
      · exact hb
      · exact hc)
  exact this
theorem law13 {t0 t1 : Int} {t2 : Bool} {t3 : List Int} {t4 : List S36} {a0 a1 : Int} {a2 : Bool} {a3 : List Int} {a4 : List S36} {b0 b1 : Int} {b2 : Bool} {b3 : List Int} {b4 : List S36} {c0 c1 : Int} {c2 : Bool} {c3 : List Int} {c4 : List S36} {d0 d1 : Int} {d2 : Bool} {d3 : List Int} {d4 : List S36} {tag : Int} (g0 : 0 ≤ tag) (g1 : tag < 2097152) (ha : GP ⟨a0, a1, a2, a3, a4⟩) (hb : GP ⟨b0, b1, b2, b3, b4⟩) (hc : GP ⟨c0, c1, c2, c3, c4⟩) (hd : GP ⟨d0, d1, d2, d3, d4⟩) : law_L13 (t0, t1, t2, t3, t4, tag, a0, a1, a2, a3, a4, b0, b1, b2, b3, b4, c0, c1, c2, c3, c4, d0, d1, d2, d3, d4) = some true := by
  rw [law_L13]
  have := law15 (p := ⟨2, tag, true, [], [⟨a0, a1, a2, a3, a4⟩, ⟨b0, b1, b2, b3, b4⟩, ⟨c0, c1, c2, c3, c4⟩, ⟨d0, d1, d2, d3, d4⟩]⟩) (ok_mk g0 g1 _ (by simp) fun q hq => by
      simp only [List.mem_cons, List.not_mem_nil, or_false] at hq
      rcases hq with rfl | rfl | rfl | rfl
      · exact ha
      · exact hb
      · exact hc
      · exact hd)
  exact this
theorem law14 {t0 t1 : Int} {t2 : Bool} {t3 : List Int} {t4 : List S36} {a0 a1 : Int} {a2 : Bool} {a3 : List Int} {a4 : List S36} {b0 b1 : Int} {b2 : Bool} {b3 : List Int} {b4 : List S36} {c0 c1 : Int} {c2 : Bool} {c3 : List Int} {c4 : List S36} {v : List Int} {d0 d1 : Int} {d2 : Bool} {d3 : List Int} {d4 : List S36} {tag : Int} (g0 : 0 ≤ tag) (g1 : tag < 2097152) (ha : GP ⟨a0, a1, a2, a3, a4⟩) (hb : GP ⟨b0, b1, b2, b3, b4⟩) (hc : GP ⟨c0, c1, c2, c3, c4⟩) (hv : Bys v) (hv2 : v.length ≤ 65536) (hd : GP ⟨d0, d1, d2, d3, d4⟩) : law_L14 (t0, t1, t2, t3, t4, tag, a0, a1, a2, a3, a4, b0, b1, b2, b3, b4, c0, c1, c2, c3, c4, v, d0, d1, d2, d3, d4) = some true := by
  rw [law_L14]
  have := law15 (p := ⟨2, tag, true, [], [⟨a0, a1, a2, a3, a4⟩, ⟨b0, b1, b2, b3, b4⟩, ⟨c0, c1, c2, c3, c4⟩, ⟨0, 4, false, v, []⟩, ⟨d0, d1, d2, d3, d4⟩]⟩) (ok_mk g0 g1 _ (by simp) fun q hq => by
      simp only [List.mem_cons, List.not_mem_nil, or_false] at hq
      rcases hq with rfl | rfl | rfl | rfl | rfl
      · exact ha
      · exact hb
      · exact hc
      · exact GP.lit v hv hv2
      · exact hd)
  exact this
theorem w9 (w : Int) (h : 0 ≤ w) : 0 ≤ IntKind.u32.wrap (remI .u8 w 9) ∧ IntKind.u32.wrap (remI .u8 w 9) < 2097152 := by
  have a0 := Int.tmod_nonneg 9 h
  have a1 := Int.tmod_lt_of_pos w (b := 9) (by omega)
  have e : remI .u8 w 9 = w.tmod 9 := rfl
  rw [e, wrapU32 (by omega) (by omega)]
  omega
theorem remS (w n : Int) (h : 0 ≤ w) (h2 : w < 9223372036854775808) (hn : 0 < n) : ∃ y, rem' .i64 (IntKind.i64.wrap w) n = some y ∧ 0 ≤ y ∧ y < n := by
  refine ⟨w.tmod n, ?_, Int.tmod_nonneg n h, Int.tmod_lt_of_pos w hn⟩
  unfold rem'
  rw [if_pos (by omega), wrap64 (by omega) h2]
  rfl
theorem law7 {z : Bool} {w0 w1 : Int} {t0 t1 : Int} {t2 : Bool} {t3 : List Int} {t4 : List S36} {a0 a1 : Int} {a2 : Bool} {a3 : List Int} {a4 : List S36} {b0 b1 : Int} {b2 : Bool} {b3 : List Int} {b4 : List S36} {tag : Int} (hw : 0 ≤ w1) (g0 : 0 ≤ tag) (g1 : tag < 2097152) (ha : GP ⟨a0, a1, a2, a3, a4⟩) (hb : GP ⟨b0, b1, b2, b3, b4⟩) : law_L7 (z, w0, w1, t0, t1, t2, t3, t4, tag, a0, a1, a2, a3, a4, b0, b1, b2, b3, b4) = some true := by
  rw [law_L7]
  have w9 := w9 w1 hw
  cases z with
  | true => rw [if_pos rfl]; exact law11 w9.1 w9.2 ha hb
  | false => rw [if_neg (by simp)]; exact law11 g0 g1 ha hb
theorem law8 {z : Bool} {w0 w1 : Int} {t0 t1 : Int} {t2 : Bool} {t3 : List Int} {t4 : List S36} {a0 a1 : Int} {a2 : Bool} {a3 : List Int} {a4 : List S36} {b0 b1 : Int} {b2 : Bool} {b3 : List Int} {b4 : List S36} {c0 c1 : Int} {c2 : Bool} {c3 : List Int} {c4 : List S36} {tag : Int} (hw : 0 ≤ w1) (g0 : 0 ≤ tag) (g1 : tag < 2097152) (ha : GP ⟨a0, a1, a2, a3, a4⟩) (hb : GP ⟨b0, b1, b2, b3, b4⟩) (hc : GP ⟨c0, c1, c2, c3, c4⟩) : law_L8 (z, w0, w1, t0, t1, t2, t3, t4, tag, a0, a1, a2, a3, a4, b0, b1, b2, b3, b4, c0, c1, c2, c3, c4) = some true := by
  rw [law_L8]
  have w9 := w9 w1 hw
  cases z with
  | true => rw [if_pos rfl]; exact law12 w9.1 w9.2 ha hb hc
  | false => rw [if_neg (by simp)]; exact law12 g0 g1 ha hb hc
theorem law9 {z : Bool} {w0 w1 : Int} {t0 t1 : Int} {t2 : Bool} {t3 : List Int} {t4 : List S36} {a0 a1 : Int} {a2 : Bool} {a3 : List Int} {a4 : List S36} {b0 b1 : Int} {b2 : Bool} {b3 : List Int} {b4 : List S36} {c0 c1 : Int} {c2 : Bool} {c3 : List Int} {c4 : List S36} {v : List Int} {tag : Int} (hw : 0 ≤ w1) (g0 : 0 ≤ tag) (g1 : tag < 2097152) (ha : GP ⟨a0, a1, a2, a3, a4⟩) (hb : GP ⟨b0, b1, b2, b3, b4⟩) (hc : GP ⟨c0, c1, c2, c3, c4⟩) (hv : Bys v) (hv2 : v.length ≤ 65536) : law_L9 (z, w0, w1, t0, t1, t2, t3, t4, tag, a0, a1, a2, a3, a4, b0, b1, b2, b3, b4, c0, c1, c2, c3, c4, v) = some true := by
  rw [law_L9]
  have w9 := w9 w1 hw
  cases z with
  | true => rw [if_pos rfl]; exact law13 w9.1 w9.2 ha hb hc (GP.lit v hv hv2)
  | false => rw [if_neg (by simp)]; exact law13 g0 g1 ha hb hc (GP.lit v hv hv2)
theorem law4 {w0 w1 : Int} {t0 t1 : Int} {t2 : Bool} {t3 : List Int} {t4 : List S36} {a0 a1 : Int} {a2 : Bool} {a3 : List Int} {a4 : List S36} {b0 b1 : Int} {b2 : Bool} {b3 : List Int} {b4 : List S36} {tag : Int} (hw : 0 ≤ w1) (hw2 : w1 < 9223372036854775808) (g0 : 0 ≤ tag) (g1 : tag < 2097152) (ht : GP ⟨t0, t1, t2, t3, t4⟩) (ha : GP ⟨a0, a1, a2, a3, a4⟩) (hb : GP ⟨b0, b1, b2, b3, b4⟩) : law_L4 (w0, w1, t0, t1, t2, t3, t4, tag, a0, a1, a2, a3, a4, b0, b1, b2, b3, b4) = some true := by
  obtain ⟨y, hy, y0, y1⟩ := remS w1 2 hw hw2 (by omega)
  rw [law_L4]
  simp only [hy, Option.bind_eq_bind, Option.bind_some]
  by_cases c0 : y = 0
  · subst c0
    simp only [if_true]
    repeat' split
    all_goals with_reducible first | exact law11 g0 g1 (by assumption) (by assumption) | exact law10 g0 g1 (by assumption) | exact law12 g0 g1 (by assumption) (by assumption) (by assumption) | exact law7 hw g0 g1 (by assumption) (by assumption)
  rw [if_neg c0]
  by_cases c1 : y = 1
  · subst c1
    simp only [if_true]
    repeat' split
    all_goals with_reducible first | exact law11 g0 g1 (by assumption) (by assumption) | exact law10 g0 g1 (by assumption) | exact law12 g0 g1 (by assumption) (by assumption) (by assumption) | exact law7 hw g0 g1 (by assumption) (by assumption)
  rw [if_neg c1]
  exact absurd y1 (by omega)
theorem law5 {w0 w1 : Int} {t0 t1 : Int} {t2 : Bool} {t3 : List Int} {t4 : List S36} {a0 a1 : Int} {a2 : Bool} {a3 : List Int} {a4 : List S36} {b0 b1 : Int} {b2 : Bool} {b3 : List Int} {b4 : List S36} {c0 c1 : Int} {c2 : Bool} {c3 : List Int} {c4 : List S36} {tag : Int} (hw : 0 ≤ w1) (hw2 : w1 < 9223372036854775808) (g0 : 0 ≤ tag) (g1 : tag < 2097152) (ht : GP ⟨t0, t1, t2, t3, t4⟩) (ha : GP ⟨a0, a1, a2, a3, a4⟩) (hb : GP ⟨b0, b1, b2, b3, b4⟩) (hc : GP ⟨c0, c1, c2, c3, c4⟩) : law_L5 (w0, w1, t0, t1, t2, t3, t4, tag, a0, a1, a2, a3, a4, b0, b1, b2, b3, b4, c0, c1, c2, c3, c4) = some true := by
  obtain ⟨y, hy, y0, y1⟩ := remS w1 3 hw hw2 (by omega)
  rw [law_L5]
  simp only [hy, Option.bind_eq_bind, Option.bind_some]
  by_cases c0 : y = 0
  · subst c0
    simp only [if_true]
    repeat' split
    all_goals with_reducible first | exact law12 g0 g1 (by assumption) (by assumption) (by assumption) | exact law11 g0 g1 (by assumption) (by assumption) | exact law13 g0 g1 (by assumption) (by assumption) (by assumption) (by assumption) | exact law8 hw g0 g1 (by assumption) (by assumption) (by assumption)
  rw [if_neg c0]
  by_cases c1 : y = 1
  · subst c1
    simp only [if_true]
    repeat' split
    all_goals with_reducible first | exact law12 g0 g1 (by assumption) (by assumption) (by assumption) | exact law11 g0 g1 (by assumption) (by assumption) | exact law13 g0 g1 (by assumption) (by assumption) (by assumption) (by assumption) | exact law8 hw g0 g1 (by assumption) (by assumption) (by assumption)
  rw [if_neg c1]
  by_cases c2 : y = 2
  · subst c2
    simp only [if_true]
    repeat' split
    all_goals with_reducible first | exact law12 g0 g1 (by assumption) (by assumption) (by assumption) | exact law11 g0 g1 (by assumption) (by assumption) | exact law13 g0 g1 (by assumption) (by assumption) (by assumption) (by assumption) | exact law8 hw g0 g1 (by assumption) (by assumption) (by assumption)
  rw [if_neg c2]
  exact absurd y1 (by omega)
theorem law6 {w0 w1 : Int} {t0 t1 : Int} {t2 : Bool} {t3 : List Int} {t4 : List S36} {a0 a1 : Int} {a2 : Bool} {a3 : List Int} {a4 : List S36} {b0 b1 : Int} {b2 : Bool} {b3 : List Int} {b4 : List S36} {c0 c1 : Int} {c2 : Bool} {c3 : List Int} {c4 : List S36} {v : List Int} {tag : Int} (hw : 0 ≤ w1) (hw2 : w1 < 9223372036854775808) (g0 : 0 ≤ tag) (g1 : tag < 2097152) (ht : GP ⟨t0, t1, t2, t3, t4⟩) (ha : GP ⟨a0, a1, a2, a3, a4⟩) (hb : GP ⟨b0, b1, b2, b3, b4⟩) (hc : GP ⟨c0, c1, c2, c3, c4⟩) (hv : Bys v) (hv2 : v.length ≤ 65536) : law_L6 (w0, w1, t0, t1, t2, t3, t4, tag, a0, a1, a2, a3, a4, b0, b1, b2, b3, b4, c0, c1, c2, c3, c4, v) = some true := by
  have hvl := GP.lit v hv hv2
  obtain ⟨y, hy, y0, y1⟩ := remS w1 4 hw hw2 (by omega)
  rw [law_L6]
  simp only [hy, Option.bind_eq_bind, Option.bind_some]
  by_cases c0 : y = 0
  · subst c0
    simp only [if_true]
    repeat' split
    all_goals with_reducible first | exact law13 g0 g1 (by assumption) (by assumption) (by assumption) (by assumption) | exact law12 g0 g1 (by assumption) (by assumption) (by assumption) | exact law14 g0 g1 (by assumption) (by assumption) (by assumption) hv hv2 (by assumption) | exact law9 hw g0 g1 (by assumption) (by assumption) (by assumption) hv hv2
  rw [if_neg c0]
  by_cases c1 : y = 1
  · subst c1
    simp only [if_true]
    repeat' split
    all_goals with_reducible first | exact law13 g0 g1 (by assumption) (by assumption) (by assumption) (by assumption) | exact law12 g0 g1 (by assumption) (by assumption) (by assumption) | exact law14 g0 g1 (by assumption) (by assumption) (by assumption) hv hv2 (by assumption) | exact law9 hw g0 g1 (by assumption) (by assumption) (by assumption) hv hv2
  rw [if_neg c1]
  by_cases c2 : y = 2
  · subst c2
    simp only [if_true]
    repeat' split
    all_goals with_reducible first | exact law13 g0 g1 (by assumption) (by assumption) (by assumption) (by assumption) | exact law12 g0 g1 (by assumption) (by assumption) (by assumption) | exact law14 g0 g1 (by assumption) (by assumption) (by assumption) hv hv2 (by assumption) | exact law9 hw g0 g1 (by assumption) (by assumption) (by assumption) hv hv2
  rw [if_neg c2]
  by_cases c3 : y = 3
  · subst c3
    simp only [if_true]
    repeat' split
    all_goals with_reducible first | exact law13 g0 g1 (by assumption) (by assumption) (by assumption) (by assumption) | exact law12 g0 g1 (by assumption) (by assumption) (by assumption) | exact law14 g0 g1 (by assumption) (by assumption) (by assumption) hv hv2 (by assumption) | exact law9 hw g0 g1 (by assumption) (by assumption) (by assumption) hv hv2
  rw [if_neg c3]
  exact absurd y1 (by omega)
theorem of_ten (l : List S65) (hok : ∀ y, y ∈ l → okN y) : ∃ t0 t1 t2 t3 t4, tOf l = some (t0, t1, t2, t3, t4) ∧ Gd 10 ⟨t0, t1, t2, t3, t4⟩ ∧ Sm 10 ⟨t0, t1, t2, t3, t4⟩ ∧ szG 10 ⟨t0, t1, t2, t3, t4⟩ ≤ 40 := by
  by_cases h0 : l.length = 0
  · refine ⟨3, 1, false, [], [], ?_, ?_, ?_, ?_⟩
    · rw [tOf, grown]
      simp only
      rw [if_pos (by omega), grown_L1]
      simp
    · exact ⟨by decide, by decide, by decide, fun h => by simp at h, fun _ => rfl, by simp, fun p hp => by simp at hp⟩
    · exact ⟨by simp, fun p hp => by simp at hp⟩
    · rw [szG]; simp
  · obtain ⟨t0, t1, t2, t3, t4, nx, e, hg, hs, hn⟩ := (grown_all l hok 40).1 0 1 (by omega) (by omega) (by omega) (by omega) (by omega)
    have e' : grown (l, 0, 1) = some (t0, t1, t2, t3, t4, (nx : Int)) := e
    refine ⟨t0, t1, t2, t3, t4, by rw [tOf, e']; rfl, hg.1, hg.2, ?_⟩
    have hs' : szG 10 ⟨t0, t1, t2, t3, t4⟩ + 0 ≤ nx := hs
    omega
theorem Sm.c3 {n : Nat} {x : S36} (h : Sm n x) (hn : 0 < n) : x.c3.length ≤ 300 := by
  cases n with
  | zero => omega
  | succ n => exact h.1
theorem Sm.parts {n : Nat} {x : S36} (h : Sm (n + 1) x) : ∀ q, q ∈ x.c4 → Sm n q := h.2
theorem GP.num {a b v : Int} (h0 : 0 ≤ a) (h1 : a < 4) (t0 : 0 ≤ b) (t1 : b < 2097152) (hn : ¬ (a = 0 ∧ b = 0)) (hv : 0 ≤ v) : GP (numT a b v) := by
  have g := num_gd h0 h1 t0 t1 hn hv
  refine ⟨g.le (by omega), ?_, ?_⟩
  · rw [szG_le g (by omega)]; simp [szG, numT]
  · have := intP_len v
    show (intP v).length ≤ 65536
    omega
theorem GP.nil : GP nilT := ⟨⟨⟨by show (0 : Int) ≤ 0; omega, by show (0 : Int) < 4; omega⟩, ⟨by show (0 : Int) ≤ 5; omega, by show (5 : Int) < _; omega⟩, fun e => by simp [nilT] at e, fun e => rfl, fun _ => rfl, fun b hb => by simp [nilT] at hb, fun p hp => by simp [nilT] at hp⟩, by simp [szG, nilT], by simp [nilT]⟩
end Vf
set_option linter.unusedVariables false
set_option linter.unusedSimpArgs false
namespace Vf
open Go Go.Vx
theorem law3 {l : List S65} (hl : ∀ y, y ∈ l → okN y) (z : Bool) {k : S63} (hk : okK k) {w0 w1 : Int} (hw : 0 ≤ w1) (hw2 : w1 < 9223372036854775808) : law_L3 (l, z, k.c0, k.c1, k.c2, k.c3, k.c4, k.c5, w0, w1) = some true := by
  rw [law_L3]
  cases z with
  | true => rw [if_pos rfl]
  | false =>
  rw [if_neg (by simp)]
  obtain ⟨t0, t1, t2, t3, t4, e, g, sm, sz⟩ := of_ten l hl
  have gt : GP ⟨t0, t1, t2, t3, t4⟩ := ⟨g.le (by omega), by rw [szG_le g (by omega)]; omega, by have := sm.c3 (by omega); omega⟩
  simp only [e, Option.bind_eq_bind, Option.bind_some]
  by_cases c : 0 < remI .u8 w0 5
  case neg =>
    rw [if_neg c]
    exact law15 (p := ⟨t0, t1, t2, t3, t4⟩) ⟨g.le (by omega), by rw [szG_le g (by omega)]; omega, fun q hq => by have := (sm.parts q hq).c3 (by omega); omega⟩
  rw [if_pos c]
  obtain ⟨x, ek, hV, hb⟩ := kOf_some hk
  simp only [ek, Option.bind_some]
  have hl2 : x.c5.length ≤ 65536 := by obtain ⟨q, _⟩ := hV; omega
  have gv := GP.lit x.c5 hb hl2
  obtain ⟨_, h⟩ := hV
  have kk : IntKind.u32.wrap x.c0 = x.c0 := wrapU32 (by omega) (by omega)
  have k0 : 0 ≤ x.c0 := by omega
  have k1 : x.c0 < 2097152 := by omega
  rcases h with (⟨k1', a1, a2, a3, a4, a5, a6, a7⟩ | ⟨k2, a1, a2, a3, a4, a5, a6⟩) | ⟨k5, a1, a2, a3, a4, a5, a6, a7⟩
  · have e1 := lawPart_eq (a := 0) (b := 2) (n := x.c1) (by omega) (by omega)
    have e3 := lawPart_eq (a := 0) (b := 10) (n := x.c3) (by omega) (by omega)
    have g1 : GP ⟨0, 2, false, intP x.c1, []⟩ := GP.num (a := 0) (b := 2) (v := x.c1) (by omega) (by omega) (by omega) (by omega) (by omega) (by omega)
    have g3 : GP ⟨0, 10, false, intP x.c3, []⟩ := GP.num (a := 0) (b := 10) (v := x.c3) (by omega) (by omega) (by omega) (by omega) (by omega) (by omega)
    have n1' : ¬ x.c1 = -1 := by omega
    have n5 : ¬ x.c0 = 5 := by omega
    by_cases c : 0 ≤ x.c2
    · have e2 := lawPart_eq (a := 2) (b := 0) (n := x.c2) (by omega) (by omega)
      have g2 : GP ⟨2, 0, false, intP x.c2, []⟩ := GP.num (a := 2) (b := 0) (v := x.c2) (by omega) (by omega) (by omega) (by omega) (by omega) (by omega)
      simp only [if_neg n1', if_neg n5, if_pos k1', if_pos c, e1, e2, e3, kk, Option.bind_eq_bind, Option.bind_some]
      exact law6 hw hw2 k0 k1 gt g1 g2 g3 hb hl2
    · simp only [if_neg n1', if_neg n5, if_pos k1', if_neg c, e1, e3, kk, Option.bind_eq_bind, Option.bind_some]
      exact law5 hw hw2 k0 k1 gt g1 g3 gv
  · have e1 := lawPart_eq (a := 0) (b := 2) (n := x.c1) (by omega) (by omega)
    have e3 := lawPart_eq (a := 0) (b := 10) (n := x.c3) (by omega) (by omega)
    have g1 : GP ⟨0, 2, false, intP x.c1, []⟩ := GP.num (a := 0) (b := 2) (v := x.c1) (by omega) (by omega) (by omega) (by omega) (by omega) (by omega)
    have g3 : GP ⟨0, 10, false, intP x.c3, []⟩ := GP.num (a := 0) (b := 10) (v := x.c3) (by omega) (by omega) (by omega) (by omega) (by omega) (by omega)
    have n1' : ¬ x.c1 = -1 := by omega
    have n5 : ¬ x.c0 = 5 := by omega
    have n0 : ¬ x.c0 = 1 := by omega
    simp only [if_neg n1', if_neg n5, if_neg n0, e1, e3, kk, Option.bind_eq_bind, Option.bind_some]
    exact law5 hw hw2 k0 k1 gt g1 g3 gv
  · have w4 : IntKind.i64.wrap x.c4 = x.c4 := wrap64 (by omega) (by omega)
    have e4 := lawPart_eq (a := 2) (b := 1) (n := x.c4) (by omega) (by omega)
    have g4 : GP ⟨2, 1, false, intP x.c4, []⟩ := GP.num (a := 2) (b := 1) (v := x.c4) (by omega) (by omega) (by omega) (by omega) (by omega) (by omega)
    have n0 : ¬ x.c0 = 1 := by omega
    by_cases c : x.c1 < 0
    · have c' : x.c1 = -1 := by omega
      simp only [if_pos c', if_pos k5, if_neg n0, w4, e4, kk, Option.bind_eq_bind, Option.bind_some]
      exact law4 hw hw2 k0 k1 gt GP.nil g4
    · have c' : ¬ x.c1 = -1 := by omega
      have e1 := lawPart_eq (a := 0) (b := 2) (n := x.c1) (by omega) (by omega)
      have g1 : GP ⟨0, 2, false, intP x.c1, []⟩ := GP.num (a := 0) (b := 2) (v := x.c1) (by omega) (by omega) (by omega) (by omega) (by omega) (by omega)
      simp only [if_neg c', if_pos k5, if_neg n0, w4, e1, e4, kk, Option.bind_eq_bind, Option.bind_some]
      exact law4 hw hw2 k0 k1 gt g1 g4
theorem law1 {l : List S65} (hl : ∀ y, y ∈ l → okN y) (hn : l.length < 9223372036854775808) {k : S63} (hk : okK k) {w0 w1 : Int} (hw : 0 ≤ w1) (hw2 : w1 < 9223372036854775808) : ∀ (m i : Nat) (size : Int), i + m = l.length → law_L1 (l, size, (i : Int), k.c0, k.c1, k.c2, k.c3, k.c4, k.c5, w0, w1) = some true := by
  have no : ∀ (i : Nat) (size : Int), law_L2 (l, size, (i : Int), false, k.c0, k.c1, k.c2, k.c3, k.c4, k.c5, w0, w1) = some true := by
    intro i size
    rw [law_L2, if_neg (by simp)]
    split
    · exact law3 hl _ hk hw hw2
    · split
      · exact law3 hl _ hk hw hw2
      · exact law3 hl _ hk hw hw2
  intro m
  induction m with
  | zero =>
    intro i size h
    rw [law_L1]
    simp only
    rw [if_neg (by omega)]
    exact no i size
  | succ m ih =>
    intro i size h
    obtain ⟨y, hy⟩ : ∃ p, l[i]? = some p := ⟨_, List.getElem?_eq_getElem (by omega)⟩
    rw [law_L1]
    simp only
    rw [if_pos (by omega)]
    by_cases c : (i : Int) < 50
    · rw [decide_eq_true c, law_L2, if_pos rfl]
      simp only [at'_get hy, Option.bind_eq_bind, Option.bind_some]
      rw [wrap64 (n := (i : Int) + 1) (by omega) (by omega), show ((i : Int) + 1) = ((i + 1 : Nat) : Int) by omega]
      exact ih (i + 1) _ (by omega)
    · rw [decide_eq_false c]
      exact no i size
theorem law_true (l : List S65) (k0 k1 k2 k3 k4 : Int) (k5 : List Int) (w0 w1 : Int) (hl : ∀ y, y ∈ l → okN y) (hn : l.length < 9223372036854775808) (hk : okK ⟨k0, k1, k2, k3, k4, k5⟩) (hw : 0 ≤ w1) (hw2 : w1 < 9223372036854775808) : law (l, k0, k1, k2, k3, k4, k5, w0, w1) = some true := by
  rw [law]
  exact law1 hl hn hk hw hw2 l.length 0 0 (by omega)
end Vf
