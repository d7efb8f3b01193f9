import Derived.Test.YtcokmnpgeokfpaaGreatDoorVfWc
set_option linter.unusedVariables false
set_option linter.unusedSimpArgs false
namespace Vf
open Go Go.Vx
theorem wrap64 {n : Int} (h0 : -9223372036854775808 ≤ n) (h1 : n < 9223372036854775808) : IntKind.i64.wrap n = n := by
 unfold IntKind.wrap
 simp only [IntKind.bits, IntKind.signed, Bool.true_and]
 split <;> rename_i h <;> simp at h <;> omega
theorem at'_get {α : Type} {l : List α} {i : Nat} {x : α} (h : l[i]? = some x) : at' l (i : Int) = some x := by
 unfold at'
 rw [if_pos (by omega)]
 simpa using h
theorem index1_loop {ps : List S41} {b : S41 → Bool} (hb : ∀ p, p ∈ ps → plainF (p.c0, p.c1, p.c2, p.c3, p.c4) = some (b p)) (hn : ps.length < 9223372036854775808) : ∀ (m i : Nat), i + m = ps.length →
  ∃ r : Int, indexF_L1 (ps, (ps.length : Int), (i : Int)) = some r ∧ (0 ≤ r ↔ (ps.drop i).any b = true)
 | 0, i, h => by
  refine ⟨-1, ?_, ?_⟩
  ·rw [indexF_L1]
   simp only
   rw [if_neg (by omega)]
  ·rw [List.drop_of_length_le (by omega)]
   simp
 | m + 1, i, h => by
  obtain ⟨p, hp⟩ : ∃ p, ps[i]? = some p := ⟨_, List.getElem?_eq_getElem (by omega)⟩
  have hd : ps.drop i = p :: ps.drop (i + 1) := by
   obtain ⟨hi, rfl⟩ := List.getElem?_eq_some_iff.1 hp
   exact List.drop_eq_getElem_cons hi
  rw [indexF_L1]
  simp only
  rw [if_pos (by omega), at'_get hp]
  simp only [Option.bind_eq_bind, Option.bind_some, hb p (List.mem_of_getElem? hp)]
  cases hbp : b p with
  | true => exact ⟨i, by simp, by rw [hd]; simp [hbp]⟩
  | false =>
   obtain ⟨r, h1, h2⟩ := index1_loop hb hn m (i + 1) (by omega)
   refine ⟨r, ?_, ?_⟩
   ·rw [if_neg (by simp), wrap64 (by omega) (by omega)]
    exact_mod_cast h1
   ·rw [h2, hd]; simp [hbp]
theorem contains_ok {ps : List S41} {b : S41 → Bool} (hb : ∀ p, p ∈ ps → plainF (p.c0, p.c1, p.c2, p.c3, p.c4) = some (b p)) (hn : ps.length < 9223372036854775808) : containsF ps = some (ps.any b) := by
 obtain ⟨r, h1, h2⟩ := index1_loop hb hn ps.length 0 (by omega)
 rw [containsF, indexF]
 have h1' : indexF_L1 (ps, (ps.length : Int), 0) = some r := h1
 rw [h1']
 simp only [Option.bind_eq_bind, Option.bind_some, Option.some.injEq]
 rw [List.drop_zero] at h2
 cases hq : ps.any b with
 | true => exact decide_eq_true (h2.2 hq)
 | false => exact decide_eq_false (fun h => by rw [hq] at h2; exact absurd (h2.1 h) (by simp))
def okF (c0 c1 : Int) (c2 : Bool) (lv lp : Nat) : Bool := decide (c0 ≤ 3) && decide (c1 ≤ 2097151) && !(decide (c0 = 0) && decide (c1 = 0)) && (if c2 then decide (lv = 0) else decide (lp = 0))
mutual
def plainB : S41 → Bool
 | .mk c0 c1 c2 c3 c4 => okF c0 c1 c2 c3.length c4.length && plainBL c4
def plainBL : List S41 → Bool
 | [] => true
 | p :: l => plainB p && plainBL l
end
mutual
def smallB : S41 → Prop
 | .mk _ _ _ _ c4 => c4.length < 9223372036854775808 ∧ smallBL c4
def smallBL : List S41 → Prop
 | [] => True
 | p :: l => smallB p ∧ smallBL l
end
def Gd : Nat → S41 → Prop
 | 0, _ => False
 | n + 1, x => (0 ≤ x.c0 ∧ x.c0 < 4) ∧ (0 ≤ x.c1 ∧ x.c1 < 2097152) ∧ ¬ (x.c0 = 0 ∧ x.c1 = 0) ∧ (x.c2 = true → x.c3 = []) ∧ (x.c2 = false → x.c4 = []) ∧ (∀ b, b ∈ x.c3 → 0 ≤ b ∧ b < 256) ∧ ∀ p, p ∈ x.c4 → Gd n p
def Sm : Nat → S41 → Prop
 | 0, _ => False
 | n + 1, x => x.c3.length ≤ 300 ∧ ∀ p, p ∈ x.c4 → Sm n p
def wt : Nat → S41 → Nat
 | 0, _ => 0
 | n + 1, x => 12 + x.c3.length + (x.c4.map (wt n)).sum
def szG : Nat → S41 → Nat
 | 0, _ => 0
 | n + 1, x => 1 + (x.c4.map (szG n)).sum
theorem meas_loop {d : Int} {ps : List S41} {f : S41 → Nat} (hn : ps.length < 9223372036854775808) (hd : 0 ≤ d ∧ d ≤ 16) (hf : ∀ p, p ∈ ps → ∀ c : Int, 0 ≤ c → c + f p ≤ 1024 → measure (p.c0, p.c1, p.c2, p.c3, p.c4, d + 1, c) = some (true, c + f p)) : ∀ (m i : Nat) (c : Int), i + m = ps.length → 0 ≤ c → c + ((ps.drop i).map f).sum ≤ 1024 →
  measure_L2 (d, ps, (ps.length : Int), (i : Int), c) = some (true, c + ((ps.drop i).map f).sum)
 | 0, i, c, h, h0, h1 => by
  rw [measure_L2]
  simp only
  rw [if_neg (by omega), List.drop_of_length_le (by omega)]
  simp
 | m + 1, i, c, h, h0, h1 => by
  obtain ⟨p, hp⟩ : ∃ p, ps[i]? = some p := ⟨_, List.getElem?_eq_getElem (by omega)⟩
  have hdr : ps.drop i = p :: ps.drop (i + 1) := by
   obtain ⟨hi, rfl⟩ := List.getElem?_eq_some_iff.1 hp
   exact List.drop_eq_getElem_cons hi
  rw [hdr] at h1 ⊢
  simp only [List.map_cons, List.sum_cons] at h1 ⊢
  rw [measure_L2]
  simp only
  rw [if_pos (by omega), at'_get hp]
  simp only [Option.bind_eq_bind, Option.bind_some]
  rw [wrap64 (by omega) (by omega), hf p (List.mem_of_getElem? hp) c h0 (by omega)]
  simp only [Option.bind_some]
  rw [if_neg (by simp), wrap64 (by omega) (by omega)]
  have := meas_loop hn hd hf m (i + 1) (c + f p) (by omega) (by omega) (by omega)
  rw [show ((i : Int) + 1) = ((i + 1 : Nat) : Int) by omega, this]
  congr 2
  omega
theorem sum_ge : ∀ (l : List Nat), (∀ x, x ∈ l → 1 ≤ x) → l.length ≤ l.sum
 | [], _ => by simp
 | x :: l, h => by
  have := sum_ge l (fun y hy => h y (by simp [hy]))
  have := h x (by simp)
  simp only [List.length_cons, List.sum_cons]
  omega
theorem Gd.pos {n : Nat} {x : S41} (h : Gd n x) : 1 ≤ szG n x := by
 cases n with
 | zero => exact h.elim
 | succ n => rw [szG]; omega
theorem Gd.meas : ∀ (n : Nat) (x : S41) (d c : Int), Gd n x → 0 ≤ d → d + n ≤ 17 → 0 ≤ c → c + szG n x ≤ 1024 → measure (x.c0, x.c1, x.c2, x.c3, x.c4, d, c) = some (true, c + szG n x)
 | 0, x, d, c, h, _, _, _, _ => h.elim
 | n + 1, x, d, c, h, h0, h1, h2, h3 => by
  obtain ⟨_, _, _, _, _, _, hp⟩ := h
  rw [szG] at h3 ⊢
  have hlen : x.c4.length ≤ (x.c4.map (szG n)).sum := by
   have := sum_ge (x.c4.map (szG n)) (fun y hy => by
    obtain ⟨p, hpm, rfl⟩ := List.mem_map.1 hy
    exact (hp p hpm).pos)
   simpa using this
  rw [measure]
  simp only
  rw [if_neg (by omega), measure_L1]
  simp only
  rw [wrap64 (by omega) (by omega), if_neg (by simp; omega)]
  have := meas_loop (d := d) (ps := x.c4) (f := szG n) (by omega) ⟨h0, by omega⟩ (fun p hpm c hc hs => Gd.meas n p (d + 1) c (hp p hpm) (by omega) (by omega) hc hs) x.c4.length 0 (c + 1) (by omega) (by omega) (by simp; omega)
  rw [List.drop_zero] at this
  have this' : measure_L2 (d, x.c4, (x.c4.length : Int), 0, c + 1) = _ := this
  rw [this']
  congr 2
  omega
theorem Gd.len {n : Nat} {x : S41} (h : Gd n x) : x.c4.length ≤ szG n x := by
 cases n with
 | zero => exact h.elim
 | succ n =>
  obtain ⟨_, _, _, _, _, _, hp⟩ := h
  rw [szG]
  have := sum_ge (x.c4.map (szG n)) (fun y hy => by
   obtain ⟨p, hpm, rfl⟩ := List.mem_map.1 hy
   exact (hp p hpm).pos)
  simp at this
  omega
theorem mem_le_sum : ∀ {l : List Nat} {x : Nat}, x ∈ l → x ≤ l.sum
 | [], x, h => by simp at h
 | y :: l, x, h => by
  rw [List.sum_cons]
  rcases List.mem_cons.1 h with rfl | h
  ·omega
  ·have := mem_le_sum h; omega
theorem szG_mem {n : Nat} {x p : S41} (hp : p ∈ x.c4) : szG n p ≤ szG (n + 1) x := by
 rw [szG]
 have : szG n p ≤ (x.c4.map (szG n)).sum := mem_le_sum (List.mem_map.2 ⟨p, hp, rfl⟩)
 omega
theorem Gd.plain : ∀ (n : Nat) (x : S41), Gd n x → szG n x < 9223372036854775808 → Vf.plain (x.c0, x.c1, x.c2, x.c3, x.c4) = some true
 | 0, x, h, _ => h.elim
 | n + 1, x, h, hs => by
  have hl := h.len
  have hm := fun p hp => @szG_mem n x p hp
  obtain ⟨h0, h1, h2, h3, h4, h5, hp⟩ := h
  have hb : ∀ p, p ∈ x.c4 → plainF (p.c0, p.c1, p.c2, p.c3, p.c4) = some ((fun _ => false) p) := by
   intro p hpm
   rw [plainF]
   simp only
   rw [Gd.plain n p (hp p hpm) (by have := hm p hpm; omega)]
   rfl
  have hc := contains_ok hb (by omega)
  rw [show (x.c4.any fun _ => false) = false by simp] at hc
  rw [Vf.plain]
  simp only [plain_L1, plain_L2, hc, Option.bind_eq_bind, Option.bind_some]
  rw [if_neg (by omega), if_neg (by omega)]
  cases hb2 : x.c2 with
  | true => rw [h3 hb2]; by_cases a3 : x.c0 = 0 <;> by_cases a4 : x.c1 = 0 <;> simp_all
  | false => rw [h4 hb2] at hc ⊢; by_cases a3 : x.c0 = 0 <;> by_cases a4 : x.c1 = 0 <;> simp_all
theorem Gd.check {n : Nat} {x : S41} (h : Gd n x) (hn : n ≤ 16) (hs : szG n x ≤ 1024) : Vf.check (x.c0, x.c1, x.c2, x.c3, x.c4) = some 0 := by
 rw [Vf.check]
 simp only
 rw [Gd.meas n x 1 0 h (by omega) (by omega) (by omega) (by omega)]
 simp only [Option.bind_eq_bind, Option.bind_some]
 rw [if_neg (by simp), Gd.plain n x h (by omega)]
 rfl
def eqB : Nat → S41 → S41 → Bool
 | 0, _, _ => false
 | n + 1, x, y => decide (x.c0 = y.c0) && decide (x.c1 = y.c1) && (x.c2 == y.c2) && strEq (bytesU x.c3) (bytesU y.c3) && decide (x.c4.length = y.c4.length) && (x.c4.zip y.c4).all fun p => eqB n p.1 p.2
theorem equal_loop {n : Nat} {xs ys : List S41} (hlen : xs.length = ys.length) (hn : xs.length < 9223372036854775808) (hf : ∀ x y, x ∈ xs → y ∈ ys → sameI (x.c0, x.c1, x.c2, x.c3, x.c4, y.c0, y.c1, y.c2, y.c3, y.c4) = some (eqB n x y)) : ∀ (m i : Nat), i + m = xs.length →
  equalFunc_L1 (ys, xs, (xs.length : Int), (i : Int)) = some (((xs.drop i).zip (ys.drop i)).all fun p => eqB n p.1 p.2)
 | 0, i, h => by
  rw [equalFunc_L1]
  simp only
  rw [if_neg (by omega), List.drop_of_length_le (by omega)]
  simp
 | m + 1, i, h => by
  obtain ⟨x, hx⟩ : ∃ p, xs[i]? = some p := ⟨_, List.getElem?_eq_getElem (by omega)⟩
  obtain ⟨y, hy⟩ : ∃ p, ys[i]? = some p := ⟨_, List.getElem?_eq_getElem (by omega)⟩
  have hdx : xs.drop i = x :: xs.drop (i + 1) := by
   obtain ⟨hi, rfl⟩ := List.getElem?_eq_some_iff.1 hx
   exact List.drop_eq_getElem_cons hi
  have hdy : ys.drop i = y :: ys.drop (i + 1) := by
   obtain ⟨hi, rfl⟩ := List.getElem?_eq_some_iff.1 hy
   exact List.drop_eq_getElem_cons hi
  rw [equalFunc_L1]
  simp only
  rw [if_pos (by omega), at'_get hx, at'_get hy]
  simp only [Option.bind_eq_bind, Option.bind_some]
  rw [hf x y (List.mem_of_getElem? hx) (List.mem_of_getElem? hy), hdx, hdy]
  simp only [Option.bind_some, List.zip_cons_cons, List.all_cons]
  cases he : eqB n x y with
  | false => rfl
  | true =>
   rw [if_neg (by simp), wrap64 (by omega) (by omega), show ((i : Int) + 1) = ((i + 1 : Nat) : Int) by omega, equal_loop hlen hn hf m (i + 1) (by omega)]
   simp
theorem same_val : ∀ (n : Nat) (x y : S41), Gd n x → Gd n y → szG n x < 9223372036854775808 → szG n y < 9223372036854775808 → sameI (x.c0, x.c1, x.c2, x.c3, x.c4, y.c0, y.c1, y.c2, y.c3, y.c4) = some (eqB n x y)
 | 0, x, y, h, _, _, _ => h.elim
 | n + 1, x, y, hx, hy, sx, sy => by
  have lx := hx.len
  have ly := hy.len
  have mx := fun p hp => @szG_mem n x p hp
  have my := fun p hp => @szG_mem n y p hp
  obtain ⟨_, _, _, _, _, _, px⟩ := hx
  obtain ⟨_, _, _, _, _, _, py⟩ := hy
  have he : equalFunc (x.c4, y.c4) = some (decide (x.c4.length = y.c4.length) && (x.c4.zip y.c4).all fun p => eqB n p.1 p.2) := by
   rw [equalFunc]
   simp only
   by_cases e : x.c4.length = y.c4.length
   ·rw [if_neg (by simp [e])]
    have := equal_loop (n := n) e (by omega) (fun a b ha hb => same_val n a b (px a ha) (py b hb) (by have := mx a ha; omega) (by have := my b hb; omega)) x.c4.length 0 (by omega)
    rw [List.drop_zero, List.drop_zero] at this
    have t : equalFunc_L1 (y.c4, x.c4, (x.c4.length : Int), 0) = _ := this
    rw [t]
    simp [e]
   ·rw [if_pos (by simp; omega)]
    simp [e]
  rw [sameI]
  simp only [bytesEqual, he, sameI_L1, Option.bind_eq_bind, Option.bind_some, eqB]
  by_cases a0 : x.c0 = y.c0
  ·rw [if_pos a0]
   by_cases a1 : x.c1 = y.c1
   ·rw [if_pos a1]
    cases a2 : (x.c2 == y.c2) with
    | false => simp [a0, a1]
    | true =>
     cases a3 : strEq (bytesU x.c3) (bytesU y.c3) with
     | false => simp [a0, a1]
     | true => simp [a0, a1]
   ·rw [if_neg a1]; simp [a1]
  ·rw [if_neg a0]; simp [a0]
theorem bal_loop (b : ByteArray) : ∀ (m i : Nat) (r : List UInt8), i + m = b.size → ByteArray.toList.loop b i r = r.reverse ++ b.data.toList.drop i
 | 0, i, r, h => by
  rw [ByteArray.toList.loop, if_neg (by omega), List.drop_of_length_le (by rw [Array.length_toList]; show b.size ≤ i; omega)]
  simp
 | m + 1, i, r, h => by
  have hi : i < b.data.toList.length := by rw [Array.length_toList]; show i < b.size; omega
  rw [ByteArray.toList.loop, if_pos (by omega), bal_loop b m (i + 1) _ (by omega), List.drop_eq_getElem_cons hi]
  have : b.get! i = b.data.toList[i] := by
   show b.data[i]! = _
   rw [getElem!_pos b.data i (by simpa using hi)]
   simp
  simp [this]
theorem bal (b : ByteArray) : b.toList = b.data.toList := by
 rw [ByteArray.toList, bal_loop b b.size 0 [] (by omega)]
 simp
theorem Gd.succ : ∀ {n x}, Gd n x → Gd (n + 1) x
 | 0, _, h => h.elim
 | n + 1, x, h => ⟨h.1, h.2.1, h.2.2.1, h.2.2.2.1, h.2.2.2.2.1, h.2.2.2.2.2.1, fun p hp => (h.2.2.2.2.2.2 p hp).succ⟩
theorem Gd.le {n m x} (h : Gd n x) (hm : n ≤ m) : Gd m x := by
 induction m with
 | zero => have : n = 0 := by omega
           subst this; exact h
 | succ m ih =>
  by_cases e : n = m + 1
  ·subst e; exact h
  ·exact (ih (by omega)).succ
theorem szG_succ : ∀ {n x}, Gd n x → szG (n + 1) x = szG n x
 | 0, _, h => h.elim
 | n + 1, x, h => by
  rw [szG, szG]
  congr 2
  exact List.map_congr_left (fun p hp => szG_succ (h.2.2.2.2.2.2 p hp))
theorem eqB_self : ∀ (n : Nat) (x : S41), Gd n x → eqB n x x = true
 | 0, _, h => h.elim
 | n + 1, x, h => by
  have hz : (x.c4.zip x.c4).all (fun p => eqB n p.1 p.2) = true := by
   rw [List.all_eq_true]
   intro p hp
   obtain ⟨i, hi⟩ := List.getElem?_of_mem hp
   rw [List.getElem?_zip_eq_some] at hi
   have e : p.1 = p.2 := by have := hi.1.symm.trans hi.2; simpa using this
   rw [← e]
   exact eqB_self n p.1 (h.2.2.2.2.2.2 _ (List.mem_of_getElem? hi.1))
  rw [eqB, hz]
  simp [strEq]
theorem sameT_val {x y : S41} (hx : Gd 16 x) (hy : Gd 16 y) (sx : szG 16 x ≤ 1024) (sy : szG 16 y ≤ 1024) : Vf.sameT (x.c0, x.c1, x.c2, x.c3, x.c4, y.c0, y.c1, y.c2, y.c3, y.c4) = some (eqB 16 x y) := by
 rw [Vf.sameT]
 simp only [hx.check (Nat.le_refl _) sx, hy.check (Nat.le_refl _) sy, Option.bind_eq_bind, Option.bind_some, if_true, same_val 16 x y hx hy (by omega) (by omega)]
 rfl
theorem app_ok {α : Type} {B : Nat} {l m : List α} (h : (l.length + m.length) * B ≤ 70368744177664) : app' B l m = some (l ++ m) := by
 unfold app'
 rw [if_pos (by omega)]
theorem wt_succ : ∀ {n x}, Gd n x → wt (n + 1) x = wt n x
 | 0, _, h => h.elim
 | n + 1, x, h => by
  rw [wt, wt]
  congr 2
  exact List.map_congr_left (fun p hp => wt_succ (h.2.2.2.2.2.2 p hp))
theorem Sm.succ : ∀ {n x}, Sm n x → Sm (n + 1) x
 | 0, _, h => h.elim
 | n + 1, x, h => ⟨h.1, fun p hp => (h.2 p hp).succ⟩
theorem Sm.le {n m x} (h : Sm n x) (hm : n ≤ m) : Sm m x := by
 induction m with
 | zero => have : n = 0 := by omega
           subst this; exact h
 | succ m ih =>
  by_cases e : n = m + 1
  ·subst e; exact h
  ·exact (ih (by omega)).succ
theorem sum_scale {f g : S41 → Nat} (k : Nat) : ∀ {l : List S41}, (∀ p, p ∈ l → f p ≤ k * g p) → (l.map f).sum ≤ k * (l.map g).sum
 | [], _ => by simp
 | p :: l, h => by
  have h1 := h p (by simp)
  have h2 := sum_scale k (l := l) (fun q hq => h q (by simp [hq]))
  simp only [List.map_cons, List.sum_cons, Nat.mul_add]
  omega
theorem Sm.wt : ∀ {n x}, Sm n x → Vf.wt n x ≤ 312 * szG n x
 | 0, _, h => h.elim
 | n + 1, x, h => by
  have := sum_scale (f := Vf.wt n) (g := szG n) 312 (l := x.c4) (fun p hp => (h.2 p hp).wt)
  have h1 := h.1
  rw [Vf.wt, szG, Nat.mul_add]
  omega
theorem sz_wt : ∀ (n : Nat) (x : S41), 12 * szG n x ≤ wt n x
 | 0, _ => by simp [szG, wt]
 | n + 1, x => by
  have key : ∀ l : List S41, 12 * (l.map (szG n)).sum ≤ (l.map (wt n)).sum := by
   intro l
   induction l with
   | nil => simp
   | cons p l ih =>
    have := sz_wt n p
    simp only [List.map_cons, List.sum_cons, Nat.mul_add]
    omega
  have := key x.c4
  rw [szG, wt, Nat.mul_add]
  omega
theorem wt_mem {n : Nat} {x p : S41} (hp : p ∈ x.c4) : wt n p ≤ wt (n + 1) x := by
 rw [wt]
 have : wt n p ≤ (x.c4.map (wt n)).sum := mem_le_sum (List.mem_map.2 ⟨p, hp, rfl⟩)
 omega
def Ps (β : Type) := List Int → Except Int (β × List Int)
def Ps.pure {β : Type} (x : β) : Ps β := fun r => .ok (x, r)
def Ps.fail {β : Type} (e : Int) : Ps β := fun _ => .error e
def Ps.bind {α β : Type} (g : Ps α) (h : α → Ps β) : Ps β := fun r => match g r with
 | .error e => .error e
 | .ok (x, s) => h x s
def byteP : Ps Int := fun r => match r with
 | [] => .error 4
 | b :: s => .ok (b, s)
def takeP (n : Nat) : Ps (List Int) := fun r => if r.length < n then .error 4 else .ok (r.take n, r.drop n)
def mustP (p : Bool) (e : Int) : Ps Unit := if p = true then Ps.pure () else Ps.fail e
def Good {β : Type} (g : Ps β) : Prop := ∀ r x s, g r = .ok (x, s) → ∃ k, k ≤ r.length ∧ s = r.drop k ∧ ∀ i, g (r.take i) = if i < k then .error 4 else .ok (x, (r.take i).drop k)
theorem Good.pure {β : Type} (x : β) : Good (Ps.pure x) := by
 intro r y s h
 simp only [Ps.pure, Except.ok.injEq, Prod.mk.injEq] at h
 exact ⟨0, Nat.zero_le _, by simpa using h.2.symm, fun i => by simp [Ps.pure, h.1]⟩
theorem Good.fail {β : Type} (e : Int) : Good (Ps.fail e : Ps β) := by
 intro r y s h
 simp [Ps.fail] at h
theorem Good.bind {α β : Type} {g : Ps α} {h : α → Ps β} (hg : Good g) (hh : ∀ x, Good (h x)) : Good (Ps.bind g h) := by
 intro r y s e
 unfold Ps.bind at e
 split at e
 ·simp at e
 ·rename_i x s1 e1
  obtain ⟨k1, hk1, rfl, h1⟩ := hg _ _ _ e1
  obtain ⟨k2, hk2, rfl, h2⟩ := hh x _ _ _ e
  simp only [List.length_drop] at hk2
  refine ⟨k1 + k2, by omega, by rw [List.drop_drop], fun i => ?_⟩
  unfold Ps.bind
  rw [h1 i]
  by_cases c1 : i < k1
  ·rw [if_pos c1, if_pos (by omega)]
  ·rw [if_neg c1]
   show h x ((r.take i).drop k1) = _
   have e3 : (r.take i).drop k1 = (r.drop k1).take (i - k1) := by rw [List.drop_take]
   rw [e3, h2 (i - k1)]
   by_cases c2 : i - k1 < k2
   ·rw [if_pos c2, if_pos (by omega)]
   ·rw [if_neg c2, if_neg (by omega), ← e3, List.drop_drop]
theorem Good.byte : Good byteP := by
 intro r x s h
 match r, h with
 | b :: t, h =>
  simp only [byteP, Except.ok.injEq, Prod.mk.injEq] at h
  obtain ⟨rfl, rfl⟩ := h
  refine ⟨1, by simp, rfl, fun i => ?_⟩
  cases i with
  | zero => simp [byteP]
  | succ i => simp [byteP]
theorem Good.take (n : Nat) : Good (takeP n) := by
 intro r x s h
 unfold takeP at h
 split at h
 ·simp at h
 ·rename_i hl
  simp only [Except.ok.injEq, Prod.mk.injEq] at h
  obtain ⟨rfl, rfl⟩ := h
  refine ⟨n, by omega, rfl, fun i => ?_⟩
  unfold takeP
  by_cases c : i < n
  ·rw [if_pos c, if_pos (by simp only [List.length_take]; omega)]
  ·rw [if_neg c, if_neg (by simp only [List.length_take]; omega), List.take_take, Nat.min_eq_left (by omega)]
theorem Good.must (p : Bool) (e : Int) : Good (mustP p e) := by
 unfold mustP
 split
 ·exact Good.pure _
 ·exact Good.fail _
theorem Good.ite {β : Type} {c : Prop} [Decidable c] {g h : Ps β} (hg : Good g) (hh : Good h) : Good (if c then g else h) := by
 split
 ·exact hg
 ·exact hh
def MANY : Nat := 140737488351232
def numL : Nat → Bool → Int → Ps Int
 | 0, _, _ => Ps.fail 4
 | k + 1, first, n => byteP.bind fun b => (mustP (!first || b != 128) 4).bind fun _ => (mustP (n * 128 + b % 128 ≤ 2097151) 3).bind fun _ =>
   if b < 128 then (mustP (31 ≤ n * 128 + b % 128) 4).bind fun _ => Ps.pure (n * 128 + b % 128) else numL k false (n * 128 + b % 128)
def foldN (l : List Int) : Int := l.foldl (fun n x => if n * 256 + x < 65537 then n * 256 + x else 65537) 0
def lenL (b2 : Bool) : Ps (Option Int) := byteP.bind fun b =>
 if b < 128 then Ps.pure (some b)
 else if b = 128 then (mustP b2 4).bind fun _ => Ps.pure none
 else (mustP (b != 255) 4).bind fun _ => (takeP (b - 128).toNat).bind fun l => Ps.pure (some (foldN l))
def openL (g : Int → Ps (S41 × Int)) : Nat → Int → List S41 → Ps (List S41 × Int)
 | 0, _, _ => Ps.fail 4
 | k + 1, c, acc => fun r => match r with
  | [] => .error 4
  | b :: _ => if b = 0 then (((takeP 2).bind fun l => (mustP (l.getD 1 0 == 0) 4).bind fun _ => Ps.pure (acc, c)) : Ps _) r
   else (g c).bind (fun x => openL g k x.2 (acc ++ [x.1])) r
def fullL (g : Int → Ps (S41 × Int)) : Nat → Int → List S41 → List Int → Except Int (List S41 × Int)
 | 0, _, _, _ => .error 4
 | k + 1, c, acc, r => if r = [] then .ok (acc, c) else match g c r with
  | .error e => .error e
  | .ok (x, s) => fullL g k x.2 (acc ++ [x.1]) s
def ofE {β : Type} (x : Except Int β) : Ps β := match x with
 | .error e => Ps.fail e
 | .ok y => Ps.pure y
def elemR (el : Int → Ps (S41 × Int)) (c cls tag : Int) (b2 : Bool) : Ps (S41 × Int) := (lenL b2).bind fun m => match m with
  | none => (openL el MANY (c + 1) []).bind fun p => Ps.pure (⟨cls, tag, b2, [], p.1⟩, p.2)
  | some m => (takeP m.toNat).bind fun l => if b2 = true then (ofE (fullL el MANY (c + 1) [] l)).bind fun p => Ps.pure (⟨cls, tag, b2, [], p.1⟩, p.2)
   else Ps.pure (⟨cls, tag, b2, l, []⟩, c + 1)
def elemL : Nat → Int → Ps (S41 × Int)
 | 0, _ => Ps.fail 3
 | n + 1, c => (mustP (c < 1024) 3).bind fun _ => byteP.bind fun b =>
  (if b % 32 = 31 then numL MANY true 0 else Ps.pure (b % 32)).bind fun tag =>
  (mustP (decide (0 < b / 64) || decide (0 < tag)) 4).bind fun _ => elemR (elemL n) c (b / 64) tag (decide (b / 32 % 2 = 1))
theorem Good.num : ∀ k first n, Good (numL k first n)
 | 0, _, _ => Good.fail _
 | k + 1, first, n => Good.byte.bind fun b => (Good.must _ _).bind fun _ => (Good.must _ _).bind fun _ => Good.ite ((Good.must _ _).bind fun _ => Good.pure _) (Good.num k _ _)
theorem Good.len (b2 : Bool) : Good (lenL b2) := Good.byte.bind fun b => Good.ite (Good.pure _) (Good.ite ((Good.must _ _).bind fun _ => Good.pure _) ((Good.must _ _).bind fun _ => (Good.take _).bind fun _ => Good.pure _))
theorem Good.ofE {β : Type} (x : Except Int β) : Good (ofE x) := by
 cases x with
 | error e => exact Good.fail e
 | ok y => exact Good.pure y
theorem Good.openL {g : Int → Ps (S41 × Int)} (hg : ∀ c, Good (g c)) (hn : ∀ c, g c [] = .error 4 ∨ ∃ e, ∀ r, g c r = .error e) : ∀ k c acc, Good (openL g k c acc)
 | 0, _, _ => Good.fail _
 | k + 1, c, acc => by
  intro r x s h
  match r, h with
  | b :: t, h =>
   by_cases hb : b = 0
   ·have hq : Good (((takeP 2).bind fun l => (mustP (l.getD 1 0 == 0) 4).bind fun _ => Ps.pure (acc, c)) : Ps (List S41 × Int)) := (Good.take 2).bind fun l => (Good.must _ _).bind fun _ => Good.pure _
    unfold Vf.openL at h
    simp only [if_pos hb] at h
    obtain ⟨k1, h1, h2, h3⟩ := hq _ _ _ h
    refine ⟨k1, h1, h2, fun i => ?_⟩
    cases i with
    | zero =>
     have hk : 0 < k1 := by
      rcases Nat.eq_zero_or_pos k1 with h0 | h0
      ·have := h3 0
       rw [h0] at this
       simp [Ps.bind, takeP] at this
      ·exact h0
     rw [if_pos hk]
     rfl
    | succ i =>
     unfold Vf.openL
     simp only [List.take_succ_cons, if_pos hb]
     have := h3 (i + 1)
     rw [List.take_succ_cons] at this
     exact this
   ·have hq : Good ((g c).bind (fun x => Vf.openL g k x.2 (acc ++ [x.1]))) := (hg c).bind fun x => Good.openL hg hn k _ _
    unfold Vf.openL at h
    simp only [if_neg hb] at h
    obtain ⟨k1, h1, h2, h3⟩ := hq _ _ _ h
    refine ⟨k1, h1, h2, fun i => ?_⟩
    cases i with
    | zero =>
     have hk : 0 < k1 := by
      rcases Nat.eq_zero_or_pos k1 with h0 | h0
      ·have h4 := h3 0
       rw [h0] at h4
       rcases hn c with hc | ⟨e, hc⟩
       ·simp [Ps.bind, hc] at h4
       ·simp [Ps.bind, hc] at h
      ·exact h0
     rw [if_pos hk]
     rfl
    | succ i =>
     unfold Vf.openL
     simp only [List.take_succ_cons, if_neg hb]
     have := h3 (i + 1)
     rw [List.take_succ_cons] at this
     exact this
theorem elemL_nil : ∀ n c, elemL n c [] = .error 4 ∨ ∃ e, ∀ r, elemL n c r = .error e
 | 0, _ => Or.inr ⟨3, fun _ => rfl⟩
 | n + 1, c => by
  by_cases h : c < 1024
  ·left
   simp [elemL, Ps.bind, mustP, h, Ps.pure, byteP]
  ·right
   exact ⟨3, fun r => by simp [elemL, Ps.bind, mustP, h, Ps.fail]⟩
theorem Good.elem : ∀ n c, Good (elemL n c)
 | 0, _ => Good.fail _
 | n + 1, c => by
  refine (Good.must _ _).bind fun _ => Good.byte.bind fun b => (Good.ite (Good.num _ _ _) (Good.pure _)).bind fun tag => (Good.must _ _).bind fun _ => (Good.len _).bind fun m => ?_
  cases m with
  | none => exact (Good.openL (Good.elem n) (elemL_nil n) _ _ _).bind fun p => Good.pure _
  | some m => exact (Good.take _).bind fun l => Good.ite ((Good.ofE _).bind fun p => Good.pure _) (Good.pure _)
def identB (cls tag : Int) (b : Bool) : List Int :=
 if tag < 31 then [cls * 64 + (if b then 32 else 0) + tag]
 else (cls * 64 + (if b then 32 else 0) + 31) :: (if tag < 128 then [tag] else if tag < 16384 then [tag / 128 + 128, tag % 128] else [tag / 16384 + 128, tag / 128 % 128 + 128, tag % 128])
def sizeB (n f : Int) : List Int :=
 if f = 2 then [132, n / 16777216 % 256, n / 65536 % 256, n / 256 % 256, n % 256]
 else if n < 128 then [n]
 else if n < 256 then [129, n]
 else if n < 65536 then [130, n / 256, n % 256]
 else if n < 16777216 then [131, n / 65536, n / 256 % 256, n % 256]
 else [132, n / 16777216 % 256, n / 65536 % 256, n / 256 % 256, n % 256]
def encP : Nat → Int → S41 → List Int
 | 0, _, _ => []
 | n + 1, f, x => identB x.c0 x.c1 x.c2 ++ (if (if x.c2 = false ∧ f ≠ 2 then 0 else f) = 1
   then 128 :: ((x.c3 ++ x.c4.flatMap (encP n 1)) ++ [0, 0])
   else sizeB (x.c3 ++ x.c4.flatMap (encP n (if x.c2 = false ∧ f ≠ 2 then 0 else f))).length (if x.c2 = false ∧ f ≠ 2 then 0 else f) ++ (x.c3 ++ x.c4.flatMap (encP n (if x.c2 = false ∧ f ≠ 2 then 0 else f))))
theorem identB_ne (c t : Int) (b : Bool) : identB c t b ≠ [] := by
 unfold identB
 split <;> simp
theorem bindP_ok {α β : Type} {g : Ps α} {h : α → Ps β} {r s : List Int} {x : α} (e : g r = .ok (x, s)) : (Ps.bind g h) r = h x s := by
 simp [Ps.bind, e]
theorem mustP_ok {p : Bool} {e : Int} {β : Type} {h : Unit → Ps β} (hp : p = true) : (mustP p e).bind h = h () := by
 funext r
 simp [Ps.bind, mustP, hp, Ps.pure]
theorem byteP_ok {β : Type} {h : Int → Ps β} {b : Int} {r : List Int} : byteP.bind h (b :: r) = h b r := rfl
theorem takeP_ok {β : Type} {h : List Int → Ps β} {n : Nat} {l r : List Int} (hl : l.length = n) : (takeP n).bind h (l ++ r) = h l r := by
 subst hl
 have : ¬ (l ++ r).length < l.length := by simp only [List.length_append]; omega
 simp only [Ps.bind, takeP, if_neg this, List.take_left, List.drop_left]
theorem numP_ok (k : Nat) (hk : 3 ≤ k) (tag : Int) (h0 : 31 ≤ tag) (h1 : tag < 2097152) (s : List Int) {β : Type} (h : Int → Ps β) :
  ((numL k true 0).bind h) ((if tag < 128 then [tag] else if tag < 16384 then [tag / 128 + 128, tag % 128] else [tag / 16384 + 128, tag / 128 % 128 + 128, tag % 128]) ++ s) = h tag s := by
 obtain ⟨k, rfl⟩ : ∃ m, k = m + 3 := ⟨k - 3, by omega⟩
 refine bindP_ok ?_
 have step : ∀ (k : Nat) (first : Bool) (n b n' : Int) (r : List Int), (first = true → b ≠ 128) → n' = n * 128 + b % 128 → n' ≤ 2097151 → ¬ b < 128 → numL (k + 1) first n (b :: r) = numL k false n' r := by
  intro k first n b n' r h1 h2 h3 h4
  subst h2
  rw [numL, byteP_ok, mustP_ok (by cases first <;> simp_all), mustP_ok (by simpa using h3), if_neg h4]
 have last : ∀ (k : Nat) (first : Bool) (n b n' : Int) (r : List Int), (first = true → b ≠ 128) → n' = n * 128 + b % 128 → n' ≤ 2097151 → b < 128 → 31 ≤ n' → numL (k + 1) first n (b :: r) = .ok (n', r) := by
  intro k first n b n' r h1 h2 h3 h4 h5
  subst h2
  rw [numL, byteP_ok, mustP_ok (by cases first <;> simp_all), mustP_ok (by simpa using h3), if_pos h4, mustP_ok (by simpa using h5)]
  rfl
 split
 ·rename_i h2
  exact last _ _ _ _ _ _ (by intro _; omega) (by omega) (by omega) h2 h0
 ·split
  ·rename_i h2 h3
   show numL (k + 2 + 1) true 0 (_ :: _ :: s) = _
   rw [step (k + 2) true 0 _ (tag / 128) _ (by intro _; omega) (by omega) (by omega) (by omega), last (k + 1) _ _ _ tag _ (by simp) (by omega) (by omega) (by omega) h0]
  ·rename_i h2 h3
   show numL (k + 2 + 1) true 0 (_ :: _ :: _ :: s) = _
   rw [step (k + 2) true 0 _ (tag / 16384) _ (by intro _; omega) (by omega) (by omega) (by omega), step (k + 1) false _ _ (tag / 128) _ (by simp) (by omega) (by omega) (by omega), last k _ _ _ tag _ (by simp) (by omega) (by omega) (by omega) h0]
def bigN (a : Int) : List Int → Int
 | [] => a
 | x :: l => bigN (a * 256 + x) l
theorem bigN_ge : ∀ (l : List Int) (a : Int), 0 ≤ a → (∀ x, x ∈ l → 0 ≤ x) → a ≤ bigN a l
 | [], a, _, _ => Int.le_refl _
 | x :: l, a, h, hx => by
  have h1 := hx x (by simp)
  have h2 := bigN_ge l (a * 256 + x) (by omega) (fun y hy => hx y (by simp [hy]))
  rw [bigN]
  omega
theorem fold_big : ∀ (l : List Int) (a : Int), 0 ≤ a → (∀ x, x ∈ l → 0 ≤ x) → bigN a l ≤ 65536 → l.foldl (fun n x => if n * 256 + x < 65537 then n * 256 + x else 65537) a = bigN a l
 | [], a, _, _, _ => rfl
 | x :: l, a, h, hx, hb => by
  have h1 := hx x (by simp)
  rw [bigN] at hb ⊢
  have h2 := bigN_ge l (a * 256 + x) (by omega) (fun y hy => hx y (by simp [hy]))
  rw [List.foldl_cons, if_pos (by omega)]
  exact fold_big l _ (by omega) (fun y hy => hx y (by simp [hy])) hb
theorem foldN_of (l : List Int) (n : Int) (hn : n ≤ 65536) (hx : ∀ x, x ∈ l → 0 ≤ x) (h : bigN 0 l = n) : foldN l = n := by
 rw [← h]
 exact fold_big l 0 (by decide) hx (by omega)
theorem lenP_ok (b2 : Bool) (n f : Int) (h0 : 0 ≤ n) (h1 : n ≤ 65536) (s : List Int) {β : Type} (h : Option Int → Ps β) : ((lenL b2).bind h) (sizeB n f ++ s) = h (some n) s := by
 refine bindP_ok ?_
 have two : ∀ (m : Nat) (l : List Int), l.length = m → 0 < m → m < 127 → foldN l = n → lenL b2 (((128 + (m : Int)) :: l) ++ s) = .ok (some n, s) := by
  intro m l hl h1 h2 h3
  rw [List.cons_append, lenL, byteP_ok, if_neg (by omega), if_neg (by omega), mustP_ok (by simp; omega)]
  have e : ((128 : Int) + (m : Int) - 128).toNat = m := by omega
  rw [e, takeP_ok hl, h3]
  rfl
 unfold sizeB
 split
 ·exact two 4 _ rfl (by decide) (by decide) (foldN_of _ _ h1 (by simp only [List.mem_cons, List.not_mem_nil, or_false]; rintro x (rfl | rfl | rfl | rfl) <;> omega) (by simp only [bigN]; omega))
 ·split
  ·rename_i h2 h3
   rw [List.cons_append, lenL, byteP_ok, if_pos h3]
   rfl
  ·split
   ·exact two 1 _ rfl (by decide) (by decide) (foldN_of _ _ h1 (by simp only [List.mem_cons, List.not_mem_nil, or_false]; rintro x (rfl | rfl | rfl | rfl) <;> omega) (by simp only [bigN]; omega))
   ·split
    ·exact two 2 _ rfl (by decide) (by decide) (foldN_of _ _ h1 (by simp only [List.mem_cons, List.not_mem_nil, or_false]; rintro x (rfl | rfl | rfl | rfl) <;> omega) (by simp only [bigN]; omega))
    ·split
     ·exact two 3 _ rfl (by decide) (by decide) (foldN_of _ _ h1 (by simp only [List.mem_cons, List.not_mem_nil, or_false]; rintro x (rfl | rfl | rfl | rfl) <;> omega) (by simp only [bigN]; omega))
     ·omega
theorem fullP_ok (g : Int → Ps (S41 × Int)) (en : S41 → List Int) (s : S41 → Nat) : ∀ (ps : List S41) (k : Nat) (c : Int) (acc : List S41), ps.length < k →
  (∀ p, p ∈ ps → en p ≠ []) → (∀ p, p ∈ ps → ∀ (c : Int) t, 0 ≤ c → c + s p ≤ 1024 → g c (en p ++ t) = .ok ((p, c + s p), t)) → 0 ≤ c → c + (ps.map s).sum ≤ 1024 → fullL g k c acc (ps.flatMap en) = .ok (acc ++ ps, c + (ps.map s).sum)
 | [], k, c, acc, hk, _, _, _, _ => by
  obtain ⟨k, rfl⟩ : ∃ m, k = m + 1 := ⟨k - 1, by simp at hk; omega⟩
  simp [fullL]
 | p :: ps, k, c, acc, hk, hn, hg, h0, h1 => by
  simp only [List.length_cons] at hk
  obtain ⟨k, rfl⟩ : ∃ m, k = m + 1 := ⟨k - 1, by omega⟩
  simp only [List.map_cons, List.sum_cons] at h1 ⊢
  have e : (p :: ps).flatMap en ≠ [] := by
   rw [List.flatMap_cons]
   exact fun h => hn p (by simp) (List.append_eq_nil_iff.1 h).1
  rw [fullL, if_neg e, List.flatMap_cons, hg p (by simp) c _ h0 (by omega)]
  simp only
  rw [fullP_ok g en s ps k (c + s p) (acc ++ [p]) (by omega) (fun q hq => hn q (by simp [hq])) (fun q hq => hg q (by simp [hq])) (by omega) (by omega)]
  simp
  omega
theorem openP_ok (g : Int → Ps (S41 × Int)) (en : S41 → List Int) (s : S41 → Nat) : ∀ (ps : List S41) (k : Nat) (c : Int) (acc : List S41) (t : List Int), ps.length < k →
  (∀ p, p ∈ ps → ∃ b l, en p = b :: l ∧ b ≠ 0) → (∀ p, p ∈ ps → ∀ (c : Int) t, 0 ≤ c → c + s p ≤ 1024 → g c (en p ++ t) = .ok ((p, c + s p), t)) → 0 ≤ c → c + (ps.map s).sum ≤ 1024 → openL g k c acc (ps.flatMap en ++ 0 :: 0 :: t) = .ok ((acc ++ ps, c + (ps.map s).sum), t)
 | [], k, c, acc, t, hk, _, _, _, _ => by
  obtain ⟨k, rfl⟩ : ∃ m, k = m + 1 := ⟨k - 1, by simp at hk; omega⟩
  have : ¬ (t.length + 1 + 1 < 2) := by omega
  simp [openL, Ps.bind, takeP, mustP, Ps.pure, this]
 | p :: ps, k, c, acc, t, hk, hn, hg, h0, h1 => by
  simp only [List.length_cons] at hk
  obtain ⟨k, rfl⟩ : ∃ m, k = m + 1 := ⟨k - 1, by omega⟩
  simp only [List.map_cons, List.sum_cons] at h1 ⊢
  obtain ⟨b, l, e1, e2⟩ := hn p (by simp)
  have e3 := hg p (by simp) c (ps.flatMap en ++ 0 :: 0 :: t) h0 (by omega)
  rw [openL, List.flatMap_cons, List.append_assoc]
  rw [e1] at e3 ⊢
  simp only [List.cons_append, if_neg e2] at e3 ⊢
  rw [bindP_ok e3]
  simp only
  rw [openP_ok g en s ps k (c + s p) (acc ++ [p]) t (by omega) (fun q hq => hn q (by simp [hq])) (fun q hq => hg q (by simp [hq])) (by omega) (by omega)]
  simp
  omega
theorem encP_head : ∀ {n f x}, Gd n x → ∃ b l, encP n f x = b :: l ∧ b ≠ 0
 | 0, _, _, h => h.elim
 | n + 1, f, x, h => by
  have h0 := h.1; have h1 := h.2.1; have h2 := h.2.2.1
  rw [encP]
  unfold identB
  split
  ·exact ⟨_, _, rfl, by split <;> omega⟩
  ·exact ⟨_, _, rfl, by split <;> omega⟩
theorem sum_ge' {s : S41 → Nat} : ∀ {ps : List S41}, (∀ p, p ∈ ps → 1 ≤ s p) → ps.length ≤ (ps.map s).sum
 | [], _ => by simp
 | p :: ps, h => by
  have h1 := h p (by simp)
  have h2 := sum_ge' (ps := ps) (fun q hq => h q (by simp [hq]))
  simp only [List.length_cons, List.map_cons, List.sum_cons]
  omega
theorem len_mem {en : S41 → List Int} : ∀ {ps : List S41} {p}, p ∈ ps → (en p).length ≤ (ps.flatMap en).length
 | q :: ps, p, h => by
  simp only [List.flatMap_cons, List.length_append]
  rcases List.mem_cons.1 h with rfl | h
  ·omega
  ·have := len_mem (en := en) h
   omega
theorem identP_ok (el : Int → Ps (S41 × Int)) (c cls tag : Int) (b2 : Bool) (h0 : 0 ≤ cls) (h00 : cls < 4) (h1 : 0 ≤ tag) (h11 : tag < 2097152) (h2 : ¬ (cls = 0 ∧ tag = 0)) (t : List Int) :
  (byteP.bind fun b => (if b % 32 = 31 then numL MANY true 0 else Ps.pure (b % 32)).bind fun tag => (mustP (decide (0 < b / 64) || decide (0 < tag)) 4).bind fun _ => elemR el c (b / 64) tag (decide (b / 32 % 2 = 1))) (identB cls tag b2 ++ t) = elemR el c cls tag b2 t := by
 unfold identB
 have hq : (if b2 = true then (32 : Int) else 0) = 0 ∧ b2 = false ∨ (if b2 = true then (32 : Int) else 0) = 32 ∧ b2 = true := by cases b2 <;> simp
 generalize (if b2 = true then (32 : Int) else 0) = q at hq
 by_cases ht : tag < 31
 ·rw [if_pos ht, List.cons_append, byteP_ok]
  have e1 : (cls * 64 + q + tag) % 32 = tag := by omega
  have e2 : (cls * 64 + q + tag) / 64 = cls := by omega
  rw [e1, e2, if_neg (by omega), bindP_ok (x := tag) rfl, mustP_ok (by simp; omega)]
  have e3 : decide ((cls * 64 + q + tag) / 32 % 2 = 1) = b2 := by
   rcases hq with ⟨rfl, hb⟩ | ⟨rfl, hb⟩ <;> rw [hb] <;> simp <;> omega
  rw [e3]
  rfl
 ·rw [if_neg ht, List.cons_append, byteP_ok]
  have e1 : (cls * 64 + q + 31) % 32 = 31 := by omega
  have e2 : (cls * 64 + q + 31) / 64 = cls := by omega
  rw [e1, e2, if_pos rfl, numP_ok MANY (by decide) tag (by omega) (by omega), mustP_ok (by simp; omega)]
  have e3 : decide ((cls * 64 + q + 31) / 32 % 2 = 1) = b2 := by
   rcases hq with ⟨rfl, hb⟩ | ⟨rfl, hb⟩ <;> rw [hb] <;> simp <;> omega
  rw [e3]
theorem dec_enc : ∀ {n x}, Gd n x → ∀ (f : Int) (c : Int) (s : List Int), f = 0 ∨ f = 1 ∨ f = 2 → 0 ≤ c → c + szG n x ≤ 1024 → (encP n f x).length ≤ 65536 → elemL n c (encP n f x ++ s) = .ok ((x, c + szG n x), s)
 | 0, _, h => h.elim
 | n + 1, x, h => by
  intro f c s hf hc hz hl
  obtain ⟨h0, h1, h2, h3, h4, h5, h6⟩ := h
  have hsz : (x.c4.map (szG n)).sum ≤ 1023 := by rw [szG] at hz; omega
  have hps := sum_ge' (s := szG n) (ps := x.c4) (fun p hp => (h6 p hp).pos)
  rw [szG] at hz ⊢
  obtain ⟨f', hf'⟩ : ∃ f', f' = if x.c2 = false ∧ f ≠ 2 then 0 else f := ⟨_, rfl⟩
  have hf1 : f' = 0 ∨ f' = 1 ∨ f' = 2 := by rw [hf']; split <;> simp_all
  rw [elemL, mustP_ok (by simp; omega), encP, List.append_assoc, identP_ok (elemL n) c x.c0 x.c1 x.c2 h0.1 h0.2 h1.1 h1.2 h2, ← hf']
  have hne : ∀ p, p ∈ x.c4 → encP n f' p ≠ [] := fun p hp e => by
   obtain ⟨b, l, e1, _⟩ := encP_head (f := f') (h6 p hp)
   rw [e] at e1
   simp at e1
  have hlen : (x.c3 ++ x.c4.flatMap (encP n f')).length ≤ 65535 := by
   rw [encP, ← hf'] at hl
   by_cases e1 : f' = 1
   ·rw [if_pos e1] at hl
    simp only [List.length_append, List.length_cons] at hl ⊢
    rw [e1]
    omega
   ·rw [if_neg e1] at hl
    have hs1 : 0 < (identB x.c0 x.c1 x.c2).length := List.length_pos_iff.2 (identB_ne _ _ _)
    simp only [List.length_append] at hl ⊢
    omega
  have hkid : ∀ p, p ∈ x.c4 → ∀ (c : Int) t, 0 ≤ c → c + szG n p ≤ 1024 → elemL n c (encP n f' p ++ t) = .ok ((p, c + szG n p), t) := by
   intro p hp c t hc hz
   refine dec_enc (h6 p hp) f' c t hf1 hc hz ?_
   have := len_mem (en := encP n f') hp
   simp only [List.length_append] at hlen
   omega
  have hcnt : x.c4.length < MANY := by unfold MANY; omega
  rw [elemR]
  by_cases e1 : f' = 1
  ·rw [if_pos e1]
   have hb : x.c2 = true := by
    cases hb : x.c2 with
    | true => rfl
    | false => rw [hf', hb] at e1; simp at e1; split at e1 <;> simp_all
   have h3' := h3 hb
   have hx : x = ⟨x.c0, x.c1, true, [], x.c4⟩ := by
    cases x
    simp only at hb h3' ⊢
    rw [hb, h3']
   rw [e1] at hkid hne
   have hh : ∀ p, p ∈ x.c4 → ∃ b l, encP n 1 p = b :: l ∧ b ≠ 0 := fun p hp => encP_head (h6 p hp)
   rw [h3', List.nil_append, List.cons_append, List.append_assoc, hb]
   rw [bindP_ok (x := none) (by rw [lenL, byteP_ok, if_neg (by decide), if_pos rfl, mustP_ok rfl]; rfl)]
   simp only
   have := openP_ok (elemL n) (encP n 1) (szG n) x.c4 MANY (c + 1) [] s hcnt hh hkid (by omega) (by omega)
   rw [show ([0, 0] : List Int) ++ s = 0 :: 0 :: s from rfl, bindP_ok this]
   simp only [List.nil_append, Ps.pure]
   rw [← hx]
   have : c + 1 + ↑(List.map (szG n) x.c4).sum = c + ↑(1 + (List.map (szG n) x.c4).sum) := by omega
   rw [this]
  ·rw [if_neg e1, List.append_assoc, lenP_ok _ _ _ (by omega) (by omega)]
   simp only
   rw [takeP_ok (Int.toNat_natCast _).symm]
   cases hb : x.c2 with
   | true =>
    rw [if_pos rfl]
    have h3' := h3 hb
    have hx : x = ⟨x.c0, x.c1, true, [], x.c4⟩ := by
     cases x
     simp only at hb h3' ⊢
     rw [hb, h3']
    rw [h3', List.nil_append]
    have := fullP_ok (elemL n) (encP n f') (szG n) x.c4 MANY (c + 1) [] hcnt hne hkid (by omega) (by omega)
    rw [this]
    simp only [ofE, List.nil_append]
    rw [bindP_ok (by rfl)]
    simp only [Ps.pure]
    rw [← hx]
    have : c + 1 + ↑(List.map (szG n) x.c4).sum = c + ↑(1 + (List.map (szG n) x.c4).sum) := by omega
    rw [this]
   | false =>
    have h4' := h4 hb
    have hx : x = ⟨x.c0, x.c1, false, x.c3, []⟩ := by
     cases x
     simp only at hb h4' ⊢
     rw [hb, h4']
    rw [if_neg (by decide), h4']
    simp only [List.flatMap_nil, List.append_nil, Ps.pure, List.map_nil, List.sum_nil]
    rw [← hx]
    rfl
theorem wrapU8 {n : Int} (h0 : 0 ≤ n) (h1 : n < 256) : IntKind.u8.wrap n = n := by
 unfold IntKind.wrap
 simp only [IntKind.bits, IntKind.signed, Bool.false_and]
 rw [if_neg (by simp)]
 omega
theorem wrapU32 {n : Int} (h0 : 0 ≤ n) (h1 : n < 4294967296) : IntKind.u32.wrap n = n := by
 unfold IntKind.wrap
 simp only [IntKind.bits, IntKind.signed, Bool.false_and]
 rw [if_neg (by simp)]
 omega
theorem byte_all {p : Int → Prop} (h : ∀ n : Fin 256, p (n.val : Int)) {b : Int} (h0 : 0 ≤ b) (h1 : b < 256) : p b := by
 obtain ⟨n, rfl⟩ := Int.eq_ofNat_of_zero_le h0
 exact h ⟨n, by omega⟩
theorem and31 {b : Int} (h0 : 0 ≤ b) (h1 : b < 256) : bAnd .u8 b 31 = b % 32 := byte_all (p := fun b => bAnd .u8 b 31 = b % 32) (by decide +kernel) h0 h1
theorem and127 {b : Int} (h0 : 0 ≤ b) (h1 : b < 256) : bAnd .u8 b 127 = b % 128 := byte_all (p := fun b => bAnd .u8 b 127 = b % 128) (by decide +kernel) h0 h1
theorem and32 {b : Int} (h0 : 0 ≤ b) (h1 : b < 256) : decide (0 < bAnd .u8 b 32) = decide (b / 32 % 2 = 1) := byte_all (p := fun b => decide (0 < bAnd .u8 b 32) = decide (b / 32 % 2 = 1)) (by decide +kernel) h0 h1
theorem shr6 {b : Int} (h0 : 0 ≤ b) (h1 : b < 256) : shrI .u8 b 6 = b / 64 := byte_all (p := fun b => shrI .u8 b 6 = b / 64) (by decide +kernel) h0 h1
theorem or_nat (k : IntKind) (X Y : Nat) (hX : X < 2 ^ k.bits) (hY : Y < 2 ^ k.bits) : bOr k (X : Int) (Y : Int) = k.wrap ((X ||| Y : Nat) : Int) := by
 unfold bOr
 rw [BitVec.ofInt_natCast, BitVec.ofInt_natCast, BitVec.toNat_or, BitVec.toNat_ofNat, BitVec.toNat_ofNat, Nat.mod_eq_of_lt hX, Nat.mod_eq_of_lt hY]
theorem or_shl (a i w : Nat) (hw : w < 2 ^ i) : (a * 2 ^ i) ||| w = a * 2 ^ i + w := by
 have := Nat.shiftLeft_add_eq_or_of_lt hw a
 rw [Nat.shiftLeft_eq] at this
 exact this.symm
theorem or7 {n b : Int} (h0 : 0 ≤ n) (h1 : n ≤ 2097151) (b0 : 0 ≤ b) (b1 : b < 256) : bOr .u32 (shlI .u32 n 7) (IntKind.u32.wrap (bAnd .u8 b 127)) = n * 128 + b % 128 := by
 rw [and127 b0 b1, wrapU32 (by omega) (by omega)]
 have e1 : shlI .u32 n 7 = n * 128 := by
  unfold shlI
  rw [show (2 : Int) ^ min (7 : Int).toNat IntKind.u32.bits = 128 by decide]
  exact wrapU32 (by omega) (by omega)
 rw [e1]
 obtain ⟨N, rfl⟩ := Int.eq_ofNat_of_zero_le h0
 obtain ⟨B, rfl⟩ := Int.eq_ofNat_of_zero_le b0
 have e2 : ((N : Int) * 128) = ((N * 2 ^ 7 : Nat) : Int) := by omega
 have e3 : ((B : Int) % 128) = ((B % 128 : Nat) : Int) := by omega
 rw [e2, e3, or_nat .u32 _ _ (by show _ < 2 ^ 32; omega) (by show _ < 2 ^ 32; omega), or_shl _ _ _ (by omega), wrapU32 (by omega) (by omega)]
 omega
theorem or8 {n b : Int} (h0 : 0 ≤ n) (h1 : n ≤ 65537) (b0 : 0 ≤ b) (b1 : b < 256) : bOr .i64 (shlI .i64 n 8) (IntKind.i64.wrap b) = n * 256 + b := by
 rw [wrap64 (n := b) (by omega) (by omega)]
 have e1 : shlI .i64 n 8 = n * 256 := by
  unfold shlI
  rw [show (2 : Int) ^ min (8 : Int).toNat IntKind.i64.bits = 256 by decide]
  exact wrap64 (by omega) (by omega)
 rw [e1]
 obtain ⟨N, rfl⟩ := Int.eq_ofNat_of_zero_le h0
 obtain ⟨B, rfl⟩ := Int.eq_ofNat_of_zero_le b0
 have e2 : ((N : Int) * 256) = ((N * 2 ^ 8 : Nat) : Int) := by omega
 rw [e2, or_nat .i64 _ _ (by show _ < 2 ^ 64; omega) (by show _ < 2 ^ 64; omega), or_shl _ _ _ (by omega), wrap64 (by omega) (by omega)]
 omega
def Bys (l : List Int) : Prop := ∀ b, b ∈ l → 0 ≤ b ∧ b < 256
theorem Bys.drop {l : List Int} (h : Bys l) (k : Nat) : Bys (l.drop k) := fun b hb => h b (List.mem_of_mem_drop hb)
theorem Bys.take {l : List Int} (h : Bys l) (k : Nat) : Bys (l.take k) := fun b hb => h b (List.mem_of_mem_take hb)
theorem must_eq (p : Bool) (e : Int) : must (p, e) = some (if p = true then .ok () else .error e) := by
 rw [must]
 cases p <;> simp
theorem sub_to {α : Type} (l : List α) (n : Nat) (h : n ≤ l.length) : sub' l 0 (n : Int) = some (l.take n) := by
 unfold sub'
 rw [if_pos ⟨by omega, by omega, by omega⟩]
 simp
theorem sub_from {α : Type} (l : List α) (n : Nat) (h : n ≤ l.length) : sub' l (n : Int) (l.length : Int) = some (l.drop n) := by
 unfold sub'
 rw [if_pos ⟨by omega, by omega, by omega⟩]
 simp
theorem take_eq (n : Nat) (r : List Int) (c : Int) : take ((n : Int), r, c) = some (if r.length < n then .error 4 else .ok (r.take n, r.drop n, c)) := by
 rw [take]
 simp only
 by_cases h : r.length < n
 ·rw [if_pos (by omega), if_pos h]
 ·rw [if_neg (by omega), if_neg h, sub_to r n (by omega), sub_from r n (by omega)]
  rfl
theorem next_eq (r : List Int) (c : Int) : next (r, c) = some (match r with | [] => .error 4 | b :: s => .ok (b, s, c)) := by
 rw [next]
 have := take_eq 1 r c
 simp only at this ⊢
 rw [show ((1 : Nat) : Int) = 1 from rfl] at this
 rw [this]
 cases r with
 | nil => rfl
 | cons b s =>
  simp only [List.length_cons, Option.bind_eq_bind, Option.bind_some]
  rw [if_neg (by omega)]
  rfl
def along {β : Type} (c : Int) : Except Int (β × List Int) → Except Int (β × List Int × Int)
 | .error e => .error e
 | .ok (x, s) => .ok (x, s, c)
theorem number_eq : ∀ (k : Nat) (r : List Int) (first : Bool) (n c : Int), r.length < k → Bys r → 0 ≤ n → n ≤ 2097151 → numberT_L1 (n, first, r, c) = some (along c (numL k first n r))
 | 0, r, _, _, _, h, _, _, _ => by omega
 | k + 1, [], first, n, c, _, _, _, _ => by
  rw [numberT_L1]
  simp only [next_eq, Option.bind_eq_bind, Option.bind_some]
  rfl
 | k + 1, b :: s, first, n, c, hk, hb, h0, h1 => by
  have hb0 := hb b (by simp)
  have hs : Bys s := fun x hx => hb x (by simp [hx])
  have main : numberT_L2 (n, b, s, c) = some (along c (((mustP (n * 128 + b % 128 ≤ 2097151) 3).bind fun _ => if b < 128 then (mustP (31 ≤ n * 128 + b % 128) 4).bind fun _ => Ps.pure (n * 128 + b % 128) else numL k false (n * 128 + b % 128)) s)) := by
   rw [numberT_L2]
   simp only [or7 h0 h1 hb0.1 hb0.2, must_eq, Option.bind_eq_bind, Option.bind_some]
   by_cases c1 : n * 128 + b % 128 ≤ 2097151
   ·rw [mustP_ok (by simpa using c1), if_pos (by simpa using c1)]
    simp only
    by_cases c2 : b < 128
    ·rw [if_pos c2, if_pos c2]
     by_cases c3 : 31 ≤ n * 128 + b % 128
     ·rw [mustP_ok (by simpa using c3), if_pos (by simpa using c3)]
      rfl
     ·rw [if_neg (by simpa using c3)]
      simp [Ps.bind, mustP, c3, Ps.fail, along]
    ·rw [if_neg c2, if_neg c2]
     exact number_eq k s false _ c (by simp at hk; omega) hs (by omega) c1
   ·rw [if_neg (by simpa using c1)]
    simp [Ps.bind, mustP, c1, Ps.fail, along]
  rw [numberT_L1, numL]
  simp only [next_eq, Option.bind_eq_bind, Option.bind_some, byteP_ok]
  cases first with
  | false =>
   rw [mustP_ok (p := !false || b != 128) rfl]
   simp only [must_eq, Bool.not_false, if_true, Option.bind_some]
   exact main
  | true =>
   simp only [must_eq, Bool.not_true, Bool.false_eq_true, if_false, Option.bind_some, Bool.false_or]
   by_cases e : b = 128
   ·subst e
    simp [Ps.bind, mustP, Ps.fail, along]
   ·rw [mustP_ok (by simpa using e), if_pos (by simpa using e)]
    simp only
    exact main
theorem fold_bound : ∀ (l : List Int) (n : Int), 0 ≤ n → n ≤ 65537 → Bys l → 0 ≤ l.foldl (fun n x => if n * 256 + x < 65537 then n * 256 + x else 65537) n ∧ l.foldl (fun n x => if n * 256 + x < 65537 then n * 256 + x else 65537) n ≤ 65537
 | [], n, h0, h1, _ => ⟨h0, h1⟩
 | x :: l, n, h0, h1, hb => by
  have hx := hb x (by simp)
  rw [List.foldl_cons]
  exact fold_bound l _ (by split <;> omega) (by split <;> omega) (fun y hy => hb y (by simp [hy]))
theorem length_loop (l s : List Int) (c : Int) (hb : Bys l) (hl : l.length < 9223372036854775808) : ∀ (m i : Nat) (n : Int), i + m = l.length → 0 ≤ n → n ≤ 65537 →
  lengthT_L1 (n, l, (l.length : Int), (i : Int), s, c) = some (.ok ((l.drop i).foldl (fun n x => if n * 256 + x < 65537 then n * 256 + x else 65537) n, true, s, c))
 | 0, i, n, h, _, _ => by
  rw [lengthT_L1]
  simp only
  rw [if_neg (by omega), List.drop_of_length_le (by omega)]
  rfl
 | m + 1, i, n, h, h0, h1 => by
  obtain ⟨x, hx⟩ : ∃ p, l[i]? = some p := ⟨_, List.getElem?_eq_getElem (by omega)⟩
  have hd : l.drop i = x :: l.drop (i + 1) := by
   obtain ⟨hi, rfl⟩ := List.getElem?_eq_some_iff.1 hx
   exact List.drop_eq_getElem_cons hi
  have hxb := hb x (List.mem_of_getElem? hx)
  rw [lengthT_L1]
  simp only
  rw [if_pos (by omega), at'_get hx]
  simp only [Option.bind_eq_bind, Option.bind_some]
  rw [or8 h0 h1 hxb.1 hxb.2, wrap64 (by omega) (by omega), show ((i : Int) + 1) = ((i + 1 : Nat) : Int) by omega, hd, List.foldl_cons]
  have e : minI (n * 256 + x) 65537 = if n * 256 + x < 65537 then n * 256 + x else 65537 := by
   unfold minI
   split <;> split <;> omega
  rw [e]
  exact length_loop l s c hb hl m (i + 1) _ (by omega) (by split <;> omega) (by split <;> omega)
def alongL (c : Int) : Except Int (Option Int × List Int) → Except Int (Int × Bool × List Int × Int)
 | .error e => .error e
 | .ok (some m, s) => .ok (m, true, s, c)
 | .ok (none, s) => .ok (0, false, s, c)
theorem length_eq (cls tag : Int) (b2 : Bool) (v : List Int) (p : List S41) (r : List Int) (c : Int) (hb : Bys r) (hl : r.length < 9223372036854775808) : lengthT (cls, tag, b2, v, p, r, c) = some (alongL c (lenL b2 r)) := by
 rw [lengthT]
 simp only [next_eq, Option.bind_eq_bind, Option.bind_some]
 cases r with
 | nil => rfl
 | cons b s =>
  have hb0 := hb b (by simp)
  have hs : Bys s := fun x hx => hb x (by simp [hx])
  simp only
  rw [lenL, byteP_ok]
  by_cases c1 : b < 128
  ·rw [if_pos c1, if_pos c1, wrap64 (by omega) (by omega)]
   rfl
  ·rw [if_neg c1, if_neg c1]
   by_cases c2 : b = 128
   ·rw [if_pos c2, if_pos c2, must_eq]
    cases b2 with
    | true => rfl
    | false => rfl
   ·rw [if_neg c2, if_neg c2, must_eq]
    by_cases c3 : b = 255
    ·subst c3
     simp [Ps.bind, mustP, Ps.fail, alongL]
    ·rw [mustP_ok (by simpa using c3), if_pos (by simpa using c3)]
     simp only [Option.bind_some]
     rw [wrapU8 (by omega) (by omega), wrap64 (by omega) (by omega)]
     have e : (b - 128) = (((b - 128).toNat : Nat) : Int) := by omega
     rw [e, take_eq, ← e]
     simp only [Option.bind_some]
     by_cases c4 : s.length < (b - 128).toNat
     ·rw [if_pos c4]
      simp [Ps.bind, takeP, c4, alongL]
     ·rw [if_neg c4]
      simp only
      have hlen : (s.take (b - 128).toNat).length < 9223372036854775808 := by simp only [List.length_cons] at hl; rw [List.length_take]; omega
      have := length_loop (s.take (b - 128).toNat) (s.drop (b - 128).toNat) c (hs.take _) hlen (s.take (b - 128).toNat).length 0 0 (by omega) (by omega) (by omega)
      refine this.trans ?_
      simp [Ps.bind, takeP, c4, Ps.pure, alongL, foldN]
theorem ahead_eq (r : List Int) (c : Int) : ahead (r, c) = some (match r with
  | [] => .error 4
  | b :: _ => if b = 0 then (match ((takeP 2).bind fun l => (mustP (l.getD 1 0 == 0) 4).bind fun _ => Ps.pure false) r with | .error e => .error e | .ok (x, s) => .ok (x, s, c)) else .ok (true, r, c)) := by
 rw [ahead]
 simp only [must_eq, Option.bind_eq_bind, Option.bind_some]
 cases r with
 | nil => rfl
 | cons b s =>
  simp only [List.length_cons]
  rw [if_pos (by simp)]
  simp only
  rw [show at' (b :: s) 0 = some b from rfl]
  simp only [Option.bind_some]
  by_cases e : b = 0
  ·rw [if_neg (by simp [e]), if_pos e]
   have := take_eq 2 (b :: s) c
   rw [show ((2 : Nat) : Int) = 2 from rfl] at this
   rw [this]
   simp only [Option.bind_some]
   cases s with
   | nil => rfl
   | cons b1 s =>
    have h2 : ¬ (s.length + 1 + 1 < 2) := by omega
    simp only [List.length_cons, if_neg h2]
    rw [show at' (List.take 2 (b :: b1 :: s)) 1 = some b1 from rfl]
    simp only [Option.bind_some]
    by_cases e1 : b1 = 0
    ·subst e1
     simp [Ps.bind, takeP, mustP, Ps.pure, h2]
    ·simp [Ps.bind, takeP, mustP, Ps.fail, h2, e1]
  ·rw [if_pos (by simp [e]), if_neg e]
def cv : Except Int ((S41 × Int) × List Int) → Except Int (Int × Int × Bool × (List Int) × (List S41) × (List Int) × Int)
 | .error e => .error e
 | .ok ((x, c), s) => .ok (x.c0, x.c1, x.c2, x.c3, x.c4, s, c)
theorem bind_inv {α β : Type} {g : Ps α} {h : α → Ps β} {r : List Int} {y : β × List Int} (e : (Ps.bind g h) r = .ok y) : ∃ x s, g r = .ok (x, s) ∧ h x s = .ok y := by
 unfold Ps.bind at e
 split at e
 ·exact absurd e (by simp)
 ·rename_i x s e1
  exact ⟨x, s, e1, e⟩
theorem must_inv {p : Bool} {e : Int} {r : List Int} {y : Unit × List Int} (h : mustP p e r = .ok y) : p = true ∧ y.2 = r := by
 unfold mustP at h
 split at h
 ·rename_i hp
  simp only [Ps.pure, Except.ok.injEq] at h
  exact ⟨hp, by rw [← h]⟩
 ·simp [Ps.fail] at h
theorem elemL_less {n : Nat} {c : Int} {r : List Int} {y : (S41 × Int) × List Int} (h : elemL n c r = .ok y) : ∃ k, 0 < k ∧ k ≤ r.length ∧ y.2 = r.drop k := by
 cases n with
 | zero => simp [elemL, Ps.fail] at h
 | succ n =>
  rw [elemL] at h
  obtain ⟨_, s, h1, h2⟩ := bind_inv h
  obtain ⟨_, rfl⟩ := must_inv h1
  obtain ⟨b, s1, h3, h4⟩ := bind_inv h2
  cases s with
  | nil => simp [byteP] at h3
  | cons b' t =>
   simp only [byteP, Except.ok.injEq, Prod.mk.injEq] at h3
   obtain ⟨rfl, rfl⟩ := h3
   have hg : Good ((if b' % 32 = 31 then numL MANY true 0 else Ps.pure (b' % 32)).bind fun tag => (mustP (decide (0 < b' / 64) || decide (0 < tag)) 4).bind fun _ => elemR (elemL n) c (b' / 64) tag (decide (b' / 32 % 2 = 1))) := by
    refine (Good.ite (Good.num _ _ _) (Good.pure _)).bind fun tag => (Good.must _ _).bind fun _ => (Good.len _).bind fun m => ?_
    cases m with
    | none => exact (Good.openL (Good.elem n) (elemL_nil n) _ _ _).bind fun p => Good.pure _
    | some m => exact (Good.take _).bind fun l => Good.ite ((Good.ofE _).bind fun p => Good.pure _) (Good.pure _)
   obtain ⟨y1, y2⟩ := y
   obtain ⟨k, hk, hs, _⟩ := hg _ _ _ h4
   refine ⟨k + 1, by omega, by simp; omega, ?_⟩
   simp only
   rw [hs]
   rfl
theorem full_count {g : Int → Ps (S41 × Int)} (hg : ∀ c r y, g c r = .ok y → c ≤ y.1.2) : ∀ (k : Nat) (c : Int) (acc : List S41) (r : List Int) (y : List S41 × Int), fullL g k c acc r = .ok y → c ≤ y.2
 | 0, _, _, _, _, h => by simp [fullL] at h
 | k + 1, c, acc, r, y, h => by
  rw [fullL] at h
  split at h
  ·simp only [Except.ok.injEq] at h; subst h; exact Int.le_refl _
  ·split at h
   ·exact absurd h (by simp)
   ·rename_i x s e
    have h1 := hg _ _ _ e
    have h2 := full_count hg k _ _ _ _ h
    exact Int.le_trans h1 h2
theorem open_count {g : Int → Ps (S41 × Int)} (hg : ∀ c r y, g c r = .ok y → c ≤ y.1.2) : ∀ (k : Nat) (c : Int) (acc : List S41) (r : List Int) (y : (List S41 × Int) × List Int), openL g k c acc r = .ok y → c ≤ y.1.2
 | 0, _, _, _, _, h => by simp [openL, Ps.fail] at h
 | k + 1, c, acc, r, y, h => by
  rw [openL] at h
  cases r with
  | nil => simp at h
  | cons b t =>
   simp only at h
   split at h
   ·obtain ⟨l, s, _, h2⟩ := bind_inv h
    obtain ⟨_, s2, _, h3⟩ := bind_inv h2
    simp only [Ps.pure, Except.ok.injEq] at h3
    subst h3
    exact Int.le_refl _
   ·obtain ⟨x, s, h1, h2⟩ := bind_inv h
    have h1 := hg _ _ _ h1
    have h2 := open_count hg k _ _ _ _ h2
    exact Int.le_trans h1 h2
theorem elemL_count : ∀ (n : Nat) (c : Int) (r : List Int) (y : (S41 × Int) × List Int), elemL n c r = .ok y → c ≤ y.1.2
 | 0, c, r, y, h => by simp [elemL, Ps.fail] at h
 | n + 1, c, r, y, h => by
  have ih := elemL_count n
  rw [elemL] at h
  obtain ⟨_, s, h1, h2⟩ := bind_inv h
  obtain ⟨b, s1, h3, h4⟩ := bind_inv h2
  obtain ⟨tag, s2, h5, h6⟩ := bind_inv h4
  obtain ⟨_, s3, h7, h8⟩ := bind_inv h6
  rw [elemR] at h8
  obtain ⟨m, s4, h9, h10⟩ := bind_inv h8
  cases m with
  | none =>
   simp only at h10
   obtain ⟨p, s5, h11, h12⟩ := bind_inv h10
   have := open_count ih _ _ _ _ _ h11
   simp only [Ps.pure, Except.ok.injEq] at h12
   subst h12
   simp only at this ⊢
   omega
  | some m =>
   simp only at h10
   obtain ⟨l, s5, h11, h12⟩ := bind_inv h10
   split at h12
   ·obtain ⟨p, s6, h13, h14⟩ := bind_inv h12
    cases hf : fullL (elemL n) MANY (c + 1) [] l with
    | error e => rw [hf] at h13; simp [ofE, Ps.fail] at h13
    | ok q =>
     have := full_count ih _ _ _ _ _ hf
     rw [hf] at h13
     simp only [ofE, Ps.pure, Except.ok.injEq, Prod.mk.injEq] at h13
     obtain ⟨rfl, _⟩ := h13
     simp only [Ps.pure, Except.ok.injEq] at h14
     subst h14
     simp only at this ⊢
     omega
   ·simp only [Ps.pure, Except.ok.injEq] at h12
    subst h12
    simp only
    omega
theorem L6_eq (s : List Int) (c cls tag : Int) (b2 : Bool) (v : List Int) (ps : List S41) : element_L6 (s, c, cls, tag, b2, v, ps) = some (.ok (cls, tag, b2, v, ps, s, c)) := by
 rw [element_L6]
 simp only [clipT, sub_to ps ps.length (Nat.le_refl _), List.take_length, Option.bind_eq_bind, Option.bind_some]
def LIM : Nat := 1048576
section
variable {n : Nat} {d : Int} (ih : ∀ (r : List Int) (c : Int), Bys r → r.length ≤ LIM → 0 ≤ c → element (IntKind.i64.wrap (d + 1), r, c) = some (cv (elemL n c r)))
include ih
theorem open_eq (cls tag : Int) (b2 : Bool) : ∀ (k : Nat) (r : List Int) (c : Int) (acc : List S41), r.length < k → Bys r → acc.length + r.length ≤ LIM → 0 ≤ c →
  element_L4 (d, r, c, cls, tag, b2, acc) = some (match openL (elemL n) k c acc r with | .error e => .error e | .ok ((ps, c'), s) => .ok (cls, tag, b2, [], ps, s, c'))
 | 0, r, c, acc, h, _, _, _ => by omega
 | k + 1, r, c, acc, hk, hb, hl, hc => by
  rw [element_L4]
  simp only [ahead_eq, Option.bind_eq_bind, Option.bind_some]
  rw [openL]
  cases r with
  | nil => rfl
  | cons b t =>
   simp only
   by_cases e : b = 0
   ·rw [if_pos e, if_pos e]
    cases t with
    | nil => rfl
    | cons b1 t =>
     have h2 : ¬ (t.length + 1 + 1 < 2) := by omega
     by_cases e1 : b1 = 0
     ·subst e1
      simp [Ps.bind, takeP, mustP, Ps.pure, h2, L6_eq]
     ·simp [Ps.bind, takeP, mustP, Ps.fail, h2, e1]
   ·rw [if_neg e, if_neg e]
    simp only [if_true]
    rw [ih (b :: t) c hb (by omega) hc]
    simp only [Option.bind_some]
    unfold Ps.bind
    cases hel : elemL n c (b :: t) with
    | error e => rfl
    | ok y =>
     obtain ⟨⟨⟨x0, x1, x2, x3, x4⟩, c'⟩, s⟩ := y
     obtain ⟨q, q1, q2, q3⟩ := elemL_less hel
     simp only at q3
     have hs : s.length + 1 ≤ (b :: t).length := by rw [q3, List.length_drop]; omega
     have hc' : 0 ≤ c' := Int.le_trans hc (elemL_count _ _ _ _ hel)
     simp only [cv]
     have hLIM : LIM = 1048576 := rfl
     rw [app_ok (by rw [List.length_singleton]; omega)]
     simp only [Option.bind_some]
     exact open_eq cls tag b2 k s c' (acc ++ [⟨x0, x1, x2, x3, x4⟩]) (by omega) (by rw [q3]; exact hb.drop _) (by rw [List.length_append, List.length_singleton]; omega) hc'
theorem full_eq (cls tag : Int) (b2 : Bool) (behind : List Int) : ∀ (k : Nat) (r : List Int) (c : Int) (acc : List S41), r.length < k → Bys r → acc.length + r.length ≤ LIM → 0 ≤ c →
  element_L5 (d, behind, r, c, cls, tag, b2, acc) = some (match fullL (elemL n) k c acc r with | .error e => .error e | .ok (ps, c') => .ok (cls, tag, b2, [], ps, behind, c'))
 | 0, r, c, acc, h, _, _, _ => by omega
 | k + 1, r, c, acc, hk, hb, hl, hc => by
  rw [element_L5, fullL]
  simp only
  cases r with
  | nil =>
   rw [if_neg (by simp), if_pos rfl, L6_eq]
  | cons b t =>
   rw [if_pos (by simp only [List.length_cons]; omega), if_neg (by simp), ih (b :: t) c hb (by omega) hc]
   simp only [Option.bind_eq_bind, Option.bind_some]
   cases hel : elemL n c (b :: t) with
   | error e => rfl
   | ok y =>
    obtain ⟨⟨⟨x0, x1, x2, x3, x4⟩, c'⟩, s⟩ := y
    obtain ⟨q, q1, q2, q3⟩ := elemL_less hel
    simp only at q3
    have hs : s.length + 1 ≤ (b :: t).length := by rw [q3, List.length_drop]; omega
    have hc' : 0 ≤ c' := Int.le_trans hc (elemL_count _ _ _ _ hel)
    simp only [cv]
    have hLIM : LIM = 1048576 := rfl
    rw [app_ok (by rw [List.length_singleton]; omega)]
    simp only [Option.bind_some]
    exact full_eq cls tag b2 behind k s c' (acc ++ [⟨x0, x1, x2, x3, x4⟩]) (by omega) (by rw [q3]; exact hb.drop _) (by rw [List.length_append, List.length_singleton]; omega) hc'
theorem rest_eq (cls tag : Int) (b2 : Bool) (r : List Int) (c : Int) (hb : Bys r) (hl : r.length ≤ LIM) (hc : 0 ≤ c) :
  element_L3 (d, r, c + 1, cls, tag, b2) = some (cv (elemR (elemL n) c cls tag b2 r)) := by
 have hL : LIM < MANY := by decide
 rw [element_L3]
 simp only
 rw [length_eq cls tag b2 [] [] r (c + 1) hb (by simp only [LIM] at hl; omega), elemR]
 simp only [Option.bind_eq_bind, Option.bind_some]
 have hgood := Good.len b2
 unfold Ps.bind
 cases hlen : lenL b2 r with
 | error e => rfl
 | ok y =>
  obtain ⟨m, s⟩ := y
  obtain ⟨q, q1, q2, _⟩ := hgood _ _ _ hlen
  have hsb : Bys s := by rw [q2]; exact hb.drop _
  have hsl : s.length ≤ LIM := by rw [q2, List.length_drop]; omega
  have hm0 : ∀ v, m = some v → 0 ≤ v := by
   intro v hv
   subst hv
   unfold lenL at hlen
   obtain ⟨b, s1, h1, h2⟩ := bind_inv hlen
   cases r with
   | nil => simp [byteP] at h1
   | cons b' t =>
    simp only [byteP, Except.ok.injEq, Prod.mk.injEq] at h1
    obtain ⟨rfl, rfl⟩ := h1
    have hb' := hb b' (by simp)
    split at h2
    ·simp only [Ps.pure, Except.ok.injEq, Prod.mk.injEq, Option.some.injEq] at h2
     omega
    ·split at h2
     ·obtain ⟨_, _, _, h3⟩ := bind_inv h2
      simp [Ps.pure] at h3
     ·obtain ⟨_, s2, h3, h4⟩ := bind_inv h2
      obtain ⟨_, h3⟩ := must_inv h3
      simp only at h3
      subst h3
      obtain ⟨l, s3, h5, h6⟩ := bind_inv h4
      simp only [Ps.pure, Except.ok.injEq, Prod.mk.injEq, Option.some.injEq] at h6
      have hl' : l = s2.take (b' - 128).toNat := by
       unfold takeP at h5
       split at h5
       ·simp at h5
       ·simp only [Except.ok.injEq, Prod.mk.injEq] at h5; exact h5.1.symm
      have := fold_bound l 0 (by omega) (by omega) (by
       rw [hl']
       exact Bys.take (fun x hx => hb x (by simp [hx])) _)
      rw [← h6.1]
      exact this.1
  cases m with
  | none =>
   simp only [alongL, Bool.not_false, if_true]
   rw [open_eq ih cls tag b2 MANY s (c + 1) [] (by omega) hsb (by simpa using hsl) (by omega)]
   cases hop : openL (elemL n) MANY (c + 1) [] s with
   | error e => rfl
   | ok y => rfl
  | some m =>
   have hm := hm0 m rfl
   obtain ⟨m, rfl⟩ := Int.eq_ofNat_of_zero_le hm
   simp only [alongL, Bool.not_true, Bool.false_eq_true, if_false, take_eq, Int.toNat_natCast, takeP, Option.bind_some]
   by_cases c1 : s.length < m
   ·simp only [if_pos c1]
    cases b2 <;> rfl
   ·simp only [if_neg c1]
    cases b2 with
    | true =>
     simp only [if_true]
     rw [full_eq ih cls tag true (s.drop m) MANY (s.take m) (c + 1) [] (by rw [List.length_take]; omega) (hsb.take _) (by rw [List.length_take]; simp; omega) (by omega)]
     cases hop : fullL (elemL n) MANY (c + 1) [] (s.take m) with
     | error e => rfl
     | ok y => rfl
    | false =>
     simp only [Bool.false_eq_true, if_false]
     rw [show cloneB (s.take m) = some (s.take m) by
      unfold cloneB
      rw [app_ok (by simp only [List.length_nil, List.length_take, LIM] at hsl ⊢; omega)]
      rfl]
     simp only [Option.bind_some, clip, sub_to (s.take m) (s.take m).length (Nat.le_refl _), List.take_length, Option.bind_eq_bind, L6_eq]
     rfl
end
theorem element_eq : ∀ (n d : Nat) (r : List Int) (c : Int), d + n = 17 → Bys r → r.length ≤ LIM → 0 ≤ c → element ((d : Int), r, c) = some (cv (elemL n c r))
 | 0, d, r, c, hd, hb, hl, hc => by
  rw [element]
  simp only
  rw [if_neg (by omega), must_eq]
  rfl
 | n + 1, d, r, c, hd, hb, hl, hc => by
  have hL : LIM < MANY := by decide
  have ih : ∀ (r : List Int) (c : Int), Bys r → r.length ≤ LIM → 0 ≤ c → element (IntKind.i64.wrap ((d : Int) + 1), r, c) = some (cv (elemL n c r)) := by
   intro r c h1 h2 h3
   rw [wrap64 (by omega) (by omega), show ((d : Int) + 1) = ((d + 1 : Nat) : Int) by omega]
   exact element_eq n (d + 1) r c (by omega) h1 h2 h3
  rw [element, elemL]
  simp only
  rw [if_pos (by omega), must_eq]
  by_cases c0 : c < 1024
  ·rw [mustP_ok (by simpa using c0), if_pos (by simpa using c0)]
   simp only [Option.bind_eq_bind, Option.bind_some]
   rw [element_L1]
   simp only [next_eq, Option.bind_eq_bind, Option.bind_some]
   rw [wrap64 (n := c + 1) (by omega) (by omega)]
   cases r with
   | nil => rfl
   | cons b t =>
    have hb0 := hb b (by simp)
    have ht : Bys t := fun x hx => hb x (by simp [hx])
    have htl : t.length ≤ LIM := by simp only [List.length_cons] at hl; omega
    simp only
    rw [and31 hb0.1 hb0.2, wrapU32 (by omega) (by omega), shr6 hb0.1 hb0.2, and32 hb0.1 hb0.2, byteP_ok]
    have main : ∀ (tag : Int) (s : List Int), 0 ≤ tag → Bys s → s.length ≤ LIM → element_L2 ((d : Int), s, c + 1, b / 64, tag, decide (b / 32 % 2 = 1)) = some (cv (((mustP (decide (0 < b / 64) || decide (0 < tag)) 4).bind fun _ => elemR (elemL n) c (b / 64) tag (decide (b / 32 % 2 = 1))) s)) := by
     intro tag s h0 hs hsl
     have hr := rest_eq ih (b / 64) tag (decide (b / 32 % 2 = 1)) s c hs hsl hc
     rw [element_L2]
     simp only [must_eq, Option.bind_eq_bind, Option.bind_some, if_true]
     by_cases q : 0 < b / 64
     ·rw [if_pos q, mustP_ok (by simp; omega)]
      exact hr
     ·rw [if_neg q]
      by_cases q2 : 0 < tag
      ·rw [mustP_ok (by simp [q2]), if_pos (by simpa using q2)]
       exact hr
      ·rw [if_neg (by simpa using q2)]
       simp [Ps.bind, mustP, q, q2, Ps.fail, cv]
    by_cases c1 : b % 32 = 31
    ·rw [if_pos c1, if_pos c1, numberT]
     simp only
     rw [number_eq MANY t true 0 (c + 1) (by omega) ht (by omega) (by omega)]
     unfold Ps.bind
     cases hnum : numL MANY true 0 t with
     | error e => rfl
     | ok y =>
      obtain ⟨tag, s⟩ := y
      obtain ⟨q, q1, q2, _⟩ := Good.num _ _ _ _ _ _ hnum
      have h0 : 0 ≤ tag := by
       have aux : ∀ (k : Nat) (r : List Int) (f : Bool) (n : Int) (y : Int × List Int), Bys r → 0 ≤ n → numL k f n r = .ok y → 0 ≤ y.1 := by
        intro k
        induction k with
        | zero => intro r f n y _ _ h; simp [numL, Ps.fail] at h
        | succ k ihk =>
         intro r f n y hr hn h
         rw [numL] at h
         obtain ⟨b1, s1, h1, h2⟩ := bind_inv h
         cases r with
         | nil => simp [byteP] at h1
         | cons b' t' =>
          simp only [byteP, Except.ok.injEq, Prod.mk.injEq] at h1
          obtain ⟨rfl, rfl⟩ := h1
          have hb' := hr b' (by simp)
          obtain ⟨_, s2, h3, h4⟩ := bind_inv h2
          obtain ⟨_, h3⟩ := must_inv h3
          obtain ⟨_, s3, h5, h6⟩ := bind_inv h4
          obtain ⟨_, h5⟩ := must_inv h5
          simp only at h3 h5
          subst h3
          subst h5
          split at h6
          ·obtain ⟨_, s4, _, h8⟩ := bind_inv h6
           simp only [Ps.pure, Except.ok.injEq] at h8
           rw [← h8]
           simp only
           omega
          ·exact ihk _ _ _ _ (fun x hx => hr x (by simp [hx])) (by omega) h6
       exact aux _ _ _ _ _ ht (by omega) hnum
      simp only [along, Option.bind_some]
      exact main tag s h0 (by rw [q2]; exact ht.drop _) (by rw [q2, List.length_drop]; omega)
    ·rw [if_neg c1, if_neg c1, bindP_ok (x := b % 32) (s := t) rfl]
     exact main (b % 32) t (by omega) ht htl
  ·rw [if_neg (by simpa using c0)]
   simp [Ps.bind, mustP, c0, Ps.fail, cv]
theorem first_eq (r : List Int) (hb : Bys r) (hl : r.length ≤ 65536) : first r = some (match elemL 16 0 r with
  | .error e => (0, 0, false, [], [], 0, e)
  | .ok ((x, _), s) => (x.c0, x.c1, x.c2, x.c3, x.c4, (r.length : Int) - (s.length : Int), 0)) := by
 rw [first]
 rw [if_neg (by omega)]
 have := element_eq 16 1 r 0 (by omega) hb (by unfold LIM; omega) (by omega)
 rw [show ((1 : Nat) : Int) = 1 from rfl] at this
 rw [this]
 simp only [Option.bind_eq_bind, Option.bind_some]
 cases hel : elemL 16 0 r with
 | error e => rfl
 | ok y =>
  obtain ⟨⟨x, c'⟩, s⟩ := y
  obtain ⟨q, q1, q2, q3⟩ := elemL_less hel
  simp only at q3
  simp only [cv]
  rw [wrap64 (by rw [q3, List.length_drop]; omega) (by omega)]
theorem wrapM (n : Int) : IntKind.u8.wrap n = n % 256 := by
 unfold IntKind.wrap
 simp only [IntKind.bits, IntKind.signed, Bool.false_and]
 rw [if_neg (by simp)]
 rfl
theorem cls_all {p : Int → Prop} (h : ∀ n : Fin 4, p (n.val : Int)) {b : Int} (h0 : 0 ≤ b) (h1 : b < 4) : p b := by
 obtain ⟨n, rfl⟩ := Int.eq_ofNat_of_zero_le h0
 exact h ⟨n, by omega⟩
theorem shl6 {c : Int} (h0 : 0 ≤ c) (h1 : c < 4) : shlI .u8 c 6 = c * 64 := cls_all (p := fun c => shlI .u8 c 6 = c * 64) (by decide +kernel) h0 h1
theorem or32 {c : Int} (h0 : 0 ≤ c) (h1 : c < 4) : bOr .u8 (c * 64) 32 = c * 64 + 32 := cls_all (p := fun c => bOr .u8 (c * 64) 32 = c * 64 + 32) (by decide +kernel) h0 h1
def headI (c : Int) (b : Bool) : Int := c * 64 + if b then 32 else 0
theorem or31 {c : Int} (b : Bool) (h0 : 0 ≤ c) (h1 : c < 4) : bOr .u8 (headI c b) 31 = headI c b + 31 := cls_all (p := fun c => bOr .u8 (headI c b) 31 = headI c b + 31) (by cases b <;> decide +kernel) h0 h1
theorem orT_all : ∀ (b : Bool) (c : Fin 4) (t : Fin 31), bOr .u8 (headI (c.val : Int) b) (IntKind.u8.wrap (t.val : Int)) = headI (c.val : Int) b + (t.val : Int) := by decide +kernel
theorem orT {c t : Int} (b : Bool) (h0 : 0 ≤ c) (h1 : c < 4) (t0 : 0 ≤ t) (t1 : t < 31) : bOr .u8 (headI c b) (IntKind.u8.wrap t) = headI c b + t := by
 obtain ⟨C, rfl⟩ := Int.eq_ofNat_of_zero_le h0
 obtain ⟨T, rfl⟩ := Int.eq_ofNat_of_zero_le t0
 exact orT_all b ⟨C, by omega⟩ ⟨T, by omega⟩
theorem or128 {v : Int} (h0 : 0 ≤ v) (h1 : v < 256) : bOr .u8 v 128 = v % 128 + 128 := byte_all (p := fun v => bOr .u8 v 128 = v % 128 + 128) (by decide +kernel) h0 h1
theorem mask127 {t : Int} (h0 : 0 ≤ t) (h1 : t < 2097152) : bAnd .u32 t 127 = t % 128 := by
 obtain ⟨T, rfl⟩ := Int.eq_ofNat_of_zero_le h0
 unfold bAnd
 rw [show (127 : Int) = ((127 : Nat) : Int) from rfl, BitVec.ofInt_natCast, BitVec.ofInt_natCast, BitVec.toNat_and, BitVec.toNat_ofNat, BitVec.toNat_ofNat, Nat.mod_eq_of_lt (show T < 2 ^ IntKind.u32.bits by show T < 2 ^ 32; omega), Nat.mod_eq_of_lt (show 127 < 2 ^ IntKind.u32.bits by decide)]
 have := Nat.and_two_pow_sub_one_eq_mod T 7
 rw [show 2 ^ 7 - 1 = 127 from rfl] at this
 rw [this, wrapU32 (by omega) (by omega)]
 omega
theorem fd (n d : Int) (hd : 0 ≤ d) : n.fdiv d = n / d := Int.fdiv_eq_ediv_of_nonneg n hd
theorem shrT (t : Int) (s : Nat) (h : s ≤ 32) : shr' .u32 t (s : Int) = some (t / 2 ^ s) := by
 unfold shr' shrI
 rw [if_pos (by omega), show min ((s : Int)).toNat IntKind.u32.bits = s by show min _ 32 = s; omega, fd _ _ (by exact_mod_cast Nat.zero_le _)]
theorem shrN (t : Int) (s : Nat) (h : s ≤ 64) : shr' .i64 t (s : Int) = some (t / 2 ^ s) := by
 unfold shr' shrI
 rw [if_pos (by omega), show min ((s : Int)).toNat IntKind.i64.bits = s by show min _ 64 = s; omega, fd _ _ (by exact_mod_cast Nat.zero_le _)]
theorem app1 {out : List Int} (x : Int) (h : out.length ≤ 1099511627776) : app' 1 out [x] = some (out ++ [x]) := app_ok (by rw [List.length_singleton]; omega)
theorem identifier_1_eq (out : List Int) (c t : Int) (b : Bool) (v : List Int) (ps : List S41) (hl : out.length ≤ 1000000000) (h0 : 0 ≤ c) (h1 : c < 4) (t0 : 0 ≤ t) (t1 : t < 2097152) : identifier_1 (out, c, t, b, v, ps) = some (out ++ identB c t b) := by
 have L3a : ∀ (o : List Int), o.length ≤ 1000 + out.length → identifier_1_L3 (o, 0, c, t, b, v, ps) = some (o ++ [t % 128]) := by
  intro o ho
  rw [identifier_1_L3]
  simp only
  rw [if_neg (by omega), mask127 t0 t1, wrapU8 (by omega) (by omega), app1 _ (by omega)]
  rfl
 have L3b : ∀ (o : List Int), o.length ≤ 900 + out.length → identifier_1_L3 (o, 7, c, t, b, v, ps) = some (o ++ [t / 128 % 128 + 128, t % 128]) := by
  intro o ho
  have e := shrT t 7 (by omega)
  rw [show ((7 : Nat) : Int) = 7 from rfl] at e
  rw [identifier_1_L3]
  simp only
  rw [if_pos (by omega), e]
  simp only [Option.bind_eq_bind, Option.bind_some]
  rw [wrapM, or128 (by omega) (by omega), app1 _ (by omega)]
  simp only [Option.bind_some]
  rw [show IntKind.i64.wrap (7 - 7) = 0 by decide, L3a _ (by rw [List.length_append, List.length_singleton]; omega), List.append_assoc]
  congr 2
  show [_] ++ [_] = _
  simp only [List.singleton_append, List.cons.injEq, and_true]
  omega
 have L3c : ∀ (o : List Int), o.length ≤ 800 + out.length → identifier_1_L3 (o, 14, c, t, b, v, ps) = some (o ++ [t / 16384 + 128, t / 128 % 128 + 128, t % 128]) := by
  intro o ho
  have e := shrT t 14 (by omega)
  rw [show ((14 : Nat) : Int) = 14 from rfl] at e
  rw [identifier_1_L3]
  simp only
  rw [if_pos (by omega), e]
  simp only [Option.bind_eq_bind, Option.bind_some]
  rw [wrapM, or128 (by omega) (by omega), app1 _ (by omega)]
  simp only [Option.bind_some]
  rw [show IntKind.i64.wrap (14 - 7) = 7 by decide, L3b _ (by rw [List.length_append, List.length_singleton]; omega), List.append_assoc]
  congr 2
  show [_] ++ [_, _] = _
  simp only [List.singleton_append, List.cons.injEq, and_true]
  omega
 have s7 : shr' .u32 t (IntKind.i64.wrap (0 + 7)) = some (t / 128) := by
  have e := shrT t 7 (by omega)
  rw [show ((7 : Nat) : Int) = 7 from rfl] at e
  rw [show IntKind.i64.wrap (0 + 7) = 7 by decide, e]
  rfl
 have s14 : shr' .u32 t (IntKind.i64.wrap (7 + 7)) = some (t / 16384) := by
  have e := shrT t 14 (by omega)
  rw [show ((14 : Nat) : Int) = 14 from rfl] at e
  rw [show IntKind.i64.wrap (7 + 7) = 14 by decide, e]
  rfl
 have s21 : shr' .u32 t (IntKind.i64.wrap (14 + 7)) = some (t / 2097152) := by
  have e := shrT t 21 (by omega)
  rw [show ((21 : Nat) : Int) = 21 from rfl] at e
  rw [show IntKind.i64.wrap (14 + 7) = 21 by decide, e]
  rfl
 have L2 : ∀ (o : List Int), o.length ≤ 700 + out.length → identifier_1_L2 (o, 0, c, t, b, v, ps) = some (o ++ (if t < 128 then [t] else if t < 16384 then [t / 128 + 128, t % 128] else [t / 16384 + 128, t / 128 % 128 + 128, t % 128])) := by
  intro o ho
  rw [identifier_1_L2]
  simp only [s7, Option.bind_eq_bind, Option.bind_some]
  by_cases c1 : t < 128
  ·rw [if_neg (by omega), if_pos c1, L3a o (by omega)]
   congr 3
   omega
  ·rw [if_pos (by omega), if_neg c1, show IntKind.i64.wrap (0 + 7) = 7 by decide, identifier_1_L2]
   simp only [s14, Option.bind_eq_bind, Option.bind_some]
   by_cases c2 : t < 16384
   ·rw [if_neg (by omega), if_pos c2, L3b o (by omega)]
    congr 3
    omega
   ·rw [if_pos (by omega), if_neg c2, show IntKind.i64.wrap (7 + 7) = 14 by decide, identifier_1_L2]
    simp only [s21, Option.bind_eq_bind, Option.bind_some]
    rw [if_neg (by omega), L3c o (by omega)]
 have L1 : identifier_1_L1 (out, headI c b, c, t, b, v, ps) = some (out ++ identB c t b) := by
  rw [identifier_1_L1]
  simp only
  unfold identB
  by_cases c1 : t < 31
  ·rw [if_pos c1, if_pos c1, orT b h0 h1 t0 c1, app1 _ (by omega)]
   rfl
  ·rw [if_neg c1, if_neg c1, or31 b h0 h1, app1 _ (by omega)]
   simp only [Option.bind_eq_bind, Option.bind_some]
   rw [L2 _ (by rw [List.length_append, List.length_singleton]; omega), List.append_assoc]
   rfl
 rw [identifier_1]
 simp only
 rw [shl6 h0 h1]
 cases b with
 | true => rw [if_pos rfl, or32 h0 h1]; exact L1
 | false =>
  rw [if_neg (by simp)]
  have : headI c false = c * 64 := by unfold headI; simp
  rw [this] at L1
  exact L1
theorem identifier_eq (c t : Int) (b : Bool) (v : List Int) (ps : List S41) (h0 : 0 ≤ c) (h1 : c < 4) (t0 : 0 ≤ t) (t1 : t < 2097152) : identifier (c, t, b, v, ps) = some (([] : List Int) ++ identB c t b) := by
 have L3a : ∀ (o : List Int), o.length ≤ 1000 + ([] : List Int).length → identifier_L3 (o, 0, c, t, b, v, ps) = some (o ++ [t % 128]) := by
  intro o ho
  rw [identifier_L3]
  simp only
  rw [if_neg (by omega), mask127 t0 t1, wrapU8 (by omega) (by omega), app1 _ (by simp only [List.length_nil] at *; omega)]
  rfl
 have L3b : ∀ (o : List Int), o.length ≤ 900 + ([] : List Int).length → identifier_L3 (o, 7, c, t, b, v, ps) = some (o ++ [t / 128 % 128 + 128, t % 128]) := by
  intro o ho
  have e := shrT t 7 (by omega)
  rw [show ((7 : Nat) : Int) = 7 from rfl] at e
  rw [identifier_L3]
  simp only
  rw [if_pos (by omega), e]
  simp only [Option.bind_eq_bind, Option.bind_some]
  rw [wrapM, or128 (by omega) (by omega), app1 _ (by simp only [List.length_nil] at *; omega)]
  simp only [Option.bind_some]
  rw [show IntKind.i64.wrap (7 - 7) = 0 by decide, L3a _ (by rw [List.length_append, List.length_singleton]; omega), List.append_assoc]
  congr 2
  show [_] ++ [_] = _
  simp only [List.singleton_append, List.cons.injEq, and_true]
  omega
 have L3c : ∀ (o : List Int), o.length ≤ 800 + ([] : List Int).length → identifier_L3 (o, 14, c, t, b, v, ps) = some (o ++ [t / 16384 + 128, t / 128 % 128 + 128, t % 128]) := by
  intro o ho
  have e := shrT t 14 (by omega)
  rw [show ((14 : Nat) : Int) = 14 from rfl] at e
  rw [identifier_L3]
  simp only
  rw [if_pos (by omega), e]
  simp only [Option.bind_eq_bind, Option.bind_some]
  rw [wrapM, or128 (by omega) (by omega), app1 _ (by simp only [List.length_nil] at *; omega)]
  simp only [Option.bind_some]
  rw [show IntKind.i64.wrap (14 - 7) = 7 by decide, L3b _ (by rw [List.length_append, List.length_singleton]; omega), List.append_assoc]
  congr 2
  show [_] ++ [_, _] = _
  simp only [List.singleton_append, List.cons.injEq, and_true]
  omega
 have s7 : shr' .u32 t (IntKind.i64.wrap (0 + 7)) = some (t / 128) := by
  have e := shrT t 7 (by omega)
  rw [show ((7 : Nat) : Int) = 7 from rfl] at e
  rw [show IntKind.i64.wrap (0 + 7) = 7 by decide, e]
  rfl
 have s14 : shr' .u32 t (IntKind.i64.wrap (7 + 7)) = some (t / 16384) := by
  have e := shrT t 14 (by omega)
  rw [show ((14 : Nat) : Int) = 14 from rfl] at e
  rw [show IntKind.i64.wrap (7 + 7) = 14 by decide, e]
  rfl
 have s21 : shr' .u32 t (IntKind.i64.wrap (14 + 7)) = some (t / 2097152) := by
  have e := shrT t 21 (by omega)
  rw [show ((21 : Nat) : Int) = 21 from rfl] at e
  rw [show IntKind.i64.wrap (14 + 7) = 21 by decide, e]
  rfl
 have L2 : ∀ (o : List Int), o.length ≤ 700 + ([] : List Int).length → identifier_L2 (o, 0, c, t, b, v, ps) = some (o ++ (if t < 128 then [t] else if t < 16384 then [t / 128 + 128, t % 128] else [t / 16384 + 128, t / 128 % 128 + 128, t % 128])) := by
  intro o ho
  rw [identifier_L2]
  simp only [s7, Option.bind_eq_bind, Option.bind_some]
  by_cases c1 : t < 128
  ·rw [if_neg (by omega), if_pos c1, L3a o (by omega)]
   congr 3
   omega
  ·rw [if_pos (by omega), if_neg c1, show IntKind.i64.wrap (0 + 7) = 7 by decide, identifier_L2]
   simp only [s14, Option.bind_eq_bind, Option.bind_some]
   by_cases c2 : t < 16384
   ·rw [if_neg (by omega), if_pos c2, L3b o (by omega)]
    congr 3
    omega
   ·rw [if_pos (by omega), if_neg c2, show IntKind.i64.wrap (7 + 7) = 14 by decide, identifier_L2]
    simp only [s21, Option.bind_eq_bind, Option.bind_some]
    rw [if_neg (by omega), L3c o (by omega)]
 have L1 : identifier_L1 (headI c b, c, t, b, v, ps) = some (([] : List Int) ++ identB c t b) := by
  rw [identifier_L1]
  simp only
  unfold identB
  by_cases c1 : t < 31
  ·rw [if_pos c1, if_pos c1, orT b h0 h1 t0 c1, app1 _ (by simp only [List.length_nil] at *; omega)]
   rfl
  ·rw [if_neg c1, if_neg c1, or31 b h0 h1, app1 _ (by simp only [List.length_nil] at *; omega)]
   simp only [Option.bind_eq_bind, Option.bind_some]
   rw [L2 _ (by rw [List.length_append, List.length_singleton]; omega), List.append_assoc]
   rfl
 rw [identifier]
 simp only
 rw [shl6 h0 h1]
 cases b with
 | true => rw [if_pos rfl, or32 h0 h1]; exact L1
 | false =>
  rw [if_neg (by simp)]
  have : headI c false = c * 64 := by unfold headI; simp
  rw [this] at L1
  exact L1
theorem size_eq (out : List Int) (n f : Int) (hl : out.length ≤ 1000000000) (h0 : 0 ≤ n) (h1 : n ≤ 16777215) (hf : f = 0 ∨ f = 2) : size (out, n, f) = some (out ++ sizeB n f) := by
 have sh : ∀ (j : Nat), j ≤ 4 → shr' .i64 n (IntKind.i64.wrap (8 * (j : Int))) = some (n / 2 ^ (8 * j)) := by
  intro j hj
  have e := shrN n (8 * j) (by omega)
  rw [wrap64 (by omega) (by omega), show (8 * (j : Int)) = ((8 * j : Nat) : Int) by omega, e]
 have d0 : n / 2 ^ (8 * 0) = n := by simp
 have d1 : n / 2 ^ (8 * 1) = n / 256 := rfl
 have d2 : n / 2 ^ (8 * 2) = n / 65536 := rfl
 have d3 : n / 2 ^ (8 * 3) = n / 16777216 := rfl
 have s0 := sh 0 (by omega)
 have s1 := sh 1 (by omega)
 have s2 := sh 2 (by omega)
 have s3 := sh 3 (by omega)
 rw [d0] at s0
 rw [d1] at s1
 rw [d2] at s2
 rw [d3] at s3
 simp only [show ((0 : Nat) : Int) = 0 from rfl, show ((1 : Nat) : Int) = 1 from rfl, show ((2 : Nat) : Int) = 2 from rfl, show ((3 : Nat) : Int) = 3 from rfl] at s0 s1 s2 s3
 have Lm : ∀ o, size_L3 (o, n, -1) = some o := by
  intro o
  rw [size_L3]
  simp
 have L0 : ∀ (o : List Int), o.length ≤ 1000 + out.length → size_L3 (o, n, 0) = some (o ++ [n % 256]) := by
  intro o ho
  rw [size_L3]
  simp only
  rw [if_pos (by omega), s0]
  simp only [Option.bind_eq_bind, Option.bind_some]
  rw [wrapM, app1 _ (by omega)]
  simp only [Option.bind_some]
  rw [show IntKind.i64.wrap (0 - 1) = -1 by decide, Lm]
 have L1 : ∀ (o : List Int), o.length ≤ 900 + out.length → size_L3 (o, n, 1) = some (o ++ [n / 256 % 256, n % 256]) := by
  intro o ho
  rw [size_L3]
  simp only
  rw [if_pos (by omega), s1]
  simp only [Option.bind_eq_bind, Option.bind_some]
  rw [wrapM, app1 _ (by omega)]
  simp only [Option.bind_some]
  rw [show IntKind.i64.wrap (1 - 1) = 0 by decide, L0 _ (by rw [List.length_append, List.length_singleton]; omega), List.append_assoc]
  rfl
 have L2 : ∀ (o : List Int), o.length ≤ 800 + out.length → size_L3 (o, n, 2) = some (o ++ [n / 65536 % 256, n / 256 % 256, n % 256]) := by
  intro o ho
  rw [size_L3]
  simp only
  rw [if_pos (by omega), s2]
  simp only [Option.bind_eq_bind, Option.bind_some]
  rw [wrapM, app1 _ (by omega)]
  simp only [Option.bind_some]
  rw [show IntKind.i64.wrap (2 - 1) = 1 by decide, L1 _ (by rw [List.length_append, List.length_singleton]; omega), List.append_assoc]
  rfl
 have L3 : ∀ (o : List Int), o.length ≤ 700 + out.length → size_L3 (o, n, 3) = some (o ++ [n / 16777216 % 256, n / 65536 % 256, n / 256 % 256, n % 256]) := by
  intro o ho
  rw [size_L3]
  simp only
  rw [if_pos (by omega), s3]
  simp only [Option.bind_eq_bind, Option.bind_some]
  rw [wrapM, app1 _ (by omega)]
  simp only [Option.bind_some]
  rw [show IntKind.i64.wrap (3 - 1) = 2 by decide, L2 _ (by rw [List.length_append, List.length_singleton]; omega), List.append_assoc]
  rfl
 have M1 : size_L2 (out, n, 1) = some (out ++ [129, n % 256]) := by
  rw [size_L2]
  simp only
  rw [show IntKind.u8.wrap (128 + IntKind.u8.wrap 1) = 129 by decide, app1 _ (by omega)]
  simp only [Option.bind_eq_bind, Option.bind_some]
  rw [show IntKind.i64.wrap (1 - 1) = 0 by decide, L0 _ (by rw [List.length_append, List.length_singleton]; omega), List.append_assoc]
  rfl
 have M2 : size_L2 (out, n, 2) = some (out ++ [130, n / 256 % 256, n % 256]) := by
  rw [size_L2]
  simp only
  rw [show IntKind.u8.wrap (128 + IntKind.u8.wrap 2) = 130 by decide, app1 _ (by omega)]
  simp only [Option.bind_eq_bind, Option.bind_some]
  rw [show IntKind.i64.wrap (2 - 1) = 1 by decide, L1 _ (by rw [List.length_append, List.length_singleton]; omega), List.append_assoc]
  rfl
 have M3 : size_L2 (out, n, 3) = some (out ++ [131, n / 65536 % 256, n / 256 % 256, n % 256]) := by
  rw [size_L2]
  simp only
  rw [show IntKind.u8.wrap (128 + IntKind.u8.wrap 3) = 131 by decide, app1 _ (by omega)]
  simp only [Option.bind_eq_bind, Option.bind_some]
  rw [show IntKind.i64.wrap (3 - 1) = 2 by decide, L2 _ (by rw [List.length_append, List.length_singleton]; omega), List.append_assoc]
  rfl
 have M4 : size_L2 (out, n, 4) = some (out ++ [132, n / 16777216 % 256, n / 65536 % 256, n / 256 % 256, n % 256]) := by
  rw [size_L2]
  simp only
  rw [show IntKind.u8.wrap (128 + IntKind.u8.wrap 4) = 132 by decide, app1 _ (by omega)]
  simp only [Option.bind_eq_bind, Option.bind_some]
  rw [show IntKind.i64.wrap (4 - 1) = 3 by decide, L3 _ (by rw [List.length_append, List.length_singleton]; omega), List.append_assoc]
  rfl
 -- the number of bytes
 have fin : ∀ (k : Int), (size_L2 (out, n, k) = some (out ++ sizeB n 0) ∨ n < 128) → size_L1 (out, n, f, k) = (if f = 2 then size_L2 (out, n, 4) else if n < 128 then (app' 1 out [IntKind.u8.wrap n]) else size_L2 (out, n, k)) → size_L1 (out, n, f, k) = some (out ++ sizeB n f) := by
  intro k hk e
  rw [e]
  rcases hf with rfl | rfl
  ·rw [if_neg (by decide)]
   by_cases c : n < 128
   ·rw [if_pos c, wrapU8 h0 (by omega), app1 _ (by omega)]
    unfold sizeB
    rw [if_neg (by decide), if_pos c]
   ·rw [if_neg c]
    exact hk.resolve_right c
  ·rw [if_pos rfl, M4]
   unfold sizeB
   rw [if_pos rfl]
 have stop : ∀ (k : Nat), k ≤ 4 → n / 2 ^ (8 * k) = 0 → size_L1 (out, n, f, (k : Int)) = (if f = 2 then size_L2 (out, n, 4) else if n < 128 then (app' 1 out [IntKind.u8.wrap n]) else size_L2 (out, n, (k : Int))) := by
  intro k hk hz
  rw [size_L1]
  simp only [sh k hk, hz, Option.bind_eq_bind, Option.bind_some]
  rw [if_neg (by omega)]
  split
  ·rfl
  ·split
   ·cases app' 1 out [IntKind.u8.wrap n] <;> rfl
   ·rfl
 have go : ∀ (k : Nat), k ≤ 4 → 0 < n / 2 ^ (8 * k) → size_L1 (out, n, f, (k : Int)) = size_L1 (out, n, f, ((k + 1 : Nat) : Int)) := by
  intro k hk hz
  rw [size_L1]
  simp only [sh k hk, Option.bind_eq_bind, Option.bind_some]
  rw [if_pos hz, wrap64 (by omega) (by omega)]
  rfl
 rw [size]
 show size_L1 (out, n, f, ((0 : Nat) : Int)) = _
 by_cases c0 : n = 0
 ·exact fin _ (.inr (by omega)) (stop 0 (by omega) (by rw [d0]; exact c0))
 ·rw [go 0 (by omega) (by rw [d0]; omega)]
  by_cases c1 : n < 256
  ·refine fin _ ?_ (stop 1 (by omega) (by rw [d1]; omega))
   by_cases c : n < 128
   ·exact .inr c
   ·left
    refine M1.trans ?_
    unfold sizeB
    rw [if_neg (by decide), if_neg c, if_pos c1]
    congr 3
    simp only [List.cons.injEq, and_true]
    omega
  ·rw [go 1 (by omega) (by rw [d1]; omega)]
   by_cases c2 : n < 65536
   ·refine fin _ (.inl ?_) (stop 2 (by omega) (by rw [d2]; omega))
    refine M2.trans ?_
    unfold sizeB
    rw [if_neg (by decide), if_neg (by omega), if_neg c1, if_pos c2]
    congr 3
    simp only [List.cons.injEq, and_true]
    omega
   ·rw [go 2 (by omega) (by rw [d2]; omega)]
    refine fin _ (.inl ?_) (stop 3 (by omega) (by rw [d3]; omega))
    refine M3.trans ?_
    unfold sizeB
    rw [if_neg (by decide), if_neg (by omega), if_neg c1, if_neg c2, if_pos (by omega)]
    congr 3
    simp only [List.cons.injEq, and_true]
    omega
theorem identB_len (c t : Int) (b : Bool) : (identB c t b).length ≤ 4 := by
 by_cases c1 : t < 31
 ·simp [identB, c1]
 ·by_cases c2 : t < 128
  ·simp [identB, c1, c2]
  ·by_cases c3 : t < 16384
   ·simp [identB, c1, c2, c3]
   ·simp [identB, c1, c2, c3]
theorem sizeB_len (n f : Int) : (sizeB n f).length ≤ 5 := by
 unfold sizeB
 repeat' split
 all_goals simp
theorem flat_len {en : S41 → List Int} {s : S41 → Nat} : ∀ {ps : List S41}, (∀ p, p ∈ ps → (en p).length ≤ s p) → (ps.flatMap en).length ≤ (ps.map s).sum
 | [], _ => by simp
 | p :: ps, h => by
  have h1 := h p (by simp)
  have h2 := flat_len (en := en) (s := s) (ps := ps) (fun q hq => h q (by simp [hq]))
  simp only [List.flatMap_cons, List.length_append, List.map_cons, List.sum_cons]
  omega
def tailP (f : Int) (body : List Int) : List Int := if f = 1 then 128 :: (body ++ [0, 0]) else sizeB body.length f ++ body
theorem encP_tail (n : Nat) (f : Int) (x : S41) : encP (n + 1) f x = identB x.c0 x.c1 x.c2 ++ tailP (if x.c2 = false ∧ f ≠ 2 then 0 else f) (x.c3 ++ x.c4.flatMap (encP n (if x.c2 = false ∧ f ≠ 2 then 0 else f))) := by
 rw [encP]
 generalize (if x.c2 = false ∧ f ≠ 2 then 0 else f) = f'
 unfold tailP
 by_cases c1 : f' = 1
 ·subst c1; rw [if_pos rfl]
 ·rw [if_neg c1, if_neg c1]
theorem tailP_len (f : Int) (body : List Int) : (tailP f body).length ≤ body.length + 5 := by
 have := sizeB_len (body.length : Int) f
 unfold tailP
 by_cases c1 : f = 1
 ·rw [if_pos c1]; simp
 ·rw [if_neg c1, List.length_append]; omega
theorem encP_len : ∀ (n : Nat) (f : Int) (x : S41), Gd n x → (encP n f x).length ≤ wt n x
 | 0, f, x, h => h.elim
 | n + 1, f, x, h => by
  obtain ⟨_, _, _, _, _, _, hp⟩ := h
  have hf : ∀ g, (x.c4.flatMap (encP n g)).length ≤ (x.c4.map (wt n)).sum := fun g => flat_len (fun p hpm => encP_len n g p (hp p hpm))
  have h1 := identB_len x.c0 x.c1 x.c2
  rw [encP_tail, wt]
  generalize (if x.c2 = false ∧ f ≠ 2 then 0 else f) = f'
  have h2 := tailP_len f' (x.c3 ++ x.c4.flatMap (encP n f'))
  have := hf f'
  simp only [List.length_append] at h2 ⊢
  omega
theorem appL {out m : List Int} (h : out.length + m.length ≤ 1099511627776) : app' 1 out m = some (out ++ m) := app_ok (by omega)
theorem clip_eq (l : List Int) : clip l = some l := by
 rw [clip, sub_to l l.length (Nat.le_refl _), List.take_length]
 rfl
theorem encode_1_loop {n : Nat} {f : Int} {out : List Int} (ps : List S41) (hf : f = 0 ∨ f = 1 ∨ f = 2) (ho : out.length ≤ 1000000) (hk : ∀ p, p ∈ ps → ∀ content : List Int, content.length + wt n p ≤ 1000000 → encode_1 (content, p.c0, p.c1, p.c2, p.c3, p.c4, f) = some (content ++ encP n f p)) (hg : ∀ p, p ∈ ps → Gd n p) (hl : ps.length < 9223372036854775808) : ∀ (m i : Nat) (content : List Int), i + m = ps.length → content.length + ((ps.drop i).map (wt n)).sum ≤ 1000000 →
  encode_1_L3 (out, f, content, ps, (ps.length : Int), (i : Int)) = some (out ++ tailP f (content ++ (ps.drop i).flatMap (encP n f)))
 | 0, i, content, h, hc => by
  rw [List.drop_of_length_le (by omega)] at hc ⊢
  simp only [List.map_nil, List.sum_nil, List.flatMap_nil, List.append_nil] at hc ⊢
  rw [encode_1_L3]
  simp only
  rw [if_neg (by omega)]
  unfold tailP
  by_cases c1 : f = 1
  ·rw [if_pos c1, if_pos c1, app1 _ (by omega)]
   simp only [Option.bind_eq_bind, Option.bind_some]
   rw [appL (by rw [List.length_append, List.length_singleton]; omega)]
   simp only [Option.bind_some]
   split
   ·rename_i h0
    have := List.eq_nil_of_length_eq_zero h0
    subst this
    rw [encode_1_L4, appL (by rw [List.length_append, List.length_singleton]; simp; omega)]
    simp
   ·rw [encode_1_L4, appL (by rw [List.length_append, List.length_append, List.length_singleton]; simp; omega)]
    simp
  ·rw [if_neg c1, if_neg c1, size_eq out _ f (by omega) (by omega) (by omega) (by omega)]
   simp only [Option.bind_eq_bind, Option.bind_some]
   have := sizeB_len (content.length : Int) f
   rw [appL (by rw [List.length_append]; omega)]
   simp only [Option.bind_some, encode_1_L5]
   split
   ·rename_i h0
    have := List.eq_nil_of_length_eq_zero h0
    subst this
    simp
   ·simp
 | m + 1, i, content, h, hc => by
  obtain ⟨x, hx⟩ : ∃ p, ps[i]? = some p := ⟨_, List.getElem?_eq_getElem (by omega)⟩
  have hdx : ps.drop i = x :: ps.drop (i + 1) := by
   obtain ⟨hi, rfl⟩ := List.getElem?_eq_some_iff.1 hx
   exact List.drop_eq_getElem_cons hi
  have hxm := List.mem_of_getElem? hx
  have hlen := encP_len n f x (hg x hxm)
  rw [hdx] at hc ⊢
  simp only [List.map_cons, List.sum_cons, List.flatMap_cons] at hc ⊢
  rw [encode_1_L3]
  simp only
  rw [if_pos (by omega), at'_get hx]
  simp only [Option.bind_eq_bind, Option.bind_some]
  rw [hk x hxm content (by omega)]
  simp only [Option.bind_some]
  rw [wrap64 (by omega) (by omega), show ((i : Int) + 1) = ((i + 1 : Nat) : Int) by omega, encode_1_loop ps hf ho hk hg hl m (i + 1) _ (by omega) (by rw [List.length_append]; omega), List.append_assoc]
theorem encode_1_step {n : Nat} (x : S41) (f : Int) (out : List Int) (h : Gd (n + 1) x) (hf : f = 0 ∨ f = 1 ∨ f = 2) (hl : out.length + wt (n + 1) x ≤ 1000000)
  (hk : ∀ g : Int, (g = 0 ∨ g = 1 ∨ g = 2) → ∀ p, p ∈ x.c4 → ∀ content : List Int, content.length + wt n p ≤ 1000000 → encode_1 (content, p.c0, p.c1, p.c2, p.c3, p.c4, g) = some (content ++ encP n g p)) (hout : True) : encode_1 (out, x.c0, x.c1, x.c2, x.c3, x.c4, f) = some (out ++ encP (n + 1) f x) := by
 have hx := h
 obtain ⟨h0, h1, h2, h3, h4, h5, hp⟩ := h
 have hlen4 := hx.len
 have hsw := sz_wt (n + 1) x
 rw [wt] at hl hsw
 have hb := identB_len x.c0 x.c1 x.c2
 rw [encP_tail]
 rw [encode_1]
 simp only
 rw [identifier_1_eq _ x.c0 x.c1 x.c2 x.c3 x.c4 (by omega) h0.1 h0.2 h1.1 h1.2]
 simp only [Option.bind_eq_bind, Option.bind_some]
 obtain ⟨f', hf'⟩ : ∃ f', f' = if x.c2 = false ∧ f ≠ 2 then 0 else f := ⟨_, rfl⟩
 have hf1 : f' = 0 ∨ f' = 1 ∨ f' = 2 := by rw [hf']; split <;> simp_all
 rw [← hf', ← List.append_assoc]
 have L2 : encode_1_L2 (out ++ identB x.c0 x.c1 x.c2, f', x.c0, x.c1, x.c2, x.c3, x.c4) = some (out ++ identB x.c0 x.c1 x.c2 ++ tailP f' (x.c3 ++ x.c4.flatMap (encP n f'))) := by
  rw [encode_1_L2]
  simp only [clip_eq, Option.bind_eq_bind, Option.bind_some]
  have := encode_1_loop (n := n) (f := f') (out := out ++ identB x.c0 x.c1 x.c2) x.c4 hf1 (by rw [List.length_append]; omega) (hk f' hf1) hp (by omega) x.c4.length 0 x.c3 (by omega) (by simp only [List.drop_zero]; omega)
  rw [List.drop_zero] at this
  exact this
 have L1 : ∀ z : Bool, (z = true → f' = 0) → (z = false → f' = f) → encode_1_L1 (out ++ identB x.c0 x.c1 x.c2, f, z, x.c0, x.c1, x.c2, x.c3, x.c4) = some (out ++ identB x.c0 x.c1 x.c2 ++ tailP f' (x.c3 ++ x.c4.flatMap (encP n f'))) := by
  intro z z1 z2
  rw [encode_1_L1]
  simp only
  cases z with
  | true =>
   rw [if_pos rfl]
   have := z1 rfl
   rw [this] at L2 ⊢
   exact L2
  | false =>
   rw [if_neg (by simp)]
   have := z2 rfl
   rw [this] at L2 ⊢
   exact L2
 cases hc : x.c2 with
 | true =>
  rw [if_neg (by simp)]
  rw [hc] at L1 hf'
  exact L1 false (by simp) (fun _ => by rw [hf']; simp)
 | false =>
  rw [if_pos (by simp)]
  rw [hc] at L1 hf'
  exact L1 _ (fun hz => by rw [hf', if_pos ⟨rfl, by simpa using hz⟩]) (fun hz => by
   have hz : f = 2 := by simpa using hz
   rw [hf', if_neg (by simp [hz])])
theorem encode_1_eq : ∀ (n : Nat) (x : S41) (f : Int) (out : List Int), Gd n x → (f = 0 ∨ f = 1 ∨ f = 2) → out.length + wt n x ≤ 1000000 → encode_1 (out, x.c0, x.c1, x.c2, x.c3, x.c4, f) = some (out ++ encP n f x)
 | 0, x, f, out, h, _, _ => h.elim
 | n + 1, x, f, out, h, hf, hl => encode_1_step x f out h hf hl (fun g hg p hp content hc => encode_1_eq n p g content (h.2.2.2.2.2.2 p hp) hg hc) trivial
theorem encode_loop {n : Nat} {f : Int} {out : List Int} (ps : List S41) (hf : f = 0 ∨ f = 1 ∨ f = 2) (ho : out.length ≤ 1000000) (hk : ∀ p, p ∈ ps → ∀ content : List Int, content.length + wt n p ≤ 1000000 → encode_1 (content, p.c0, p.c1, p.c2, p.c3, p.c4, f) = some (content ++ encP n f p)) (hg : ∀ p, p ∈ ps → Gd n p) (hl : ps.length < 9223372036854775808) : ∀ (m i : Nat) (content : List Int), i + m = ps.length → content.length + ((ps.drop i).map (wt n)).sum ≤ 1000000 →
  encode_L3 (out, f, content, ps, (ps.length : Int), (i : Int)) = some (out ++ tailP f (content ++ (ps.drop i).flatMap (encP n f)))
 | 0, i, content, h, hc => by
  rw [List.drop_of_length_le (by omega)] at hc ⊢
  simp only [List.map_nil, List.sum_nil, List.flatMap_nil, List.append_nil] at hc ⊢
  rw [encode_L3]
  simp only
  rw [if_neg (by omega)]
  unfold tailP
  by_cases c1 : f = 1
  ·rw [if_pos c1, if_pos c1, app1 _ (by omega)]
   simp only [Option.bind_eq_bind, Option.bind_some]
   rw [appL (by rw [List.length_append, List.length_singleton]; omega)]
   simp only [Option.bind_some]
   split
   ·rename_i h0
    have := List.eq_nil_of_length_eq_zero h0
    subst this
    rw [encode_L4, appL (by rw [List.length_append, List.length_singleton]; simp; omega)]
    simp
   ·rw [encode_L4, appL (by rw [List.length_append, List.length_append, List.length_singleton]; simp; omega)]
    simp
  ·rw [if_neg c1, if_neg c1, size_eq out _ f (by omega) (by omega) (by omega) (by omega)]
   simp only [Option.bind_eq_bind, Option.bind_some]
   have := sizeB_len (content.length : Int) f
   rw [appL (by rw [List.length_append]; omega)]
   simp only [Option.bind_some, encode_L5]
   split
   ·rename_i h0
    have := List.eq_nil_of_length_eq_zero h0
    subst this
    simp
   ·simp
 | m + 1, i, content, h, hc => by
  obtain ⟨x, hx⟩ : ∃ p, ps[i]? = some p := ⟨_, List.getElem?_eq_getElem (by omega)⟩
  have hdx : ps.drop i = x :: ps.drop (i + 1) := by
   obtain ⟨hi, rfl⟩ := List.getElem?_eq_some_iff.1 hx
   exact List.drop_eq_getElem_cons hi
  have hxm := List.mem_of_getElem? hx
  have hlen := encP_len n f x (hg x hxm)
  rw [hdx] at hc ⊢
  simp only [List.map_cons, List.sum_cons, List.flatMap_cons] at hc ⊢
  rw [encode_L3]
  simp only
  rw [if_pos (by omega), at'_get hx]
  simp only [Option.bind_eq_bind, Option.bind_some]
  rw [hk x hxm content (by omega)]
  simp only [Option.bind_some]
  rw [wrap64 (by omega) (by omega), show ((i : Int) + 1) = ((i + 1 : Nat) : Int) by omega, encode_loop ps hf ho hk hg hl m (i + 1) _ (by omega) (by rw [List.length_append]; omega), List.append_assoc]
theorem encode_step {n : Nat} (x : S41) (f : Int) (out : List Int) (h : Gd (n + 1) x) (hf : f = 0 ∨ f = 1 ∨ f = 2) (hl : out.length + wt (n + 1) x ≤ 1000000)
  (hk : ∀ g : Int, (g = 0 ∨ g = 1 ∨ g = 2) → ∀ p, p ∈ x.c4 → ∀ content : List Int, content.length + wt n p ≤ 1000000 → encode_1 (content, p.c0, p.c1, p.c2, p.c3, p.c4, g) = some (content ++ encP n g p)) (hout : out = []) : encode (x.c0, x.c1, x.c2, x.c3, x.c4, f) = some (out ++ encP (n + 1) f x) := by
 have hx := h
 obtain ⟨h0, h1, h2, h3, h4, h5, hp⟩ := h
 have hlen4 := hx.len
 have hsw := sz_wt (n + 1) x
 rw [wt] at hl hsw
 have hb := identB_len x.c0 x.c1 x.c2
 rw [encP_tail]
 rw [encode]
 simp only
 rw [identifier_1_eq _ x.c0 x.c1 x.c2 x.c3 x.c4 (by simp) h0.1 h0.2 h1.1 h1.2]
 simp only [Option.bind_eq_bind, Option.bind_some]
 obtain ⟨f', hf'⟩ : ∃ f', f' = if x.c2 = false ∧ f ≠ 2 then 0 else f := ⟨_, rfl⟩
 have hf1 : f' = 0 ∨ f' = 1 ∨ f' = 2 := by rw [hf']; split <;> simp_all
 rw [← hf', ← List.append_assoc]
 have L2 : encode_L2 (out ++ identB x.c0 x.c1 x.c2, f', x.c0, x.c1, x.c2, x.c3, x.c4) = some (out ++ identB x.c0 x.c1 x.c2 ++ tailP f' (x.c3 ++ x.c4.flatMap (encP n f'))) := by
  rw [encode_L2]
  simp only [clip_eq, Option.bind_eq_bind, Option.bind_some]
  have := encode_loop (n := n) (f := f') (out := out ++ identB x.c0 x.c1 x.c2) x.c4 hf1 (by rw [List.length_append]; omega) (hk f' hf1) hp (by omega) x.c4.length 0 x.c3 (by omega) (by simp only [List.drop_zero]; omega)
  rw [List.drop_zero] at this
  exact this
 have L1 : ∀ z : Bool, (z = true → f' = 0) → (z = false → f' = f) → encode_L1 (out ++ identB x.c0 x.c1 x.c2, f, z, x.c0, x.c1, x.c2, x.c3, x.c4) = some (out ++ identB x.c0 x.c1 x.c2 ++ tailP f' (x.c3 ++ x.c4.flatMap (encP n f'))) := by
  intro z z1 z2
  rw [encode_L1]
  simp only
  cases z with
  | true =>
   rw [if_pos rfl]
   have := z1 rfl
   rw [this] at L2 ⊢
   exact L2
  | false =>
   rw [if_neg (by simp)]
   have := z2 rfl
   rw [this] at L2 ⊢
   exact L2
 subst hout
 cases hc : x.c2 with
 | true =>
  rw [if_neg (by simp)]
  rw [hc] at L1 hf'
  exact L1 false (by simp) (fun _ => by rw [hf']; simp)
 | false =>
  rw [if_pos (by simp)]
  rw [hc] at L1 hf'
  exact L1 _ (fun hz => by rw [hf', if_pos ⟨rfl, by simpa using hz⟩]) (fun hz => by
   have hz : f = 2 := by simpa using hz
   rw [hf', if_neg (by simp [hz])])
theorem encode_eq (n : Nat) (x : S41) (f : Int) (h : Gd (n + 1) x) (hf : f = 0 ∨ f = 1 ∨ f = 2) (hl : wt (n + 1) x ≤ 1000000) : encode (x.c0, x.c1, x.c2, x.c3, x.c4, f) = some (encP (n + 1) f x) :=
 encode_step x f [] h hf (by simpa using hl) (fun g hg p hp content hc => encode_1_eq n p g content (h.2.2.2.2.2.2 p hp) hg hc) rfl
theorem long_loop {n : Nat} (ps : List S41) (c0 c1 : Int) (c2 : Bool) (c3 : List Int) (h0 : 0 ≤ c0) (h1 : c0 < 4) (t0 : 0 ≤ c1) (t1 : c1 < 2097152) (hk : ∀ p, p ∈ ps → long (p.c0, p.c1, p.c2, p.c3, p.c4) = some ((encP n 0 p).length : Int)) (hg : ∀ p, p ∈ ps → Gd n p) (hl : ps.length < 9223372036854775808) : ∀ (m i : Nat) (acc : Nat), i + m = ps.length → acc + ((ps.drop i).map (wt n)).sum ≤ 1000000 →
  long_L1 ((acc : Int), ps, (ps.length : Int), (i : Int), c0, c1, c2, c3) = some (((identB c0 c1 c2).length + (sizeB ((acc + ((ps.drop i).flatMap (encP n 0)).length : Nat) : Int) 0).length + (acc + ((ps.drop i).flatMap (encP n 0)).length) : Nat) : Int)
 | 0, i, acc, h, hc => by
  rw [List.drop_of_length_le (by omega)] at hc ⊢
  simp only [List.map_nil, List.sum_nil, List.flatMap_nil, List.length_nil, Nat.add_zero, Nat.mul_zero] at hc ⊢
  have hb := identB_len c0 c1 c2
  have hs := sizeB_len (acc : Int) 0
  rw [long_L1]
  simp only
  rw [if_neg (by omega), identifier_eq c0 c1 c2 c3 ps h0 h1 t0 t1]
  simp only [List.nil_append, Option.bind_eq_bind, Option.bind_some]
  rw [size_eq _ _ 0 (by omega) (by omega) (by omega) (.inl rfl)]
  simp only [Option.bind_some]
  rw [wrap64 (by rw [List.length_append]; omega) (by rw [List.length_append]; omega), List.length_append]
  refine congrArg some ?_
  omega
 | m + 1, i, acc, h, hc => by
  obtain ⟨x, hx⟩ : ∃ p, ps[i]? = some p := ⟨_, List.getElem?_eq_getElem (by omega)⟩
  have hdx : ps.drop i = x :: ps.drop (i + 1) := by
   obtain ⟨hi, rfl⟩ := List.getElem?_eq_some_iff.1 hx
   exact List.drop_eq_getElem_cons hi
  have hxm := List.mem_of_getElem? hx
  have hlen := encP_len n 0 x (hg x hxm)
  rw [hdx] at hc ⊢
  simp only [List.map_cons, List.sum_cons, List.flatMap_cons, List.length_append] at hc ⊢
  rw [long_L1]
  simp only
  rw [if_pos (by omega), at'_get hx]
  simp only [Option.bind_eq_bind, Option.bind_some]
  rw [hk x hxm]
  simp only [Option.bind_some]
  rw [wrap64 (n := (i : Int) + 1) (by omega) (by omega), wrap64 (by omega) (by omega), show ((i : Int) + 1) = ((i + 1 : Nat) : Int) by omega, show ((acc : Int) + ((encP n 0 x).length : Int)) = ((acc + (encP n 0 x).length : Nat) : Int) by omega, long_loop ps c0 c1 c2 c3 h0 h1 t0 t1 hk hg hl m (i + 1) _ (by omega) (by omega), Nat.add_assoc acc]
theorem long_eq : ∀ (n : Nat) (x : S41), Gd n x → wt n x ≤ 1000000 → long (x.c0, x.c1, x.c2, x.c3, x.c4) = some ((encP n 0 x).length : Int)
 | 0, x, h, _ => h.elim
 | n + 1, x, h, hl => by
  have hx := h
  obtain ⟨h0, h1, h2, h3, h4, h5, hp⟩ := h
  have hlen4 := hx.len
  have mx := fun p hp => @wt_mem n x p hp
  have hsw := sz_wt (n + 1) x
  have hl' := hl
  rw [wt] at hl' hsw
  have hh := long_loop (n := n) x.c4 x.c0 x.c1 x.c2 x.c3 h0.1 h0.2 h1.1 h1.2 (fun p hpm => long_eq n p (hp p hpm) (by have := mx p hpm; omega)) hp (by omega) x.c4.length 0 x.c3.length (by omega) (by simp only [List.drop_zero]; omega)
  rw [List.drop_zero] at hh
  rw [long]
  refine hh.trans ?_
  have e0 : (if x.c2 = false ∧ (0 : Int) ≠ 2 then (0 : Int) else 0) = 0 := by split <;> rfl
  rw [encP_tail, e0]
  unfold tailP
  rw [if_neg (by decide)]
  simp only [List.length_append]
  refine congrArg some ?_
  omega
theorem encodeAs_eq {n : Nat} {x : S41} {f : Int} (h : Gd (n + 1) x) (hn : n + 1 ≤ 16) (hs : szG (n + 1) x ≤ 1024) (hw : wt (n + 1) x ≤ 65536) (hf : f = 0 ∨ f = 1 ∨ f = 2) : encodeAs (x.c0, x.c1, x.c2, x.c3, x.c4, f) = some (encP (n + 1) f x, 0) := by
 have h1 := encP_len (n + 1) 0 x h
 have h2 := encP_len (n + 1) f x h
 rw [encodeAs]
 simp only [h.check hn (by omega), long_eq (n + 1) x h (by omega), encode_eq n x f h hf (by omega), clip_eq, Option.bind_eq_bind, Option.bind_some]
 rw [if_neg (by simp), if_neg (by omega), if_neg (by omega), if_neg (by omega)]
theorem encB_bytes : ∀ (n : Nat) (f : Int) (x : S41), Gd n x → (f = 0 ∨ f = 1 ∨ f = 2) → wt n x ≤ 1000000 → Bys (encP n f x)
 | 0, f, x, h, _, _ => h.elim
 | n + 1, f, x, h, hf, hs => by
  have hx := h
  obtain ⟨h0, h1, h2, h3, h4, h5, hp⟩ := h
  have mx := fun p hp => @wt_mem n x p hp
  obtain ⟨f', hf'⟩ : ∃ f', f' = if x.c2 = false ∧ f ≠ 2 then 0 else f := ⟨_, rfl⟩
  have hf1 : f' = 0 ∨ f' = 1 ∨ f' = 2 := by rw [hf']; split <;> simp_all
  have hbody : Bys (x.c3 ++ x.c4.flatMap (encP n f')) := by
   intro b hb
   rcases List.mem_append.1 hb with hb | hb
   ·exact h5 b hb
   ·obtain ⟨p, hpm, hb⟩ := List.mem_flatMap.1 hb
    exact encB_bytes n f' p (hp p hpm) hf1 (by have := mx p hpm; omega) b hb
  have hid : Bys (identB x.c0 x.c1 x.c2) := by
   have hq : (if x.c2 = true then (32 : Int) else 0) = 0 ∨ (if x.c2 = true then (32 : Int) else 0) = 32 := by cases x.c2 <;> simp
   unfold identB
   generalize (if x.c2 = true then (32 : Int) else 0) = q at hq
   intro b hb
   split at hb
   ·simp only [List.mem_singleton] at hb
    omega
   ·rcases List.mem_cons.1 hb with hb | hb
    ·omega
    ·split at hb
     ·simp only [List.mem_singleton] at hb; omega
     ·split at hb
      ·simp only [List.mem_cons, List.not_mem_nil, or_false] at hb
       omega
      ·simp only [List.mem_cons, List.not_mem_nil, or_false] at hb
       omega
  have hlen : (x.c3 ++ x.c4.flatMap (encP n f')).length ≤ 1000000 := by
   have := encP_len (n + 1) f x hx
   rw [encP_tail, ← hf'] at this
   unfold tailP at this
   split at this
   ·simp only [List.length_append, List.length_cons] at this ⊢
    omega
   ·simp only [List.length_append] at this ⊢
    omega
  rw [encP_tail, ← hf']
  intro b hb
  rcases List.mem_append.1 hb with hb | hb
  ·exact hid b hb
  ·unfold tailP at hb
   split at hb
   ·rcases List.mem_cons.1 hb with hb | hb
    ·omega
    ·rcases List.mem_append.1 hb with hb | hb
     ·exact hbody b hb
     ·simp only [List.mem_cons, List.not_mem_nil, or_false] at hb
      omega
   ·rcases List.mem_append.1 hb with hb | hb
    ·generalize hN : ((x.c3 ++ x.c4.flatMap (encP n f')).length : Int) = N at hb
     have hN0 : 0 ≤ N ∧ N ≤ 1000000 := by omega
     unfold sizeB at hb
     split at hb
     ·simp only [List.mem_cons, List.not_mem_nil, or_false] at hb
      omega
     ·split at hb
      ·simp only [List.mem_singleton] at hb; omega
      ·split at hb
       ·simp only [List.mem_cons, List.not_mem_nil, or_false] at hb; omega
       ·split at hb
        ·simp only [List.mem_cons, List.not_mem_nil, or_false] at hb; omega
        ·split at hb
         ·simp only [List.mem_cons, List.not_mem_nil, or_false] at hb; omega
         ·simp only [List.mem_cons, List.not_mem_nil, or_false] at hb; omega
    ·exact hbody b hb
theorem bigN_mono : ∀ (l : List Int) (a : Int), 0 ≤ a → Bys l → a ≤ bigN a l
 | [], a, _, _ => Int.le_refl _
 | x :: l, a, h, hb => by
  have hx := hb x (by simp)
  have := bigN_mono l (a * 256 + x) (by omega) (fun y hy => hb y (by simp [hy]))
  rw [bigN]
  omega
section
variable {n : Nat} (ih : ∀ (c : Int) (r : List Int) (x : S41) (c' : Int) (s : List Int), Bys r → r.length ≤ 65536 → 0 ≤ c → elemL n c r = .ok ((x, c'), s) → Gd n x ∧ c' = c + szG n x ∧ c' ≤ 1024 ∧ (encP n 0 x).length + s.length ≤ r.length)
include ih
end
theorem shi (t : Int) (s : Nat) (h : s ≤ 64) : shrI .i64 t (s : Int) = t / 2 ^ s := by
 unfold shrI
 rw [show min ((s : Int)).toNat IntKind.i64.bits = s by show min _ 64 = s; omega, fd _ _ (by exact_mod_cast Nat.zero_le _)]
theorem or8w {n b : Int} (h0 : -36028797018963968 ≤ n) (h1 : n < 36028797018963968) (b0 : 0 ≤ b) (b1 : b < 256) : bOr .i64 (shlI .i64 n 8) (IntKind.i64.wrap b) = n * 256 + b := by
 rw [wrap64 (n := b) (by omega) (by omega)]
 have e1 : shlI .i64 n 8 = n * 256 := by
  unfold shlI
  rw [show (2 : Int) ^ min (8 : Int).toNat IntKind.i64.bits = 256 by decide]
  exact wrap64 (by omega) (by omega)
 rw [e1]
 obtain ⟨B, rfl⟩ := Int.eq_ofNat_of_zero_le b0
 by_cases hn : 0 ≤ n
 ·obtain ⟨N, rfl⟩ := Int.eq_ofNat_of_zero_le hn
  have e2 : ((N : Int) * 256) = ((N * 2 ^ 8 : Nat) : Int) := by omega
  rw [e2, or_nat .i64 _ _ (by show _ < 2 ^ 64; omega) (by show _ < 2 ^ 64; omega), or_shl _ _ _ (by omega), wrap64 (by omega) (by omega)]
  omega
 ·obtain ⟨N, hN⟩ := Int.eq_ofNat_of_zero_le (show 0 ≤ n + 72057594037927936 by omega)
  have e2 : BitVec.ofInt IntKind.i64.bits (n * 256) = BitVec.ofNat IntKind.i64.bits (N * 2 ^ 8) := by
   apply BitVec.eq_of_toNat_eq
   rw [BitVec.toNat_ofInt, BitVec.toNat_ofNat]
   show (n * 256 % ((18446744073709551616 : Nat) : Int)).toNat = N * 2 ^ 8 % 18446744073709551616
   omega
  unfold bOr
  rw [e2, BitVec.ofInt_natCast, BitVec.toNat_or, BitVec.toNat_ofNat, BitVec.toNat_ofNat, Nat.mod_eq_of_lt (show N * 2 ^ 8 < 2 ^ IntKind.i64.bits by show _ < 2 ^ 64; omega), Nat.mod_eq_of_lt (show B < 2 ^ IntKind.i64.bits by show _ < 2 ^ 64; omega), or_shl _ _ _ (by omega)]
  unfold IntKind.wrap
  simp only [IntKind.bits, IntKind.signed, Bool.true_and]
  split <;> rename_i h <;> simp at h <;> omega
def intP (n : Int) : List Int :=
 if n < 128 then [n]
 else if n < 32768 then [n / 256 % 256, n % 256]
 else if n < 8388608 then [n / 65536 % 256, n / 256 % 256, n % 256]
 else if n < 2147483648 then [n / 16777216 % 256, n / 65536 % 256, n / 256 % 256, n % 256]
 else [n / 4294967296 % 256, n / 16777216 % 256, n / 65536 % 256, n / 256 % 256, n % 256]
theorem intP_bys {n : Int} (h0 : 0 ≤ n) : Bys (intP n) := by
 intro b hb
 unfold intP at hb
 repeat' split at hb
 all_goals simp at hb; omega
theorem intP_len (n : Int) : (intP n).length ≤ 5 := by
 unfold intP
 repeat' split
 all_goals simp
theorem intC_eq {n : Int} (h0 : 0 ≤ n) (h1 : n < 4294967296) : intC n = some (intP n) := by
 have s7 : shrI .i64 n 7 = n / 128 := by simpa using shi n 7 (by omega)
 have s15 : shrI .i64 n 15 = n / 32768 := by simpa using shi n 15 (by omega)
 have s23 : shrI .i64 n 23 = n / 8388608 := by simpa using shi n 23 (by omega)
 have s31 : shrI .i64 n 31 = n / 2147483648 := by simpa using shi n 31 (by omega)
 have s39 : shrI .i64 n 39 = n / 549755813888 := by simpa using shi n 39 (by omega)
 have s8 : shrI .i64 n 8 = n / 256 := by simpa using shi n 8 (by omega)
 have s16 : shrI .i64 n 16 = n / 65536 := by simpa using shi n 16 (by omega)
 have s24 : shrI .i64 n 24 = n / 16777216 := by simpa using shi n 24 (by omega)
 have s32 : shrI .i64 n 32 = n / 4294967296 := by simpa using shi n 32 (by omega)
 have s0 : shrI .i64 n 0 = n := by simpa using shi n 0 (by omega)
 rw [intC]
 simp only [s0, s7, s15, s23, s31, s39, s8, s16, s24, s32, wrapM]
 unfold intP
 by_cases c1 : n < 128
 ·rw [if_neg (by simp; omega), if_pos c1]
  congr 2; omega
 rw [if_pos (by simp; omega), if_pos (by simp; omega), if_neg c1]
 by_cases c2 : n < 32768
 ·rw [if_neg (by simp; omega), if_pos c2]
 rw [if_pos (by simp; omega), if_pos (by simp; omega), if_neg c2]
 by_cases c3 : n < 8388608
 ·rw [if_neg (by simp; omega), if_pos c3]
 rw [if_pos (by simp; omega), if_pos (by simp; omega), if_neg c3]
 by_cases c4 : n < 2147483648
 ·rw [if_neg (by simp; omega), if_pos c4]
 rw [if_pos (by simp; omega), if_pos (by simp; omega), if_neg c4, if_neg (by simp; omega)]
def s8 (x : Int) : Int := if x < 128 then x else x - 256
theorem s8_eq {x : Int} (h0 : 0 ≤ x) (h1 : x < 256) : IntKind.i64.wrap (IntKind.i8.wrap x) = s8 x := by
 have e : IntKind.i8.wrap x = s8 x := by
  unfold IntKind.wrap s8
  simp only [IntKind.bits, IntKind.signed, Bool.true_and]
  split <;> rename_i h <;> simp at h <;> split <;> omega
 rw [e]
 unfold s8
 split <;> exact wrap64 (by omega) (by omega)
theorem toL2 (l : List Int) (hb : Bys l) (hl : l.length ≤ 7) : ∀ (m i : Nat) (a : Int), i + m = l.length → -(128 * 256 ^ i) ≤ a → a < 128 * 256 ^ i → toInt_L2 (a, l, (l.length : Int), (i : Int)) = some (bigN a (l.drop i), 0)
 | 0, i, a, h, _, _ => by
  rw [toInt_L2]
  simp only
  rw [if_neg (by omega), List.drop_of_length_le (by omega)]
  rfl
 | m + 1, i, a, h, h0, h1 => by
  obtain ⟨y, hy⟩ : ∃ p, l[i]? = some p := ⟨_, List.getElem?_eq_getElem (by omega)⟩
  have hd : l.drop i = y :: l.drop (i + 1) := by
   obtain ⟨hi, rfl⟩ := List.getElem?_eq_some_iff.1 hy
   exact List.drop_eq_getElem_cons hi
  have hyb := hb y (List.mem_of_getElem? hy)
  have hp : (256 : Int) ^ i ≤ 281474976710656 := by
   have : i ≤ 6 := by omega
   match i, this with
   | 0, _ => decide
   | 1, _ => decide
   | 2, _ => decide
   | 3, _ => decide
   | 4, _ => decide
   | 5, _ => decide
   | 6, _ => decide
  rw [toInt_L2]
  simp only
  rw [if_pos (by omega), at'_get hy]
  simp only [Option.bind_eq_bind, Option.bind_some]
  rw [or8w (by omega) (by omega) hyb.1 hyb.2, wrap64 (by omega) (by omega)]
  have := toL2 l hb hl m (i + 1) (a * 256 + y) (by omega) (by rw [Int.pow_succ]; omega) (by rw [Int.pow_succ]; omega)
  rw [show ((i : Int) + 1) = ((i + 1 : Nat) : Int) by omega, this, hd]
  rfl
def dupB : List Int → Bool
 | x :: y :: _ => (decide (x = 0) && decide (y < 128)) || (decide (x = 255) && decide (128 ≤ y))
 | _ => false
theorem at0 {α : Type} (x : α) (l : List α) : at' (x :: l) 0 = some x := at'_get (i := 0) rfl
theorem at1 {α : Type} (x y : α) (l : List α) : at' (x :: y :: l) 1 = some y := at'_get (i := 1) rfl
theorem subs {α : Type} (x : α) (l : List α) : sub' (x :: l) 1 ((x :: l).length : Int) = some l := by
 have := sub_from (x :: l) 1 (by simp)
 simpa using this
theorem toInt_shape (x : Int) (l : List Int) : toInt (x :: l) = toInt_L1 (x :: l, dupB (x :: l)) := by
 rw [toInt, if_neg (by simp; omega)]
 cases l with
 | nil => rw [if_neg (by simp)]; rfl
 | cons y l =>
  rw [if_pos (by simp; omega)]
  simp only [at0, at1, Option.bind_eq_bind, Option.bind_some, dupB]
  by_cases c1 : x = 0
  ·rw [if_pos c1]
   subst c1
   by_cases c2 : y < 128
   ·rw [if_pos c2]; simp [c2]
   ·rw [if_neg c2, if_neg (by decide)]; simp [c2]
  ·rw [if_neg c1]
   by_cases c3 : x = 255
   ·rw [if_pos c3]; simp [c3]
   ·rw [if_neg c3]; simp [c1, c3]
theorem toInt_of {x : Int} {l : List Int} (hb : Bys (x :: l)) (hl : l.length ≤ 7) (hd : dupB (x :: l) = false) : toInt (x :: l) = some (bigN (s8 x) l, 0) := by
 have hx := hb x (by simp)
 rw [toInt_shape, hd, toInt_L1]
 simp only
 rw [if_neg (by simp), if_neg (by simp; omega), at0]
 simp only [Option.bind_eq_bind, Option.bind_some]
 rw [subs]
 simp only [Option.bind_some]
 rw [s8_eq hx.1 hx.2]
 exact toL2 l (fun b h => hb b (by simp [h])) hl l.length 0 (s8 x) (by omega) (by unfold s8; split <;> simp <;> omega) (by unfold s8; split <;> simp <;> omega)
theorem toInt_cases (c : List Int) (hb : Bys c) : (∃ e, e ≠ 0 ∧ toInt c = some (0, e)) ∨ ∃ x l, c = x :: l ∧ l.length ≤ 7 ∧ dupB c = false ∧ toInt c = some (bigN (s8 x) l, 0) := by
 cases c with
 | nil => exact .inl ⟨4, by decide, by rw [toInt, if_pos (by simp)]⟩
 | cons x l =>
  cases hd : dupB (x :: l) with
  | true => exact .inl ⟨4, by decide, by rw [toInt_shape, hd, toInt_L1, if_pos rfl]⟩
  | false =>
   by_cases hl : l.length ≤ 7
   ·exact .inr ⟨x, l, rfl, hl, rfl, toInt_of hb hl hd⟩
   ·exact .inl ⟨3, by decide, by rw [toInt_shape, hd, toInt_L1, if_neg (by simp), if_pos (by simp; omega)]⟩
theorem toInt_some (c : List Int) (hb : Bys c) : ∃ v e, toInt c = some (v, e) := by
 rcases toInt_cases c hb with ⟨e, _, h⟩ | ⟨x, l, _, _, _, h⟩
 ·exact ⟨_, _, h⟩
 ·exact ⟨_, _, h⟩
theorem toInt_intP {n : Int} (h0 : 0 ≤ n) (h1 : n < 4294967296) : toInt (intP n) = some (n, 0) := by
 have hb := intP_bys h0
 unfold intP at hb ⊢
 by_cases c1 : n < 128
 ·rw [if_pos c1] at hb ⊢
  rw [toInt_of hb (by simp) rfl]
  simp [bigN, s8, c1]
 rw [if_neg c1] at hb ⊢
 by_cases c2 : n < 32768
 ·rw [if_pos c2] at hb ⊢
  rw [toInt_of hb (by simp) (by simp [dupB]; omega)]
  simp [bigN, s8]; rw [if_pos (by omega)]; omega
 rw [if_neg c2] at hb ⊢
 by_cases c3 : n < 8388608
 ·rw [if_pos c3] at hb ⊢
  rw [toInt_of hb (by simp) (by simp [dupB]; omega)]
  simp [bigN, s8]; rw [if_pos (by omega)]; omega
 rw [if_neg c3] at hb ⊢
 by_cases c4 : n < 2147483648
 ·rw [if_pos c4] at hb ⊢
  rw [toInt_of hb (by simp) (by simp [dupB]; omega)]
  simp [bigN, s8]; rw [if_pos (by omega)]; omega
 rw [if_neg c4] at hb ⊢
 rw [toInt_of hb (by simp) (by simp [dupB]; omega)]
 simp [bigN, s8]; rw [if_pos (by omega)]; omega
theorem bigN_neg : ∀ (l : List Int) (a : Int), a ≤ -1 → Bys l → bigN a l ≤ -1
 | [], a, h, _ => h
 | x :: l, a, h, hb => by
  have hx := hb x (by simp)
  exact bigN_neg l (a * 256 + x) (by omega) (fun b h => hb b (by simp [h]))
theorem intP_of {c : List Int} {n : Int} (hb : Bys c) (h : toInt c = some (n, 0)) (h0 : 0 ≤ n) (h1 : n < 4294967296) : c = intP n := by
 rcases toInt_cases c hb with ⟨e, he, h2⟩ | ⟨x, l, rfl, hl, hd, h2⟩
 ·rw [h2] at h
  simp at h
  exact absurd h.2 he
 rw [h2] at h
 simp only [Option.some.injEq, Prod.mk.injEq, and_true] at h
 have hx := hb x (by simp)
 have hbl : Bys l := fun b h => hb b (by simp [h])
 have hs : x < 128 := by
  by_cases c : x < 128
  ·exact c
  ·have := bigN_neg l (s8 x) (by unfold s8; rw [if_neg c]; omega) hbl
   omega
 rw [show s8 x = x by unfold s8; rw [if_pos hs]] at h
 match l, hbl, hd, h with
 | [], _, hd, h =>
  simp only [bigN] at h
  unfold intP
  rw [if_pos (by omega), h]
 | [a], hbl, hd, h =>
  have ha := hbl a (by simp)
  simp only [bigN] at h
  simp [dupB] at hd
  unfold intP
  rw [if_neg (by omega), if_pos (by omega)]
  simp only [List.cons.injEq, and_true]
  omega
 | [a, b], hbl, hd, h =>
  have ha := hbl a (by simp); have hb' := hbl b (by simp)
  simp only [bigN] at h
  simp [dupB] at hd
  unfold intP
  rw [if_neg (by omega), if_neg (by omega), if_pos (by omega)]
  simp only [List.cons.injEq, and_true]
  omega
 | [a, b, c], hbl, hd, h =>
  have ha := hbl a (by simp); have hb' := hbl b (by simp); have hc := hbl c (by simp)
  simp only [bigN] at h
  simp [dupB] at hd
  unfold intP
  rw [if_neg (by omega), if_neg (by omega), if_neg (by omega), if_pos (by omega)]
  simp only [List.cons.injEq, and_true]
  omega
 | [a, b, c, d], hbl, hd, h =>
  have ha := hbl a (by simp); have hb' := hbl b (by simp); have hc := hbl c (by simp); have hd' := hbl d (by simp)
  simp only [bigN] at h
  simp [dupB] at hd
  unfold intP
  rw [if_neg (by omega), if_neg (by omega), if_neg (by omega), if_neg (by omega)]
  simp only [List.cons.injEq, and_true]
  omega
 | a :: b :: c :: d :: e :: l, hbl, hd, h =>
  have ha := hbl a (by simp); have hb' := hbl b (by simp); have hc := hbl c (by simp); have hd' := hbl d (by simp); have he := hbl e (by simp)
  simp only [bigN] at h
  simp [dupB] at hd
  have := bigN_mono l (((((x * 256 + a) * 256 + b) * 256 + c) * 256 + d) * 256 + e) (by omega) (fun b h => hbl b (by simp [h]))
  omega
theorem S41.eta (x : S41) : x = ⟨x.c0, x.c1, x.c2, x.c3, x.c4⟩ := by cases x; rfl
theorem szG_le {n m : Nat} {x : S41} (h : Gd n x) (hm : n ≤ m) : szG m x = szG n x := by
 induction m with
 | zero => have : n = 0 := by omega
           subst this; rfl
 | succ m ih =>
  by_cases e : n = m + 1
  ·subst e; rfl
  ·rw [szG_succ (h.le (by omega)), ih (by omega)]
theorem wt_le {n m : Nat} {x : S41} (h : Gd n x) (hm : n ≤ m) : wt m x = wt n x := by
 induction m with
 | zero => have : n = 0 := by omega
           subst this; rfl
 | succ m ih =>
  by_cases e : n = m + 1
  ·subst e; rfl
  ·rw [wt_succ (h.le (by omega)), ih (by omega)]
def NoZ {β : Type} (g : Ps β) : Prop := ∀ r e, g r = .error e → e ≠ 0
theorem NoZ.pure {β : Type} (x : β) : NoZ (Ps.pure x) := fun r e h => by simp [Ps.pure] at h
theorem NoZ.fail {β : Type} {n : Int} (hn : n ≠ 0) : NoZ (Ps.fail n : Ps β) := fun r e h => by simp [Ps.fail] at h; omega
theorem NoZ.bind {α β : Type} {g : Ps α} {h : α → Ps β} (hg : NoZ g) (hh : ∀ x, NoZ (h x)) : NoZ (Ps.bind g h) := by
 intro r e he
 unfold Ps.bind at he
 split at he
 ·rename_i e' hq
  simp at he
  exact he ▸ hg _ _ hq
 ·exact hh _ _ _ he
theorem NoZ.byte : NoZ byteP := by
 intro r e h
 cases r with
 | nil => simp [byteP] at h; omega
 | cons b s => simp [byteP] at h
theorem NoZ.take (n : Nat) : NoZ (takeP n) := by
 intro r e h
 unfold takeP at h
 split at h
 ·simp at h; omega
 ·simp at h
theorem NoZ.must (p : Bool) {n : Int} (hn : n ≠ 0) : NoZ (mustP p n) := by
 unfold mustP
 split
 ·exact NoZ.pure _
 ·exact NoZ.fail hn
theorem NoZ.ite {β : Type} {c : Prop} [Decidable c] {g h : Ps β} (hg : NoZ g) (hh : NoZ h) : NoZ (if c then g else h) := by
 split
 ·exact hg
 ·exact hh
theorem NoZ.num : ∀ k first n, NoZ (numL k first n)
 | 0, _, _ => NoZ.fail (by decide)
 | k + 1, first, n => NoZ.byte.bind fun b => (NoZ.must _ (by decide)).bind fun _ => (NoZ.must _ (by decide)).bind fun _ => NoZ.ite ((NoZ.must _ (by decide)).bind fun _ => NoZ.pure _) (NoZ.num k _ _)
theorem NoZ.len (b2 : Bool) : NoZ (lenL b2) := NoZ.byte.bind fun b => NoZ.ite (NoZ.pure _) (NoZ.ite ((NoZ.must _ (by decide)).bind fun _ => NoZ.pure _) ((NoZ.must _ (by decide)).bind fun _ => (NoZ.take _).bind fun _ => NoZ.pure _))
theorem NoZ.openL {g : Int → Ps (S41 × Int)} (hg : ∀ c, NoZ (g c)) : ∀ k c acc, NoZ (openL g k c acc)
 | 0, _, _ => NoZ.fail (by decide)
 | k + 1, c, acc => by
  intro r e h
  unfold Vf.openL at h
  cases r with
  | nil => simp at h; omega
  | cons b s =>
   simp only at h
   split at h
   ·exact ((NoZ.take 2).bind fun l => (NoZ.must _ (by decide)).bind fun _ => NoZ.pure _) _ _ h
   ·exact ((hg c).bind fun x => NoZ.openL hg k _ _) _ _ h
theorem NoZ.fullL {g : Int → Ps (S41 × Int)} (hg : ∀ c, NoZ (g c)) : ∀ k c acc r e, fullL g k c acc r = .error e → e ≠ 0
 | 0, _, _, _, e, h => by simp [Vf.fullL] at h; omega
 | k + 1, c, acc, r, e, h => by
  unfold Vf.fullL at h
  split at h
  ·simp at h
  ·split at h
   ·rename_i e' hq
    simp at h
    exact h ▸ hg _ _ _ hq
   ·exact NoZ.fullL hg k _ _ _ _ h
theorem NoZ.ofE {β : Type} {x : Except Int β} (hx : ∀ e, x = .error e → e ≠ 0) : NoZ (ofE x) := by
 cases x with
 | error e => exact NoZ.fail (hx e rfl)
 | ok y => exact NoZ.pure y
theorem NoZ.elem : ∀ n c, NoZ (elemL n c)
 | 0, _ => NoZ.fail (by decide)
 | n + 1, c => by
  refine (NoZ.must _ (by decide)).bind fun _ => NoZ.byte.bind fun b => (NoZ.ite (NoZ.num _ _ _) (NoZ.pure _)).bind fun tag => (NoZ.must _ (by decide)).bind fun _ => (NoZ.len _).bind fun m => ?_
  cases m with
  | none => exact (NoZ.openL (fun c => NoZ.elem n c) _ _ _).bind fun p => NoZ.pure _
  | some m =>
   refine (NoZ.take _).bind fun l => NoZ.ite ?_ (NoZ.pure _)
   exact NoZ.bind (NoZ.ofE (fun e h => NoZ.fullL (fun c => NoZ.elem n c) _ _ _ _ _ h)) fun p => NoZ.pure _
theorem bytes_inj {a b : List Int} (ha : Bys a) (hb : Bys b) (h : strEq (bytesU a) (bytesU b) = true) : a = b := by
 unfold strEq at h
 rw [beq_iff_eq, bal, bal] at h
 have h' : (a.map fun n => UInt8.ofNat n.toNat) = (b.map fun n => UInt8.ofNat n.toNat) := by simpa [bytesU] using h
 have hl : a.length = b.length := by simpa using congrArg List.length h'
 refine List.ext_getElem hl fun i h1 h2 => ?_
 have e : (a.map fun n => UInt8.ofNat n.toNat)[i]? = (b.map fun n => UInt8.ofNat n.toNat)[i]? := by rw [h']
 rw [List.getElem?_map, List.getElem?_map, List.getElem?_eq_getElem h1, List.getElem?_eq_getElem h2] at e
 simp only [Option.map_some, Option.some.injEq] at e
 have e2 := congrArg UInt8.toNat e
 have x1 := ha _ (List.getElem_mem h1)
 have x2 := hb _ (List.getElem_mem h2)
 simp at e2
 omega
theorem eqB_eq : ∀ (n : Nat) (x y : S41), Gd n x → Gd n y → eqB n x y = true → x = y
 | 0, _, _, h, _, _ => h.elim
 | n + 1, x, y, hx, hy, h => by
  obtain ⟨_, _, _, _, _, bx, px⟩ := hx
  obtain ⟨_, _, _, _, _, yb, py⟩ := hy
  rw [eqB] at h
  simp only [Bool.and_eq_true, decide_eq_true_eq, beq_iff_eq] at h
  obtain ⟨⟨⟨⟨⟨h0, h1⟩, h2⟩, h3⟩, h4⟩, h5⟩ := h
  have e3 := bytes_inj bx yb h3
  have e4 : x.c4 = y.c4 := by
   refine List.ext_getElem h4 fun i i1 i2 => ?_
   rw [List.all_eq_true] at h5
   have hm : (x.c4[i], y.c4[i]) ∈ x.c4.zip y.c4 := by
    have : (x.c4.zip y.c4)[i]? = some (x.c4[i], y.c4[i]) := by
     rw [List.getElem?_zip_eq_some]
     exact ⟨List.getElem?_eq_getElem i1, List.getElem?_eq_getElem i2⟩
    exact List.mem_of_getElem? this
   exact eqB_eq n _ _ (px _ (List.getElem_mem i1)) (py _ (List.getElem_mem i2)) (h5 _ hm)
  rw [S41.eta x, S41.eta y, h0, h1, h2, e3, e4]
theorem strEq_self (a : ByteArray) : strEq a a = true := by simp [strEq]
end Vf
set_option linter.unusedVariables false
set_option linter.unusedSimpArgs false
namespace Vf
open Go Go.Vx
theorem tm_bound (b n : Int) (hn : 0 < n) : -n < Int.tmod b n ∧ Int.tmod b n < n := by
 have h1 := Int.tmod_lt_of_pos b hn
 have h2 := Int.tmod_lt_of_pos (-b) hn
 rw [Int.neg_tmod] at h2
 omega
theorem L6_false (l : List S30) (d next i b0 b1 : Int) (b2 : Bool) (b3 : List Int) (b4 c0 c1 : Int) (acc : List S41) : grown_L6 (l, d, next, i, false, b0, b1, b2, b3, b4, c0, c1, acc) = some (c0, c1, b2, [], acc, next) := by
 rw [grown_L6]
 simp
def okN (y : S30) : Prop := (0 ≤ y.c0 ∧ y.c0 < 256) ∧ (0 ≤ y.c1 ∧ y.c1 < 4294967296) ∧ (∀ b, b ∈ y.c3 → 0 ≤ b ∧ b < 256) ∧ (0 ≤ y.c4 ∧ y.c4 < 256)
theorem grown_all (l : List S30) (hok : ∀ y, y ∈ l → okN y) : ∀ (j : Nat),
  (∀ at_ d : Nat, 40 - at_ ≤ j → at_ < l.length → at_ < 40 → 1 ≤ d → d ≤ 10 → ∃ t0 t1 t2 t3 t4, ∃ nx : Nat, grown (l, (at_ : Int), (d : Int)) = some (t0, t1, t2, t3, t4, (nx : Int)) ∧ (Gd (11 - d) ⟨t0, t1, t2, t3, t4⟩ ∧ Sm (11 - d) ⟨t0, t1, t2, t3, t4⟩) ∧ szG (11 - d) ⟨t0, t1, t2, t3, t4⟩ + at_ ≤ nx ∧ nx ≤ 40) ∧
  (∀ (d next i : Nat) (b0 b1 : Int) (b2 : Bool) (b3 : List Int) (b4 c0 c1 : Int) (acc : List S41), 40 - next ≤ j → next ≤ 40 → 1 ≤ d → d ≤ 10 → acc.length ≤ next → ∃ acc', ∃ nx : Nat,
   grown_L5 (l, (d : Int), (next : Int), (i : Int), b0, b1, b2, b3, b4, c0, c1, acc) = some (c0, c1, b2, [], acc', (nx : Int)) ∧ nx ≤ 40 ∧ next ≤ nx ∧ (acc'.map (szG (10 - d))).sum + next ≤ (acc.map (szG (10 - d))).sum + nx ∧ ((∀ p, p ∈ acc → Gd (10 - d) p ∧ Sm (10 - d) p) → ∀ p, p ∈ acc' → Gd (10 - d) p ∧ Sm (10 - d) p)) := by
 intro j
 induction j with
 | zero =>
  refine ⟨fun at_ d h1 h2 h3 _ _ => by omega, fun d next i b0 b1 b2 b3 b4 c0 c1 acc h1 h2 h3 h4 h5 => ⟨acc, next, ?_, h2, Nat.le_refl _, by omega, fun h => h⟩⟩
  have : decide ((next : Int) < 40) = false := decide_eq_false (by omega)
  rw [grown_L5]
  simp only [this, L6_false]
  split <;> (try rfl)
  split <;> (try rfl)
  split <;> rfl
 | succ j ih =>
  obtain ⟨ihP, ihL⟩ := ih
  have hP : ∀ at_ d : Nat, 40 - at_ ≤ j + 1 → at_ < l.length → at_ < 40 → 1 ≤ d → d ≤ 10 → ∃ t0 t1 t2 t3 t4, ∃ nx : Nat, grown (l, (at_ : Int), (d : Int)) = some (t0, t1, t2, t3, t4, (nx : Int)) ∧ (Gd (11 - d) ⟨t0, t1, t2, t3, t4⟩ ∧ Sm (11 - d) ⟨t0, t1, t2, t3, t4⟩) ∧ szG (11 - d) ⟨t0, t1, t2, t3, t4⟩ + at_ ≤ nx ∧ nx ≤ 40 := by
   intro at_ d h1 h2 h3 h4 h5
   obtain ⟨e, he⟩ : ∃ e, l[at_]? = some e := ⟨_, List.getElem?_eq_getElem h2⟩
   have eok := hok e (List.mem_of_getElem? he)
   have t4a : 0 ≤ Int.tmod e.c0 4 ∧ Int.tmod e.c0 4 < 4 := ⟨Int.tmod_nonneg _ eok.1.1, (tm_bound _ 4 (by decide)).2⟩
   have t4b : 0 ≤ Int.tmod e.c1 2097152 ∧ Int.tmod e.c1 2097152 < 2097152 := ⟨Int.tmod_nonneg _ eok.2.1.1, (tm_bound _ 2097152 (by decide)).2⟩
   obtain ⟨k0, hk0⟩ : ∃ k0 : Nat, 11 - d = k0 + 1 := ⟨10 - d, by omega⟩
   have hk1 : 10 - d = k0 := by omega
   -- the tag
   obtain ⟨tg, htg0, htg1, htg2⟩ : ∃ tg : Int, (0 ≤ tg ∧ tg < 2097152) ∧ ¬ (Int.tmod e.c0 4 = 0 ∧ tg = 0) ∧ grown (l, (at_ : Int), (d : Int)) = grown_L3 (l, (at_ : Int), (d : Int), e.c0, e.c1, e.c2, e.c3, e.c4, Int.tmod e.c0 4, tg) := by
    have h40 : decide (40 ≤ (at_ : Int)) = false := decide_eq_false (by omega)
    have hst : grown (l, (at_ : Int), (d : Int)) = if Int.tmod e.c0 4 = 0 then grown_L2 (l, (at_ : Int), (d : Int), decide (Int.tmod e.c1 2097152 = 0), e.c0, e.c1, e.c2, e.c3, e.c4, Int.tmod e.c0 4, Int.tmod e.c1 2097152) else grown_L2 (l, (at_ : Int), (d : Int), false, e.c0, e.c1, e.c2, e.c3, e.c4, Int.tmod e.c0 4, Int.tmod e.c1 2097152) := by
     rw [grown]
     simp only
     rw [if_neg (by omega), h40, grown_L1]
     simp only [Bool.false_eq_true, if_false, at'_get he, Option.bind_eq_bind, Option.bind_some]
     rfl
    rw [hst]
    by_cases g0 : Int.tmod e.c0 4 = 0
    ·rw [if_pos g0]
     by_cases g1 : Int.tmod e.c1 2097152 = 0
     ·refine ⟨2, by omega, by omega, ?_⟩
      rw [grown_L2]
      simp only
      rw [if_pos (by simpa using g1)]
     ·refine ⟨Int.tmod e.c1 2097152, t4b, by omega, ?_⟩
      rw [grown_L2]
      simp only
      rw [if_neg (by simpa using g1)]
    ·refine ⟨Int.tmod e.c1 2097152, t4b, by omega, ?_⟩
     rw [if_neg g0, grown_L2]
     simp only
     rw [if_neg (by simp)]
   cases hb : e.c2 with
   | true =>
    obtain ⟨acc', nx, hr, hn1, hn2, hn3, hn4⟩ := ihL d (at_ + 1) 0 e.c0 e.c1 true e.c3 e.c4 (Int.tmod e.c0 4) tg [] (by omega) (by omega) h4 h5 (by simp)
    refine ⟨Int.tmod e.c0 4, tg, true, [], acc', nx, ?_, ?_, ?_, hn1⟩
    ·rw [htg2, grown_L3]
     simp only [hb]
     rw [if_neg (by simp), wrap64 (by omega) (by omega)]
     exact hr
    ·rw [hk0]
     rw [hk1] at hn4
     have hq := hn4 (by simp)
     exact ⟨⟨t4a, htg0, htg1, fun _ => rfl, fun h => by simp at h, by simp, fun p hp => (hq p hp).1⟩, by simp, fun p hp => (hq p hp).2⟩
    ·rw [hk0, szG]
     rw [hk1] at hn3
     simp at hn3
     show 1 + (acc'.map (szG k0)).sum + at_ ≤ nx
     omega
   | false =>
    have hmn : minI (e.c3.length : Int) 300 ≤ (e.c3.length : Int) ∧ 0 ≤ minI (e.c3.length : Int) 300 ∧ minI (e.c3.length : Int) 300 ≤ 300 := by unfold minI; split <;> omega
    have hs : sub' e.c3 0 (minI (e.c3.length : Int) 300) = some (e.c3.take (minI (e.c3.length : Int) 300).toNat) := by
     unfold sub'
     rw [if_pos ⟨by omega, hmn.2.1, hmn.1⟩]
     simp
    generalize hv : e.c3.take (minI (e.c3.length : Int) 300).toNat = v at hs
    have hvl : v.length ≤ 300 := by rw [← hv, List.length_take]; omega
    refine ⟨Int.tmod e.c0 4, tg, false, v, [], at_ + 1, ?_, ?_, ?_, by omega⟩
    ·rw [htg2, grown_L3]
     simp only [hb]
     rw [if_pos (by simp), hs]
     simp only [Option.bind_eq_bind, Option.bind_some]
     rw [app_ok (by simp; omega), wrap64 (by omega) (by omega)]
     simp only [Option.bind_some, grown_L4, List.nil_append]
     split
     ·rename_i h0
      rw [List.eq_nil_of_length_eq_zero h0]
      simp
     ·simp
    ·rw [hk0]
     exact ⟨⟨t4a, htg0, htg1, fun h => by simp at h, fun _ => rfl, fun b hb => eok.2.2.1 b (by rw [← hv] at hb; exact List.mem_of_mem_take hb), fun p hp => by simp at hp⟩, hvl, fun p hp => by simp at hp⟩
    ·rw [hk0, szG]
     show 1 + (([] : List S41).map (szG k0)).sum + at_ ≤ at_ + 1
     simp
     omega
  refine ⟨hP, ?_⟩
  intro d next i b0 b1 b2 b3 b4 c0 c1 acc h1 h2 h3 h4 h5
  have t4a : -4 < Int.tmod b4 4 ∧ Int.tmod b4 4 < 4 := tm_bound _ 4 (by decide)
  have hw : IntKind.i64.wrap (remI .u8 b4 4) = Int.tmod b4 4 := wrap64 (by show _ ≤ Int.tmod b4 4; omega) (by show Int.tmod b4 4 < _; omega)
  by_cases hs : ¬ ((i : Int) < Int.tmod b4 4) ∨ ¬ ((d : Int) < 10) ∨ ¬ ((next : Int) < (l.length : Int)) ∨ ¬ ((next : Int) < 40)
  ·refine ⟨acc, next, ?_, h2, Nat.le_refl _, by omega, fun h => h⟩
   rw [grown_L5]
   simp only [hw, L6_false]
   split
   ·split
    ·split
     ·rw [decide_eq_false (by omega), L6_false]
     ·rfl
    ·rfl
   ·rfl
  ·have g1 : (i : Int) < Int.tmod b4 4 := by omega
   have g2 : (d : Int) < 10 := by omega
   have g3 : (next : Int) < (l.length : Int) := by omega
   have g4 : (next : Int) < 40 := by omega
   obtain ⟨t0, t1, t2, t3, t4, nx1, e1, hg, hsz, hn⟩ := hP next (d + 1) (by omega) (by omega) (by omega) (by omega) (by omega)
   have hd : 11 - (d + 1) = 10 - d := by omega
   rw [hd] at hg hsz
   have hpos := hg.1.pos
   obtain ⟨acc', nx, e2, q1, q2, q3, q4⟩ := ihL d nx1 (i + 1) b0 b1 b2 b3 b4 c0 c1 (acc ++ [⟨t0, t1, t2, t3, t4⟩]) (by omega) hn h3 h4 (by simp; omega)
   refine ⟨acc', nx, ?_, q1, by omega, ?_, fun h => q4 (fun p hp => ?_)⟩
   ·rw [grown_L5]
    simp only [hw]
    rw [if_pos g1, if_pos g2, if_pos g3, decide_eq_true g4, grown_L6]
    simp only [if_true]
    rw [wrap64 (by omega) (by omega), wrap64 (by omega) (by omega), show ((d : Int) + 1) = ((d + 1 : Nat) : Int) by omega, e1]
    simp only [Option.bind_eq_bind, Option.bind_some]
    rw [app_ok (by simp; omega)]
    exact e2
   ·simp only [List.map_append, List.sum_append, List.map_cons, List.map_nil, List.sum_cons, List.sum_nil] at q3
    omega
   ·rcases List.mem_append.1 hp with hp | hp
    ·exact h p hp
    ·simp at hp
     subst hp
     exact hg
def numT (cls tag v : Int) : S41 := ⟨cls, tag, false, intP v, []⟩
def nilT : S41 := ⟨0, 5, false, [], []⟩
def idT (i : Int) : S41 := if i < 0 then nilT else numT 0 2 i
def partsC (x : S38) : List S41 := idT x.c1 :: (if x.c0 = 5 then [numT 2 1 x.c4] else (if x.c0 = 1 ∧ 0 ≤ x.c2 then [numT 2 0 x.c2] else []) ++ [numT 0 10 x.c3, ⟨0, 4, false, x.c5, []⟩])
def treeC (x : S38) : S41 := ⟨2, x.c0, true, [], partsC x⟩
def VC (x : S38) : Prop := x.c5.length ≤ 2000 ∧ (((x.c0 = 1 ∧ 0 ≤ x.c1 ∧ x.c1 ≤ 127 ∧ -1 ≤ x.c2 ∧ x.c2 ≤ 127 ∧ 0 ≤ x.c3 ∧ x.c3 ≤ 255 ∧ x.c4 = 0) ∨ ((x.c0 = 2 ∨ x.c0 = 3 ∨ x.c0 = 4) ∧ 0 ≤ x.c1 ∧ x.c1 ≤ 127 ∧ x.c2 = 0 ∧ 0 ≤ x.c3 ∧ x.c3 ≤ 255 ∧ x.c4 = 0)) ∨ (x.c0 = 5 ∧ -1 ≤ x.c1 ∧ x.c1 ≤ 127 ∧ x.c2 = 0 ∧ x.c3 = 0 ∧ (x.c5.length : Int) = 0 ∧ 1 ≤ x.c4 ∧ x.c4 ≤ 7))
instance (x : S38) : Decidable (VC x) := by unfold VC; infer_instance
def chkV (x : S38) : Int := if 2000 < (x.c5.length : Int) then 3 else if VC x then 0 else 1
theorem within_eq (n a b : Int) : within (n, a, b) = some (decide (a ≤ n ∧ n ≤ b)) := by
 rw [within]
 simp only [within_L1]
 by_cases h : a ≤ n
 ·rw [if_pos h]; simp [h]
 ·rw [if_neg h]; simp [h]
theorem cpCheck_eq (x : S38) : cpCheck (x.c0, x.c1, x.c2, x.c3, x.c4, x.c5) = some (chkV x) := by
 have L1 : cpCheck_L2 true = some 0 := by rw [cpCheck_L2]; rfl
 have L0 : cpCheck_L2 false = some 1 := by rw [cpCheck_L2]; rfl
 have L : ∀ b, cpCheck_L2 b = some (if b then 0 else 1) := by intro b; cases b <;> simp [L1, L0]
 rw [cpCheck]
 unfold chkV VC
 simp only [within_eq, cpCheck_L1, L, Option.bind_eq_bind, Option.bind_some]
 by_cases c0 : 2000 < (x.c5.length : Int)
 ·rw [if_pos c0, if_pos c0]
 rw [if_neg c0, if_neg c0]
 have hlen : x.c5.length ≤ 2000 := by omega
 have z5 : ((x.c5.length : Int) == 0) = decide ((x.c5.length : Int) = 0) := rfl
 by_cases k1 : x.c0 = 1
 ·rw [if_pos k1]
  by_cases a1 : 0 ≤ x.c1 ∧ x.c1 ≤ 127 <;> by_cases a2 : -1 ≤ x.c2 ∧ x.c2 ≤ 127 <;> by_cases a3 : 0 ≤ x.c3 ∧ x.c3 ≤ 255 <;> by_cases a4 : x.c4 = 0 <;> simp [k1, hlen, a1, a2, a3, a4] <;> omega
 rw [if_neg k1]
 by_cases k5 : x.c0 = 5
 ·have : ¬ x.c0 = 2 ∧ ¬ x.c0 = 3 ∧ ¬ x.c0 = 4 := by omega
  rw [if_neg this.1, if_neg this.2.1, decide_eq_false this.2.2]
  obtain ⟨L, hL⟩ : ∃ L, (x.c5.length : Int) = L := ⟨_, rfl⟩
  simp only [hL]
  by_cases a1 : -1 ≤ x.c1 ∧ x.c1 ≤ 127 <;> by_cases a2 : x.c2 = 0 <;> by_cases a3 : x.c3 = 0 <;> by_cases a4 : L = 0 <;> by_cases a5 : 1 ≤ x.c4 <;> by_cases a6 : x.c4 ≤ 7 <;> simp [k5, hlen, a1, a2, a3, a4, a5, a6] <;> omega
 have key : ∀ (b : Bool), (x.c0 = 2 ∨ x.c0 = 3 ∨ x.c0 = 4 → b = true) → (b = true → x.c0 = 2 ∨ x.c0 = 3 ∨ x.c0 = 4) → (if b = true then
   if decide (0 ≤ x.c1 ∧ x.c1 ≤ 127) = true then
    if x.c2 = 0 then
     if decide (0 ≤ x.c3 ∧ x.c3 ≤ 255) = true then some (if decide (x.c4 = 0) = true then (0 : Int) else 1)
     else some (if false = true then 0 else 1)
    else some (if false = true then 0 else 1)
   else some (if false = true then 0 else 1)
  else if x.c0 = 5 then
   if decide (-1 ≤ x.c1 ∧ x.c1 ≤ 127) = true then
    if ((x.c2 == 0) && ((x.c3 == 0) && (((x.c5.length : Int) == 0) && true))) = true then
     if 1 ≤ x.c4 then some (if decide (x.c4 ≤ 7) = true then 0 else 1) else some (if false = true then 0 else 1)
    else some (if false = true then 0 else 1)
   else some (if false = true then 0 else 1)
  else some (if false = true then 0 else 1)) = some (if VC x then 0 else 1) := by
  intro b hb1 hb2
  unfold VC
  cases b with
  | true =>
   have hk := hb2 rfl
   by_cases a1 : 0 ≤ x.c1 ∧ x.c1 ≤ 127 <;> by_cases a2 : x.c2 = 0 <;> by_cases a3 : 0 ≤ x.c3 ∧ x.c3 ≤ 255 <;> by_cases a4 : x.c4 = 0 <;> simp [hlen, k1, k5, hk, a1, a2, a3, a4] <;> omega
  | false =>
   have hk : ¬ (x.c0 = 2 ∨ x.c0 = 3 ∨ x.c0 = 4) := fun h => by have := hb1 h; simp at this
   simp [k1, k5, hk]
 unfold VC at key
 by_cases k2 : x.c0 = 2
 ·rw [if_pos k2]; exact key _ (fun _ => decide_eq_true k2) (fun _ => .inl k2)
 rw [if_neg k2]
 by_cases k3 : x.c0 = 3
 ·rw [if_pos k3]; exact key _ (fun _ => decide_eq_true k3) (fun _ => .inr (.inl k3))
 rw [if_neg k3]
 refine key _ (fun h => decide_eq_true (by omega)) (fun h => .inr (.inr (of_decide_eq_true h)))
theorem clipT_eq (l : List S41) : clipT l = some l := by
 rw [clipT, sub_to l l.length (Nat.le_refl _), List.take_length]
 rfl
theorem numberC_eq {a b n : Int} (h0 : 0 ≤ n) (h1 : n < 4294967296) : numberC (a, b, n) = some (a, b, false, intP n, []) := by
 rw [numberC]
 simp only [intC_eq h0 h1, Option.bind_eq_bind, Option.bind_some]
theorem cpTreeI_eq {x : S38} (h : VC x) : cpTreeI (x.c0, x.c1, x.c2, x.c3, x.c4, x.c5) = some (2, x.c0, true, [], partsC x) := by
 obtain ⟨hl, h⟩ := h
 have hc : cloneS x.c5 = some x.c5 := by
  have hl2 : x.c5.length ≤ 70368744177664 := by omega
  rw [cloneS, app_ok (by simp; omega)]
  rfl
 rw [cpTreeI]
 simp only
 unfold partsC idT numT nilT
 have kk : IntKind.u32.wrap x.c0 = x.c0 := wrapU32 (by omega) (by omega)
 rcases h with (⟨k1, a1, a2, a3, a4, a5, a6, a7⟩ | ⟨k2, a1, a2, a3, a4, a5, a6⟩) | ⟨k5, a1, a2, a3, a4, a5, a6, a7⟩
 ·have e1 := numberC_eq (a := 0) (b := 2) (n := x.c1) (by omega) (by omega)
  have e3 := numberC_eq (a := 0) (b := 10) (n := x.c3) (by omega) (by omega)
  have n1 : ¬ x.c1 < 0 := by omega
  have n5 : ¬ x.c0 = 5 := by omega
  by_cases c : 0 ≤ x.c2
  ·have e2 := numberC_eq (a := 2) (b := 0) (n := x.c2) (by omega) (by omega)
   simp only [if_neg n1, if_neg n5, if_pos k1, if_pos c, e1, e2, e3, hc, clip_eq, clipT_eq, kk, Option.bind_eq_bind, Option.bind_some, k1, c, and_self, if_true, List.cons_append, List.nil_append]
   rfl
  ·simp only [if_neg n1, if_neg n5, if_pos k1, if_neg c, e1, e3, hc, clip_eq, clipT_eq, kk, Option.bind_eq_bind, Option.bind_some, c, and_false, if_false, List.cons_append, List.nil_append]
 ·have e1 := numberC_eq (a := 0) (b := 2) (n := x.c1) (by omega) (by omega)
  have e3 := numberC_eq (a := 0) (b := 10) (n := x.c3) (by omega) (by omega)
  have n1 : ¬ x.c1 < 0 := by omega
  have n5 : ¬ x.c0 = 5 := by omega
  have n0 : ¬ x.c0 = 1 := by omega
  have n2 : ¬ (x.c0 = 1 ∧ 0 ≤ x.c2) := by omega
  simp only [if_neg n1, if_neg n5, if_neg n0, if_neg n2, e1, e3, hc, clip_eq, clipT_eq, kk, Option.bind_eq_bind, Option.bind_some, List.cons_append, List.nil_append]
 ·have w4 : IntKind.i64.wrap x.c4 = x.c4 := wrap64 (by omega) (by omega)
  have e4 := numberC_eq (a := 2) (b := 1) (n := x.c4) (by omega) (by omega)
  by_cases c : x.c1 < 0
  ·simp only [if_pos c, if_pos k5, w4, e4, clipT_eq, kk, Option.bind_eq_bind, Option.bind_some]
  ·have e1 := numberC_eq (a := 0) (b := 2) (n := x.c1) (by omega) (by omega)
   simp only [if_neg c, if_pos k5, w4, e1, e4, clipT_eq, kk, Option.bind_eq_bind, Option.bind_some]
theorem num_gd {a b v : Int} (h0 : 0 ≤ a) (h1 : a < 4) (t0 : 0 ≤ b) (t1 : b < 2097152) (hn : ¬ (a = 0 ∧ b = 0)) (hv : 0 ≤ v) : Gd 1 (numT a b v) :=
 ⟨⟨h0, h1⟩, ⟨t0, t1⟩, hn, fun h => by simp [numT] at h, fun _ => rfl, intP_bys hv, fun p hp => by simp [numT] at hp⟩
theorem part_gd {x : S38} (hV : VC x) (hb : Bys x.c5) : ∀ p, p ∈ partsC x → Gd 1 p := by
 have hi : Gd 1 (idT x.c1) := by
  unfold idT
  split
  ·exact ⟨⟨by show (0 : Int) ≤ 0; omega, by show (0 : Int) < 4; omega⟩, ⟨by show (0 : Int) ≤ 5; omega, by show (5 : Int) < _; omega⟩, fun h => by simp [nilT] at h, fun _ => rfl, fun _ => rfl, fun b hb => by simp [nilT] at hb, fun p hp => by simp [nilT] at hp⟩
  ·exact num_gd (by omega) (by omega) (by omega) (by omega) (by omega) (by omega)
 obtain ⟨_, hV⟩ := hV
 intro p hp
 unfold partsC at hp
 rcases List.mem_cons.1 hp with rfl | hp
 ·exact hi
 by_cases k5 : x.c0 = 5
 ·rw [if_pos k5] at hp
  simp only [List.mem_singleton] at hp
  subst hp
  exact num_gd (by omega) (by omega) (by omega) (by omega) (by omega) (by omega)
 ·rw [if_neg k5] at hp
  rcases List.mem_append.1 hp with hp | hp
  ·by_cases c : x.c0 = 1 ∧ 0 ≤ x.c2
   ·rw [if_pos c] at hp
    simp only [List.mem_singleton] at hp
    subst hp
    exact num_gd (by omega) (by omega) (by omega) (by omega) (by omega) c.2
   ·rw [if_neg c] at hp
    simp at hp
  ·simp only [List.mem_cons, List.not_mem_nil, or_false] at hp
   rcases hp with rfl | rfl
   ·exact num_gd (by omega) (by omega) (by omega) (by omega) (by omega) (by omega)
   ·exact ⟨⟨by show (0 : Int) ≤ 0; omega, by show (0 : Int) < 4; omega⟩, ⟨by show (0 : Int) ≤ 4; omega, by show (4 : Int) < _; omega⟩, fun h => by simp at h, fun h => by simp at h, fun _ => rfl, hb, fun p hp => by simp at hp⟩
theorem treeC_gd {x : S38} (hV : VC x) (hb : Bys x.c5) : Gd 2 (treeC x) := by
 refine ⟨⟨by show (0 : Int) ≤ 2; omega, by show (2 : Int) < 4; omega⟩, ?_, fun h => by have := h.1; simp [treeC] at this, fun _ => rfl, fun h => by simp [treeC] at h, fun b hb => by simp [treeC] at hb, part_gd hV hb⟩
 obtain ⟨_, hV⟩ := hV
 exact ⟨by show 0 ≤ x.c0; omega, by show x.c0 < _; omega⟩
theorem partsC_sum (F : S41 → Nat) (x : S38) (N : Nat) (h1 : ∀ a b v, F (numT a b v) ≤ 17) (h0 : F nilT ≤ 17) (h2 : F ⟨0, 4, false, x.c5, []⟩ ≤ N) : ((partsC x).map F).sum ≤ 51 + N := by
 have hi : F (idT x.c1) ≤ 17 := by
  unfold idT
  split
  ·exact h0
  ·exact h1 _ _ _
 unfold partsC
 simp only [List.map_cons, List.sum_cons]
 split
 ·have := h1 2 1 x.c4
  simp
  omega
 ·have := h1 2 0 x.c2
  have := h1 0 10 x.c3
  simp only [List.map_append, List.sum_append]
  split
  ·simp; omega
  ·simp; omega
theorem treeC_wt {x : S38} (hV : VC x) : wt 2 (treeC x) ≤ 2075 := by
 have := partsC_sum (wt 1) x 2012 (fun a b v => by have := intP_len v; simp [wt, numT]; omega) (by simp [wt, nilT]) (by have := hV.1; simp [wt]; omega)
 show 12 + 0 + ((partsC x).map (wt 1)).sum ≤ 2075
 omega
theorem treeC_sz (x : S38) : szG 2 (treeC x) ≤ 53 := by
 have := partsC_sum (szG 1) x 1 (fun a b v => by simp [szG, numT]) (by simp [szG, nilT]) (by simp [szG])
 show 1 + ((partsC x).map (szG 1)).sum ≤ 53
 omega
theorem sum_le {α : Type} {F : α → Nat} {B : Nat} : ∀ {l : List α}, (∀ x, x ∈ l → F x ≤ B) → (l.map F).sum ≤ B * l.length
 | [], _ => by simp
 | x :: l, h => by
  have h1 := h x (by simp)
  have h2 := sum_le (l := l) (fun y hy => h y (by simp [hy]))
  simp only [List.map_cons, List.sum_cons, List.length_cons, Nat.mul_add]
  omega
def AllV (l : List S38) : Prop := ∀ x, x ∈ l → VC x ∧ Bys x.c5
theorem chk0 (x : S38) : chkV x = 0 ↔ VC x := by
 unfold chkV
 by_cases c : 2000 < (x.c5.length : Int)
 ·rw [if_pos c]
  exact ⟨fun h => by simp at h, fun h => by have := h.1; omega⟩
 ·rw [if_neg c]
  by_cases v : VC x
  ·simp [v]
  ·simp [v]
theorem valueC_spec {n : Nat} {y : S41} (hg : Gd n y) (a b lo hi : Int) (h0 : 0 ≤ lo) (h1 : hi < 4294967296) :
  (∃ v, y = numT a b v ∧ lo ≤ v ∧ v ≤ hi ∧ valueC (y.c0, y.c1, y.c2, y.c3, y.c4, a, b, lo, hi) = some (v, true)) ∨ (valueC (y.c0, y.c1, y.c2, y.c3, y.c4, a, b, lo, hi) = some (0, false) ∧ ∀ v, lo ≤ v → v ≤ hi → y ≠ numT a b v) := by
 cases n with
 | zero => exact hg.elim
 | succ n =>
 obtain ⟨_, _, _, h3, h4, h5, _⟩ := hg
 have no : ∀ v, valueC_L1 (v, true) = some (0, false) := fun v => by rw [valueC_L1, if_pos rfl]
 obtain ⟨v, e, hv⟩ := toInt_some y.c3 h5
 have hne : ∀ w, (e ≠ 0 ∨ v ≠ w) → lo ≤ w → w ≤ hi → y ≠ numT a b w := by
  intro w hw h1 h2 h
  have := congrArg S41.c3 h
  simp only [numT] at this
  rw [this, toInt_intP (by omega) (by omega)] at hv
  simp at hv
  omega
 rw [valueC]
 simp only [hv, Option.bind_eq_bind, Option.bind_some, no]
 by_cases c0 : e = 0
 ·rw [if_neg (by simp [c0])]
  by_cases c1 : y.c2 = true
  ·rw [if_pos c1]
   exact .inr ⟨rfl, fun w _ _ h => by rw [h] at c1; simp [numT] at c1⟩
  rw [if_neg c1]
  by_cases c2 : y.c0 = a
  ·rw [if_neg (by simp [c2])]
   by_cases c3 : y.c1 = b
   ·rw [if_neg (by simp [c3])]
    by_cases c4 : v < lo
    ·rw [if_pos c4]
     exact .inr ⟨rfl, fun w w1 w2 => hne w (.inr (by omega)) w1 w2⟩
    rw [if_neg c4]
    by_cases c5 : hi < v
    ·rw [decide_eq_true c5, no]
     exact .inr ⟨rfl, fun w w1 w2 => hne w (.inr (by omega)) w1 w2⟩
    ·rw [decide_eq_false c5, valueC_L1, if_neg (by simp)]
     refine .inl ⟨v, ?_, by omega, by omega, rfl⟩
     subst c0
     have c1' : y.c2 = false := by simpa using c1
     have := intP_of h5 hv (by omega) (by omega)
     rw [S41.eta y, c2, c3, c1', this, h4 c1']
     rfl
   ·rw [if_pos (by simp [c3])]
    exact .inr ⟨rfl, fun w _ _ h => c3 (by rw [h]; rfl)⟩
  ·rw [if_pos (by simp [c2])]
   exact .inr ⟨rfl, fun w _ _ h => c2 (by rw [h]; rfl)⟩
 ·rw [if_pos (by simp [c0])]
  exact .inr ⟨rfl, fun w w1 w2 => hne w (.inl c0) w1 w2⟩
theorem takeF_spec {n : Nat} {l : List S41} (hg : ∀ p, p ∈ l → Gd n p) (a b lo hi : Int) (h0 : 0 ≤ lo) (h1 : hi < 4294967296) :
  (∃ v l', l = numT a b v :: l' ∧ lo ≤ v ∧ v ≤ hi ∧ takeF (a, b, lo, hi, l) = some (v, true, l')) ∨ (takeF (a, b, lo, hi, l) = some (0, false, l) ∧ ∀ v l', lo ≤ v → v ≤ hi → l ≠ numT a b v :: l') := by
 cases l with
 | nil => exact .inr ⟨by rw [takeF, if_pos (by simp)], fun v l' _ _ h => by simp at h⟩
 | cons y l =>
  rw [takeF, if_neg (by simp; omega), at0]
  simp only [Option.bind_eq_bind, Option.bind_some]
  rcases valueC_spec (hg y (by simp)) a b lo hi h0 h1 with ⟨v, e, w1, w2, h⟩ | ⟨h, hn⟩
  ·rw [h]
   simp only [Option.bind_some]
   rw [if_pos (by trivial), subs]
   simp only [Option.bind_some, takeF_L1]
   exact .inl ⟨v, l, by rw [e], w1, w2, rfl⟩
  ·rw [h]
   simp only [Option.bind_some]
   rw [if_neg (by simp), takeF_L1]
   exact .inr ⟨rfl, fun v l' w1 w2 h => hn v w1 w2 (List.cons.inj h).1⟩
theorem L4_spec {k i lk : Int} {l : List S41} (hg : ∀ p, p ∈ l → Gd 15 p) (hc : ∀ p, p ∈ l → p.c3.length ≤ 65536) :
  ∃ c v ok, fieldsC_L4 (k, i, lk, l) = some (k, i, lk, c, 0, v, ok) ∧ (ok = true → l = [numT 0 10 c, ⟨0, 4, false, v, []⟩] ∧ Bys v) := by
 have no : ∀ (c : Int) (l : List S41), fieldsC_L5 (c, true, k, i, lk, l) = some (k, i, lk, 0, 0, [], false) := fun c l => by rw [fieldsC_L5, if_pos rfl]
 rw [fieldsC_L4]
 rcases takeF_spec hg 0 10 0 255 (by omega) (by omega) with ⟨c, l', rfl, w1, w2, h⟩ | ⟨h, _⟩
 ·simp only [h, Option.bind_eq_bind, Option.bind_some]
  rw [if_neg (by simp)]
  match l', hg, hc with
  | [], _, _ => exact ⟨0, [], false, by simp [no], fun h => by simp at h⟩
  | p :: q :: l', _, _ =>
   rw [show (!decide ((((p :: q :: l').length : Nat) : Int) = 1)) = true by simp; omega, no]
   exact ⟨0, [], false, rfl, fun h => by simp at h⟩
  | [p], hg, hc =>
   have gp := hg p (by simp)
   have hp := hc p (by simp)
   have hp' : p.c3.length ≤ 70368744177664 := by omega
   obtain ⟨_, _, _, _, h4, h5, _⟩ := gp
   have hcl : cloneS p.c3 = some p.c3 := by
    rw [cloneS, app_ok (by simp; omega)]
    rfl
   rw [show (!decide (((([p] : List S41).length : Nat) : Int) = 1)) = false by simp, fieldsC_L5, if_neg (by simp)]
   simp only [at0, hcl, clip_eq, Option.bind_eq_bind, Option.bind_some, fieldsC_L6]
   by_cases a0 : p.c0 = 0
   ·rw [if_pos a0]
    by_cases a1 : p.c1 = 4
    ·rw [if_pos a1]
     refine ⟨c, p.c3, !p.c2, rfl, fun hk => ⟨?_, h5⟩⟩
     have a2 : p.c2 = false := by simpa using hk
     have e : p = ⟨0, 4, false, p.c3, []⟩ := by
      have := S41.eta p
      rw [a0, a1, a2, h4 a2] at this
      exact this
     rw [← e]
    ·rw [if_neg a1]
     exact ⟨c, p.c3, false, rfl, fun h => by simp at h⟩
   ·rw [if_neg a0]
    exact ⟨c, p.c3, false, rfl, fun h => by simp at h⟩
 ·simp only [h, Option.bind_eq_bind, Option.bind_some]
  rw [if_pos (by simp), no]
  exact ⟨0, [], false, rfl, fun h => by simp at h⟩
theorem L2_spec {k i : Int} {l : List S41} (hg : ∀ p, p ∈ l → Gd 15 p) (hc : ∀ p, p ∈ l → p.c3.length ≤ 65536) :
  ∃ x ok, fieldsC_L2 (k, i, l) = some (x.c0, x.c1, x.c2, x.c3, x.c4, x.c5, ok) ∧ x.c0 = k ∧ x.c1 = i ∧ (ok = true → idT i :: l = partsC x ∧ Bys x.c5) := by
 rw [fieldsC_L2]
 by_cases k5 : k = 5
 ·rw [if_pos k5]
  rcases takeF_spec hg 2 1 1 7 (by omega) (by omega) with ⟨v, l', rfl, w1, w2, h⟩ | ⟨h, _⟩
  ·simp only [h, Option.bind_eq_bind, Option.bind_some, fieldsC_L3, if_true]
   refine ⟨⟨k, i, 0, 0, v, []⟩, decide ((l'.length : Int) = 0), by rw [wrapU8 (n := v) (by omega) (by omega)], rfl, rfl, fun hk => ?_⟩
   have : l' = [] := List.eq_nil_of_length_eq_zero (by simpa using hk)
   subst this
   exact ⟨by unfold partsC; simp [k5], fun b hb => by simp at hb⟩
  ·simp only [h, Option.bind_eq_bind, Option.bind_some, fieldsC_L3]
   rw [if_neg (by simp)]
   exact ⟨⟨k, i, 0, 0, IntKind.u8.wrap 0, []⟩, false, rfl, rfl, rfl, fun h => by simp at h⟩
 ·rw [if_neg k5]
  by_cases k1 : k = 1
  ·rw [if_pos k1]
   rcases takeF_spec hg 2 0 0 127 (by omega) (by omega) with ⟨v, l', rfl, w1, w2, h⟩ | ⟨h, _⟩
   ·simp only [h, Option.bind_eq_bind, Option.bind_some, if_true]
    obtain ⟨c, val, ok, e, hk⟩ := L4_spec (k := k) (i := i) (lk := v) (l := l') (fun p hp => hg p (by simp [hp])) (fun p hp => hc p (by simp [hp]))
    refine ⟨⟨k, i, v, c, 0, val⟩, ok, e, rfl, rfl, fun hok => ?_⟩
    obtain ⟨rfl, hb⟩ := hk hok
    exact ⟨by unfold partsC; simp [k1, w1], hb⟩
   ·simp only [h, Option.bind_eq_bind, Option.bind_some]
    rw [if_neg (by simp)]
    obtain ⟨c, val, ok, e, hk⟩ := L4_spec (k := k) (i := i) (lk := -1) (l := l) hg hc
    refine ⟨⟨k, i, -1, c, 0, val⟩, ok, e, rfl, rfl, fun hok => ?_⟩
    obtain ⟨rfl, hb⟩ := hk hok
    exact ⟨by unfold partsC; simp [k1], hb⟩
  ·rw [if_neg k1]
   obtain ⟨c, val, ok, e, hk⟩ := L4_spec (k := k) (i := i) (lk := 0) (l := l) hg hc
   refine ⟨⟨k, i, 0, c, 0, val⟩, ok, e, rfl, rfl, fun hok => ?_⟩
   obtain ⟨rfl, hb⟩ := hk hok
   exact ⟨by unfold partsC; simp [k1, k5], hb⟩
theorem nilT_gd : Gd 16 nilT := ⟨⟨by show (0 : Int) ≤ 0; omega, by show (0 : Int) < 4; omega⟩, ⟨by show (0 : Int) ≤ 5; omega, by show (5 : Int) < _; omega⟩, fun h => by simp [nilT] at h, fun _ => rfl, fun _ => rfl, fun b hb => by simp [nilT] at hb, fun p hp => by simp [nilT] at hp⟩
theorem fields_spec {p : S41} (g : Gd 15 p) (hs : szG 15 p ≤ 1024) (hc : ∀ q, q ∈ p.c4 → q.c3.length ≤ 65536) (hk : 1 ≤ p.c1 ∧ p.c1 ≤ 5) :
  ∃ x ok, fieldsC (p.c0, p.c1, p.c2, p.c3, p.c4) = some (x.c0, x.c1, x.c2, x.c3, x.c4, x.c5, ok) ∧ (ok = true → x.c0 = p.c1 ∧ p.c4 = partsC x ∧ Bys x.c5) := by
 have gp := g.2.2.2.2.2.2
 have w : IntKind.u8.wrap p.c1 = p.c1 := wrapU8 (by omega) (by omega)
 rw [fieldsC]
 have gp15 : ∀ q, q ∈ p.c4 → Gd 15 q := fun q hq => (gp q hq).succ
 rcases takeF_spec gp 0 2 0 127 (by omega) (by omega) with ⟨v, l', e, w1, w2, h⟩ | ⟨h, _⟩
 ·simp only [h, Option.bind_eq_bind, Option.bind_some, if_true, w]
  obtain ⟨x, ok, e1, e2, e3, e4⟩ := L2_spec (k := p.c1) (i := v) (l := l') (fun q hq => gp15 q (by rw [e]; simp [hq])) (fun q hq => hc q (by rw [e]; simp [hq]))
  refine ⟨x, ok, e1, fun hok => ?_⟩
  obtain ⟨a1, a2⟩ := e4 hok
  refine ⟨e2, ?_, a2⟩
  rw [e, ← a1]
  unfold idT
  rw [if_neg (by omega)]
 ·simp only [h, Option.bind_eq_bind, Option.bind_some, w]
  rw [if_neg (by simp)]
  have bad : ∃ x ok, fieldsC_L1 (false, p.c1, p.c4) = some (x.c0, x.c1, x.c2, x.c3, x.c4, x.c5, ok) ∧ (ok = true → x.c0 = p.c1 ∧ p.c4 = partsC x ∧ Bys x.c5) := by
   rw [fieldsC_L1, if_neg (by simp)]
   exact ⟨⟨p.c1, -1, 0, 0, 0, []⟩, false, rfl, fun h => by simp at h⟩
  cases hp4 : p.c4 with
  | nil =>
   rw [hp4] at bad
   rw [if_neg (by simp)]
   exact bad
  | cons y l =>
   have hy : y ∈ p.c4 := by rw [hp4]; simp
   have gy := (gp15 y hy).le (m := 16) (by omega)
   have sy : szG 16 y ≤ 1024 := by
    rw [szG_le (n := 14) (m := 16) (gp y hy) (by decide)]
    have : szG 14 y ≤ szG 15 p := szG_mem (n := 14) hy
    omega
   have st := sameT_val (y := nilT) gy nilT_gd sy (by simp [szG, nilT])
   have st' : sameT (y.c0, y.c1, y.c2, y.c3, y.c4, 0, 5, false, [], []) = some (eqB 16 y nilT) := st
   rw [if_pos (by simp), at0]
   simp only [Option.bind_some, st']
   cases he : eqB 16 y nilT with
   | false =>
    rw [hp4] at bad
    exact bad
   | true =>
    have e := eqB_eq 16 y nilT gy nilT_gd he
    rw [fieldsC_L1, if_pos rfl]
    simp only [subs, Option.bind_eq_bind, Option.bind_some]
    obtain ⟨x, ok, e1, e2, e3, e4⟩ := L2_spec (k := p.c1) (i := -1) (l := l) (fun q hq => gp15 q (by rw [hp4]; simp [hq])) (fun q hq => hc q (by rw [hp4]; simp [hq]))
    refine ⟨x, ok, e1, fun hok => ?_⟩
    obtain ⟨a1, a2⟩ := e4 hok
    refine ⟨e2, ?_, a2⟩
    rw [e, ← a1]
    rfl
abbrev OfR := Int × Int × Int × Int × Int × (List Int) × Int × Int × Int × Int × Int × (List Int) × Int
def errOf (r : OfR) : Int := r.2.2.2.2.2.2.2.2.2.2.2.2
theorem num_inj {a b v w : Int} (h : numT a b v = numT a b w) (h0 : 0 ≤ v) (h1 : v < 4294967296) (g0 : 0 ≤ w) (g1 : w < 4294967296) : v = w := by
 have e := congrArg S41.c3 h
 simp only [numT] at e
 have e1 := toInt_intP h0 h1
 rw [e, toInt_intP g0 g1] at e1
 simp at e1
 exact e1.symm
theorem take_hit {n : Nat} {l : List S41} {a b lo hi v : Int} (hg : ∀ p, p ∈ numT a b v :: l → Gd n p) (h0 : 0 ≤ lo) (h1 : hi < 4294967296) (hv : lo ≤ v) (hv2 : v ≤ hi) : takeF (a, b, lo, hi, numT a b v :: l) = some (v, true, l) := by
 rcases takeF_spec hg a b lo hi h0 h1 with ⟨w, l', e, w1, w2, h⟩ | ⟨_, h⟩
 ·obtain ⟨e1, e2⟩ := List.cons.inj e
  rw [h, e2, num_inj e1 (by omega) (by omega) (by omega) (by omega)]
 ·exact absurd rfl (h v l hv hv2)
theorem take_miss {n : Nat} {p : S41} {l : List S41} {a b lo hi : Int} (hg : ∀ q, q ∈ p :: l → Gd n q) (h0 : 0 ≤ lo) (h1 : hi < 4294967296) (hp : p.c0 ≠ a ∨ p.c1 ≠ b) : takeF (a, b, lo, hi, p :: l) = some (0, false, p :: l) := by
 rcases takeF_spec hg a b lo hi h0 h1 with ⟨w, l', e, w1, w2, h⟩ | ⟨h, _⟩
 ·have := (List.cons.inj e).1
  subst this
  simp [numT] at hp
 ·exact h
theorem L4_hit {k i lk c : Int} {v : List Int} (hc : 0 ≤ c ∧ c ≤ 255) (hv : v.length ≤ 2000) (hb : Bys v) : fieldsC_L4 (k, i, lk, [numT 0 10 c, ⟨0, 4, false, v, []⟩]) = some (k, i, lk, c, 0, v, true) := by
 have gv : Gd 1 (⟨0, 4, false, v, []⟩ : S41) := ⟨⟨by show (0 : Int) ≤ 0; omega, by show (0 : Int) < 4; omega⟩, ⟨by show (0 : Int) ≤ 4; omega, by show (4 : Int) < _; omega⟩, fun h => by simp at h, fun h => by simp at h, fun _ => rfl, hb, fun p hp => by simp at hp⟩
 have gn : Gd 1 (numT 0 10 c) := num_gd (by omega) (by omega) (by omega) (by omega) (by omega) hc.1
 have hcl : cloneS v = some v := by
  have : v.length ≤ 70368744177664 := by omega
  rw [cloneS, app_ok (by simp; omega)]
  rfl
 rw [fieldsC_L4, take_hit (n := 1) (fun p hp => by simp only [List.mem_cons, List.not_mem_nil, or_false] at hp; rcases hp with rfl | rfl; exact gn; exact gv) (by omega) (by omega) hc.1 hc.2]
 simp only [Option.bind_eq_bind, Option.bind_some]
 rw [if_neg (by simp), fieldsC_L5, if_neg (by simp)]
 simp only [at0, hcl, clip_eq, Option.bind_eq_bind, Option.bind_some, fieldsC_L6, if_true, Bool.not_false]
theorem fields_hit {x : S38} (hV : VC x) (hb : Bys x.c5) : fieldsC (2, x.c0, true, [], partsC x) = some (x.c0, x.c1, x.c2, x.c3, x.c4, x.c5, true) := by
 have hg := part_gd hV hb
 obtain ⟨hl, h⟩ := hV
 have w : IntKind.u8.wrap x.c0 = x.c0 := wrapU8 (by omega) (by omega)
 have L2 : ∀ l, idT x.c1 :: l = partsC x → fieldsC_L2 (x.c0, x.c1, l) = some (x.c0, x.c1, x.c2, x.c3, x.c4, x.c5, true) := by
  intro l e
  have hgl : ∀ p, p ∈ l → Gd 1 p := fun p hp => hg p (by rw [← e]; simp [hp])
  unfold partsC at e
  have e := (List.cons.inj e).2
  rw [fieldsC_L2]
  by_cases k5 : x.c0 = 5
  ·rw [if_pos k5] at e ⊢
   subst e
   rw [take_hit hgl (by omega) (by omega) (by omega) (by omega)]
   simp only [Option.bind_eq_bind, Option.bind_some, if_true, fieldsC_L3]
   rw [wrapU8 (n := x.c4) (by omega) (by omega)]
   have h5 : x.c5 = [] := List.eq_nil_of_length_eq_zero (by omega)
   rw [h5, show x.c2 = 0 by omega, show x.c3 = 0 by omega]
   rfl
  ·rw [if_neg k5] at e ⊢
   by_cases k1 : x.c0 = 1
   ·rw [if_pos k1]
    by_cases c : 0 ≤ x.c2
    ·rw [if_pos ⟨k1, c⟩] at e
     rw [List.singleton_append] at e
     subst e
     rw [take_hit hgl (by omega) (by omega) c (by omega)]
     simp only [Option.bind_eq_bind, Option.bind_some, if_true]
     rw [L4_hit (by omega) hl hb, show x.c4 = 0 by omega]
    ·rw [if_neg (by omega), List.nil_append] at e
     subst e
     rw [take_miss hgl (by omega) (by omega) (.inl (by simp [numT]))]
     simp only [Option.bind_eq_bind, Option.bind_some]
     rw [if_neg (by simp), L4_hit (by omega) hl hb, show x.c4 = 0 by omega, show x.c2 = -1 by omega]
   ·rw [if_neg k1]
    rw [if_neg (by omega), List.nil_append] at e
    subst e
    rw [L4_hit (by omega) hl hb, show x.c4 = 0 by omega, show x.c2 = 0 by omega]
 rw [fieldsC]
 simp only [w]
 obtain ⟨l, hpl⟩ : ∃ l, partsC x = idT x.c1 :: l := ⟨_, rfl⟩
 have L2l := L2 l hpl.symm
 rw [hpl] at hg ⊢
 unfold idT at hg ⊢
 by_cases c : x.c1 < 0
 ·rw [if_pos c] at hg ⊢
  have st := sameT_val (x := nilT) (y := nilT) nilT_gd nilT_gd (by simp [szG, nilT]) (by simp [szG, nilT])
  rw [eqB_self 16 _ nilT_gd] at st
  have st' : sameT (nilT.c0, nilT.c1, nilT.c2, nilT.c3, nilT.c4, 0, 5, false, [], []) = some true := st
  rw [take_miss hg (by omega) (by omega) (.inr (by simp [nilT]))]
  simp only [Option.bind_eq_bind, Option.bind_some]
  rw [if_neg (by simp), if_pos (by simp), at0]
  simp only [Option.bind_some, st']
  rw [fieldsC_L1, if_pos rfl]
  simp only [subs, Option.bind_eq_bind, Option.bind_some]
  rw [show x.c1 = -1 by omega] at L2l ⊢
  exact L2l
 ·rw [if_neg c] at hg ⊢
  rw [take_hit hg (by omega) (by omega) (by omega) (by omega)]
  simp only [Option.bind_eq_bind, Option.bind_some, if_true]
  exact L2l
theorem cpOf_hit {x : S38} (hV : VC x) (hb : Bys x.c5) : cpOf (2, x.c0, true, [], partsC x) = some (x.c0, x.c1, x.c2, x.c3, x.c4, x.c5, 0, 0, 0, 0, 0, [], 0) := by
 have g := treeC_gd hV hb
 have hs := treeC_sz x
 have hck : check (2, x.c0, true, [], partsC x) = some 0 := g.check (by omega) (by omega)
 have hk : 1 ≤ x.c0 ∧ x.c0 ≤ 5 := by obtain ⟨_, h⟩ := hV; omega
 rw [cpOf, if_pos rfl, if_pos (by rfl), if_pos hk.1]
 simp only
 rw [decide_eq_true hk.2, cpOf_L1, if_pos rfl]
 simp only [hck, Option.bind_eq_bind, Option.bind_some, decide_true]
 rw [cpOf_L2, if_pos rfl]
 simp only [fields_hit hV hb, Option.bind_eq_bind, Option.bind_some, if_true, cpCheck_eq, (chk0 x).2 hV, decide_true]
 rw [cpOf_L3, if_pos rfl]
def okK (y : S27) : Prop := 0 ≤ y.c0 ∧ 0 ≤ y.c1 ∧ 0 ≤ y.c2 ∧ (0 ≤ y.c3 ∧ y.c3 < 256) ∧ 0 ≤ y.c4 ∧ Bys y.c5
theorem kOf_some {y : S27} (h : okK y) : ∃ x : S38, kOf (y.c0, y.c1, y.c2, y.c3, y.c4, y.c5) = some (x.c0, x.c1, x.c2, x.c3, x.c4, x.c5) ∧ VC x ∧ Bys x.c5 := by
 obtain ⟨h0, h1, h2, h3, h4, h5⟩ := h
 have a0 := Int.tmod_nonneg 5 h0; have a1 := Int.tmod_lt_of_pos y.c0 (b := 5) (by omega)
 have b0 := Int.tmod_nonneg 128 h1; have b1 := Int.tmod_lt_of_pos y.c1 (b := 128) (by omega)
 have d0 := Int.tmod_nonneg 129 h2; have d1 := Int.tmod_lt_of_pos y.c2 (b := 129) (by omega)
 have e0 := Int.tmod_nonneg 7 h4; have e1 := Int.tmod_lt_of_pos y.c4 (b := 7) (by omega)
 have r0 : remI .u8 y.c0 5 = y.c0.tmod 5 := rfl
 have r1 : remI .u8 y.c1 128 = y.c1.tmod 128 := rfl
 have r2 : remI .u8 y.c2 129 = y.c2.tmod 129 := rfl
 have r4 : remI .u8 y.c4 7 = y.c4.tmod 7 := rfl
 obtain ⟨q, hq⟩ : ∃ q, y.c0.tmod 5 = q := ⟨_, rfl⟩
 obtain ⟨i, hi⟩ : ∃ q, y.c1.tmod 128 = q := ⟨_, rfl⟩
 obtain ⟨lk, hlk⟩ : ∃ q, y.c2.tmod 129 = q := ⟨_, rfl⟩
 obtain ⟨p, hp⟩ : ∃ q, y.c4.tmod 7 = q := ⟨_, rfl⟩
 rw [hq] at a0 a1 r0; rw [hi] at b0 b1 r1; rw [hlk] at d0 d1 r2; rw [hp] at e0 e1 r4
 have w0 : IntKind.u8.wrap (1 + q) = 1 + q := wrapU8 (by omega) (by omega)
 have w1 : IntKind.i64.wrap i = i := wrap64 (by omega) (by omega)
 have w1' : IntKind.i64.wrap (i - 1) = i - 1 := wrap64 (by omega) (by omega)
 have w2 : IntKind.i64.wrap lk = lk := wrap64 (by omega) (by omega)
 have w2' : IntKind.i64.wrap (lk - 1) = lk - 1 := wrap64 (by omega) (by omega)
 have w3 : IntKind.i64.wrap y.c3 = y.c3 := wrap64 (by omega) (by omega)
 have w4 : IntKind.u8.wrap (1 + p) = 1 + p := wrapU8 (by omega) (by omega)
 have L1 : ∀ k ii l, kOf_L1 (y.c0, y.c1, y.c2, y.c3, y.c4, y.c5, k, ii, l) = some (k, ii, l, y.c3, 0, y.c5.take 2000) := by
  intro k ii l
  have hs : sub' y.c5 0 (minI (y.c5.length : Int) 2000) = some (y.c5.take 2000) := by
   unfold sub' minI
   by_cases c : (y.c5.length : Int) ≤ 2000
   ·have e : min (y.c5.length : Int) 2000 = (y.c5.length : Int) := by omega
    first
    | (rw [if_pos (by omega)]; simp; omega)
    | (simp [c]; omega)
   ·first
    | (rw [if_pos (by omega)]; simp; omega)
    | (simp [c]; omega)
  have hl2 : (y.c5.take 2000).length ≤ 70368744177664 := by rw [List.length_take]; omega
  rw [kOf_L1]
  simp only [hs, Option.bind_eq_bind, Option.bind_some, w3]
  rw [app_ok (by simp; omega)]
  simp only [Option.bind_some, List.nil_append, kOf_L2]
  by_cases c : (y.c5.take 2000).length = 0
  ·rw [if_pos c, List.eq_nil_of_length_eq_zero c]
  ·rw [if_neg c]
 have hbt : Bys (y.c5.take 2000) := h5.take 2000
 have hlt : (y.c5.take 2000).length ≤ 2000 := by rw [List.length_take]; omega
 rw [kOf]
 simp only [r0, r1, r2, r4, w0, w1, w1', w2, w2', w4]
 by_cases k5 : 1 + q = 5
 ·rw [if_pos k5]
  exact ⟨⟨1 + q, i - 1, 0, 0, 1 + p, []⟩, rfl, ⟨by simp, .inr ⟨k5, by show -1 ≤ i - 1; omega, by show i - 1 ≤ 127; omega, rfl, rfl, rfl, by show 1 ≤ 1 + p; omega, by show 1 + p ≤ 7; omega⟩⟩, fun b hb => by simp at hb⟩
 ·rw [if_neg k5]
  by_cases k1 : 1 + q = 1
  ·rw [if_pos k1, L1]
   exact ⟨⟨1 + q, i, lk - 1, y.c3, 0, y.c5.take 2000⟩, rfl, ⟨hlt, .inl (.inl ⟨k1, b0, by show i ≤ 127; omega, by show -1 ≤ lk - 1; omega, by show lk - 1 ≤ 127; omega, h3.1, by show y.c3 ≤ 255; omega, rfl⟩)⟩, hbt⟩
  ·rw [if_neg k1, L1]
   exact ⟨⟨1 + q, i, 0, y.c3, 0, y.c5.take 2000⟩, rfl, ⟨hlt, .inl (.inr ⟨by show 1 + q = 2 ∨ 1 + q = 3 ∨ 1 + q = 4; omega, b0, by show i ≤ 127; omega, rfl, h3.1, by show y.c3 ≤ 255; omega, rfl⟩)⟩, hbt⟩
theorem listK_loop {ks : List S27} (hk : ∀ y, y ∈ ks → okK y) (hl : ks.length ≤ 16) : ∀ (m i : Nat) (acc : List S38), i + m = ks.length → acc.length = i → AllV acc → ∃ l, listK_L1 (ks, acc, (i : Int)) = some l ∧ AllV l ∧ l.length = ks.length
 | 0, i, acc, h, ha, hv => by
  rw [listK_L1]
  simp only
  rw [if_neg (by omega), listK_L2]
  exact ⟨acc, by rw [if_neg (by simp)], hv, by omega⟩
 | m + 1, i, acc, h, ha, hv => by
  obtain ⟨y, hy⟩ : ∃ p, ks[i]? = some p := ⟨_, List.getElem?_eq_getElem (by omega)⟩
  obtain ⟨x, e, h1, h2⟩ := kOf_some (hk y (List.mem_of_getElem? hy))
  rw [listK_L1]
  simp only
  rw [if_pos (by omega), decide_eq_true (by omega), listK_L2, if_pos rfl, at'_get hy]
  simp only [Option.bind_eq_bind, Option.bind_some, e]
  rw [app_ok (by simp; omega)]
  simp only [Option.bind_some]
  rw [wrap64 (by omega) (by omega), show ((i : Int) + 1) = ((i + 1 : Nat) : Int) by omega]
  refine listK_loop hk hl m (i + 1) _ (by omega) (by simp [ha]) (fun z hz => ?_)
  rcases List.mem_append.1 hz with hz | hz
  ·exact hv z hz
  ·simp only [List.mem_singleton] at hz
   subst hz
   exact ⟨h1, h2⟩
end Vf
set_option linter.unusedVariables false
set_option linter.unusedSimpArgs false
namespace Vf
open Go Go.Vx
def OkT (p : S41) : Prop := Gd 15 p ∧ szG 15 p ≤ 1024 ∧ ∀ q, q ∈ p.c4 → q.c3.length ≤ 65536
def knownB (p : S41) : Bool := p.c2 && decide (p.c0 = 2) && decide (1 ≤ p.c1) && decide (p.c1 ≤ 5)
def headN : List S41 → Int
 | [] => -1
 | y :: _ => if y.c0 = 0 ∧ y.c1 = 2 ∧ y.c2 = false then (match y.c3 with | [b] => if b < 128 then b else -1 | _ => -1) else -1
theorem intP_one {v : Int} (h1 : v ≤ 127) : intP v = [v] := by unfold intP; rw [if_pos (by omega)]
theorem headN_num {v : Int} {l : List S41} (h0 : 0 ≤ v) (h1 : v ≤ 127) : headN (numT 0 2 v :: l) = v := by
 unfold headN numT
 simp only [intP_one h1, and_self, if_true]
 rw [if_pos (by omega)]
theorem headN_no {n : Nat} {y : S41} {l : List S41} (g : Gd n y) (h : ∀ v, 0 ≤ v → v ≤ 127 → y ≠ numT 0 2 v) : headN (y :: l) = -1 := by
 unfold headN
 simp only
 split
 ·rename_i hc
  split
  ·rename_i b hb
   split
   ·rename_i hlt
    cases n with
    | zero => exact g.elim
    | succ n =>
    obtain ⟨_, _, _, _, h4, h5, _⟩ := g
    have hb0 := (h5 b (by rw [hb]; simp)).1
    refine absurd ?_ (h b hb0 (by omega))
    rw [S41.eta y, hc.1, hc.2.1, hc.2.2, h4 hc.2.2, hb]
    unfold numT
    rw [intP_one (by omega)]
   ·rfl
  ·rfl
 ·rfl
def rejT (p : S41) : OfR := if knownB p = true ∧ p.c1 = 5 then (0, 0, 0, 0, 0, [], 0, 0, 0, 0, 0, [], 4) else (0, 0, 0, 0, 0, [], 5, headN p.c4, 0, 0, (if knownB p then 2 else 1), [], 4)
theorem Of_L6x {p : S41} (g : Gd 15 p) (z : Int) : cpOf_L6 (p.c0, p.c1, p.c2, p.c3, p.c4, z) = some (0, 0, 0, 0, 0, [], 5, headN p.c4, 0, 0, z, [], 4) := by
 rw [cpOf_L6]
 cases hp4 : p.c4 with
 | nil => rw [if_neg (by simp), cpOf_L7]; rfl
 | cons y l =>
  have gy := g.2.2.2.2.2.2 y (by rw [hp4]; simp)
  rw [if_pos (by simp), at0]
  simp only [Option.bind_eq_bind, Option.bind_some]
  rcases valueC_spec gy 0 2 0 127 (by omega) (by omega) with ⟨v, rfl, w1, w2, h⟩ | ⟨h, hn⟩
  ·rw [h]; simp only [Option.bind_some, if_true]; rw [cpOf_L7, headN_num w1 w2]
  ·rw [h]; simp only [Option.bind_some]; rw [if_neg (by simp), cpOf_L7, headN_no gy hn]
theorem Of_L4x {p : S41} (g : Gd 15 p) : cpOf_L4 (knownB p, p.c0, p.c1, p.c2, p.c3, p.c4) = some (rejT p) := by
 rw [cpOf_L4]
 unfold rejT
 cases hk : knownB p with
 | true =>
  rw [if_pos rfl, cpOf_L5]
  by_cases c : p.c1 = 5
  ·simp only [c, decide_true, if_true, and_self]
  ·simp only [c, decide_false, and_false, if_false, if_true, Bool.false_eq_true, Bool.not_true]
   exact Of_L6x g 2
 | false =>
  rw [if_neg (by simp), cpOf_L5]
  simp only [Bool.false_eq_true, false_and, if_false, Bool.not_false, if_true]
  exact Of_L6x g 1
theorem Of_full {p : S41} (h : OkT p) :
  (∃ x, cpOf (p.c0, p.c1, p.c2, p.c3, p.c4) = some (x.c0, x.c1, x.c2, x.c3, x.c4, x.c5, 0, 0, 0, 0, 0, [], 0) ∧ VC x ∧ Bys x.c5 ∧ p = treeC x) ∨ (cpOf (p.c0, p.c1, p.c2, p.c3, p.c4) = some (rejT p) ∧ ∀ x, VC x → Bys x.c5 → p ≠ treeC x) := by
 obtain ⟨g, hs, hc⟩ := h
 have key : (∃ x, cpOf (p.c0, p.c1, p.c2, p.c3, p.c4) = some (x.c0, x.c1, x.c2, x.c3, x.c4, x.c5, 0, 0, 0, 0, 0, [], 0) ∧ VC x ∧ Bys x.c5 ∧ p = treeC x) ∨ cpOf (p.c0, p.c1, p.c2, p.c3, p.c4) = some (rejT p) := by
  have L4 := Of_L4x g
  have no : knownB p = false → cpOf_L1 (false, p.c0, p.c1, p.c2, p.c3, p.c4) = some (rejT p) := fun hk => by
   rw [cpOf_L1, if_neg (by simp), cpOf_L2, if_neg (by simp)]
   rw [hk] at L4
   exact L4
  rw [cpOf]
  by_cases c2 : p.c2 = true
  case neg => rw [if_neg c2]; exact .inr (no (by unfold knownB; simp [c2]))
  rw [if_pos c2]
  by_cases c0 : p.c0 = 2
  case neg => rw [if_neg c0]; exact .inr (no (by unfold knownB; simp [c0]))
  rw [if_pos c0]
  by_cases c1 : 1 ≤ p.c1
  case neg => rw [if_neg c1]; exact .inr (no (by unfold knownB; simp [c1]))
  rw [if_pos c1]
  by_cases c5 : p.c1 ≤ 5
  case neg => rw [decide_eq_false c5]; exact .inr (no (by unfold knownB; simp [c5]))
  have hk : knownB p = true := by unfold knownB; simp [c2, c0, c1, c5]
  rw [hk] at L4
  rw [decide_eq_true c5, cpOf_L1, if_pos rfl]
  simp only [g.check (by omega) hs, Option.bind_eq_bind, Option.bind_some, decide_true]
  obtain ⟨x, ok, e, hok⟩ := fields_spec g hs hc ⟨c1, c5⟩
  rw [cpOf_L2, if_pos rfl]
  simp only [e, Option.bind_eq_bind, Option.bind_some, cpCheck_eq]
  cases ok with
  | false =>
   rw [if_neg (by simp), cpOf_L3, if_neg (by simp)]
   exact .inr L4
  | true =>
   rw [if_pos rfl, cpOf_L3]
   by_cases hv : chkV x = 0
   ·rw [decide_eq_true hv, if_pos rfl]
    obtain ⟨h1, h2, h3⟩ := hok rfl
    refine .inl ⟨x, rfl, (chk0 x).1 hv, h3, ?_⟩
    have := S41.eta p
    rw [c0, c2, g.2.2.2.1 c2, h2, ← h1] at this
    exact this
   ·rw [decide_eq_false hv, if_neg (by simp)]
    exact .inr L4
 rcases key with h | h
 ·exact .inl h
 ·refine .inr ⟨h, fun x hV hb e => ?_⟩
  have e1 := cpOf_hit hV hb
  rw [e] at h
  have h' : cpOf (2, x.c0, true, [], partsC x) = some (rejT (treeC x)) := h
  rw [e1] at h'
  have h2 := congrArg (fun z : Option OfR => z.map errOf) h'
  unfold rejT at h2
  simp only [Option.map_some, errOf] at h2
  split at h2 <;> simp at h2
end Vf
set_option linter.unusedVariables false
set_option linter.unusedSimpArgs false
namespace Vf
open Go Go.Vx
theorem equal_self (x : S38) : equalC (x.c0, x.c1, x.c2, x.c3, x.c4, x.c5, x.c0, x.c1, x.c2, x.c3, x.c4, x.c5) = some true := by
 rw [equalC]
 simp only [strEq_self, equalC_L1, if_true]
theorem cpTree_eq {x : S38} (h : VC x) : cpTree (x.c0, x.c1, x.c2, x.c3, x.c4, x.c5) = some (2, x.c0, true, [], partsC x, 0) := by
 rw [cpTree]
 simp only [cpCheck_eq, (chk0 x).2 h, cpTreeI_eq h, Option.bind_eq_bind, Option.bind_some]
 rw [if_neg (by simp)]
theorem clipC_eq (l : List S38) : clipC l = some l := by
 have e : sub' l 0 (l.length : Int) = some l := by
  have := sub_to l l.length (Nat.le_refl _)
  simpa using this
 rw [clipC, e]
 rfl
def PQ (q : S41) : Prop := Gd 14 q ∧ szG 14 q ≤ 64
def OKL (l : List S41) : Prop := l.length ≤ 11 ∧ (∀ q, q ∈ l → PQ q) ∧ (l.map (wt 14)).sum ≤ 33230
def bodyT (tag : Int) (l : List S41) : S41 := ⟨1, tag, true, [], l⟩
theorem body_gd {tag : Int} {l : List S41} (h : OKL l) (h0 : 0 ≤ tag) (h1 : tag < 2097152) : Gd 15 (bodyT tag l) :=
 ⟨⟨by show (0 : Int) ≤ 1; omega, by show (1 : Int) < 4; omega⟩, ⟨h0, h1⟩, fun e => by simp [bodyT] at e, fun _ => rfl, fun e => by simp [bodyT] at e, fun b hb => by simp [bodyT] at hb, fun q hq => (h.2.1 q hq).1⟩
theorem body_sz {tag : Int} {l : List S41} (h : OKL l) : szG 15 (bodyT tag l) ≤ 1024 := by
 rw [szG]
 have := sum_le (F := szG 14) (B := 64) (l := l) (fun x hx => (h.2.1 x hx).2)
 have hl := h.1
 show 1 + (l.map (szG 14)).sum ≤ 1024
 omega
theorem body_wt {tag : Int} {l : List S41} (h : OKL l) : wt 15 (bodyT tag l) ≤ 33242 := by
 rw [wt]
 have := h.2.2
 show 12 + 0 + (l.map (wt 14)).sum ≤ 33242
 omega
theorem body_enc {tag : Int} {l : List S41} (h : OKL l) (h0 : 0 ≤ tag) (h1 : tag < 2097152) : encodeC (1, tag, true, [], l) = some (encP 15 0 (bodyT tag l), 0) := by
 have g := body_gd h h0 h1
 have := encodeAs_eq (n := 14) (x := bodyT tag l) (f := 0) g (by omega) (body_sz h) (Nat.le_trans (body_wt h) (by omega)) (.inl rfl)
 rw [encodeC]
 have e : encodeAs (1, tag, true, [], l, 0) = some (encP 15 0 (bodyT tag l), 0) := this
 simp only [e, Option.bind_eq_bind, Option.bind_some]
theorem encP_up : ∀ {n : Nat} {x : S41} {f : Int}, Gd n x → encP (n + 1) f x = encP n f x
 | 0, _, _, h => h.elim
 | n + 1, x, f, h => by
  rw [encP, encP]
  have e : ∀ f, (x.c4.flatMap (encP (n + 1) f)) = x.c4.flatMap (encP n f) := by
   intro f
   rw [List.flatMap_def, List.flatMap_def]
   congr 1
   exact List.map_congr_left (fun p hp => encP_up (h.2.2.2.2.2.2 p hp))
  simp only [e]
theorem body_dec {tag : Int} {l : List S41} (h : OKL l) (h0 : 0 ≤ tag) (h1 : tag < 2097152) : decode (encP 15 0 (bodyT tag l)) = some (1, tag, true, [], l, 0) := by
 have g := body_gd h h0 h1
 have g16 := g.succ
 have w := body_wt (tag := tag) h
 have b2 : (encP 15 0 (bodyT tag l)).length ≤ 65536 := by have := encP_len 15 0 _ g; omega
 have b1 := encB_bytes 15 0 _ g (.inl rfl) (by omega)
 have s16 : szG 16 (bodyT tag l) ≤ 1024 := by rw [szG_succ g]; exact body_sz h
 have d := dec_enc g16 0 0 [] (.inl rfl) (by omega) (by have : szG (15 + 1) (bodyT tag l) ≤ 1024 := s16; omega) (by rw [encP_up g]; exact b2)
 rw [encP_up g, List.append_nil] at d
 rw [decode, first_eq _ b1 b2, d]
 simp only [Option.bind_eq_bind, Option.bind_some]
 rw [if_neg (by simp), if_neg (by simp)]
 rfl
theorem OKL.okT {l : List S41} (h : OKL l) {p : S41} (hp : p ∈ l) : OkT p := by
 obtain ⟨g, hs⟩ := h.2.1 p hp
 refine ⟨g.succ, by rw [szG_succ g]; omega, fun q hq => ?_⟩
 have h1 : wt 14 p ≤ (l.map (wt 14)).sum := mem_le_sum (List.mem_map.2 ⟨p, hp, rfl⟩)
 have h2 : wt 13 q ≤ wt 14 p := wt_mem hq
 have h3 := h.2.2
 have gq := g.2.2.2.2.2.2 q hq
 have h4 : q.c3.length ≤ wt 13 q := by rw [wt]; omega
 omega
def ofR (p : S41) : OfR := (cpOf (p.c0, p.c1, p.c2, p.c3, p.c4)).getD (0, 0, 0, 0, 0, [], 0, 0, 0, 0, 0, [], 0)
def kindR (r : OfR) : Int := r.2.2.2.2.2.2.1
def compA (r : OfR) : S38 := ⟨r.1, r.2.1, r.2.2.1, r.2.2.2.1, r.2.2.2.2.1, r.2.2.2.2.2.1⟩
def compB (r : OfR) : S38 := ⟨r.2.2.2.2.2.2.1, r.2.2.2.2.2.2.2.1, r.2.2.2.2.2.2.2.2.1, r.2.2.2.2.2.2.2.2.2.1, r.2.2.2.2.2.2.2.2.2.2.1, r.2.2.2.2.2.2.2.2.2.2.2.1⟩
theorem headN_bound {p : S41} (h : OkT p) : -1 ≤ headN p.c4 ∧ headN p.c4 ≤ 127 := by
 have hbys := fun q hq => (h.1.2.2.2.2.2.2 q hq).2.2.2.2.2.1
 generalize p.c4 = l at hbys ⊢
 cases l with
 | nil => exact ⟨by decide, by decide⟩
 | cons y l =>
  unfold headN
  simp only
  split
  ·split
   ·rename_i b hb
    have := (hbys y (by simp)) b (by rw [hb]; simp)
    split <;> omega
   ·omega
  ·omega
theorem of_all {p : S41} (h : OkT p) : cpOf (p.c0, p.c1, p.c2, p.c3, p.c4) = some (ofR p) ∧ (errOf (ofR p) ≠ 0 → kindR (ofR p) = 0 ∨ (kindR (ofR p) = 5 ∧ chkV (compB (ofR p)) = 0)) := by
 have hB := headN_bound h
 rcases Of_full h with ⟨x, e, _⟩ | ⟨e, _⟩
 ·have e2 : ofR p = (x.c0, x.c1, x.c2, x.c3, x.c4, x.c5, 0, 0, 0, 0, 0, [], 0) := by unfold ofR; rw [e]; rfl
  rw [e2]
  exact ⟨e, fun hne => absurd rfl hne⟩
 ·have e2 : ofR p = rejT p := by unfold ofR; rw [e]; rfl
  rw [e2]
  refine ⟨e, fun _ => ?_⟩
  unfold rejT
  split
  ·exact .inl rfl
  ·refine .inr ⟨rfl, (chk0 _).2 ⟨by simp [compB], .inr ⟨rfl, hB.1, hB.2, rfl, rfl, rfl, ?_, ?_⟩⟩⟩
   ·show 1 ≤ (if knownB p = true then (2 : Int) else 1); split <;> omega
   ·show (if knownB p = true then (2 : Int) else 1) ≤ 7; split <;> omega
def goodL (l : List S41) : List S38 := l.filterMap fun p => if errOf (ofR p) = 0 then some (compA (ofR p)) else none
def badL (l : List S41) : List S38 := l.filterMap fun p => if errOf (ofR p) = 0 then none else if kindR (ofR p) = 5 then some (compB (ofR p)) else none
theorem fm_take {β : Type} (f : S41 → Option β) {l : List S41} {i : Nat} {y : S41} (h : l[i]? = some y) : (l.take (i + 1)).filterMap f = (l.take i).filterMap f ++ (f y).toList := by
 rw [List.take_add_one, h, List.filterMap_append]
 congr 1
theorem fm_len {β : Type} (f : S41 → Option β) (l : List S41) : (l.filterMap f).length ≤ l.length := List.length_filterMap_le f l
theorem review_loop {l : List S41} (hl : OKL l) : ∀ (m i : Nat), i + m = l.length → review_L2 (goodL (l.take i), badL (l.take i), l, (l.length : Int), (i : Int)) = some (goodL l, badL l, 0)
 | 0, i, h => by
  rw [review_L2]
  simp only
  rw [if_neg (by omega), List.take_of_length_le (by omega), clipC_eq, clipC_eq]
  rfl
 | m + 1, i, h => by
  have h11 := hl.1
  obtain ⟨y, hy⟩ : ∃ y, l[i]? = some y := ⟨_, List.getElem?_eq_getElem (by omega)⟩
  obtain ⟨e, _⟩ := of_all (hl.okT (List.mem_of_getElem? hy))
  have ih := review_loop hl m (i + 1) (by omega)
  have t1 := fm_take (fun p => if errOf (ofR p) = 0 then some (compA (ofR p)) else none) hy
  have t2 := fm_take (fun p => if errOf (ofR p) = 0 then none else if kindR (ofR p) = 5 then some (compB (ofR p)) else none) hy
  have l1 : (goodL (l.take i)).length ≤ 11 := by
   have := fm_len (fun p => if errOf (ofR p) = 0 then some (compA (ofR p)) else none) (l.take i)
   rw [List.length_take] at this
   show (List.filterMap _ _).length ≤ 11
   omega
  have l2 : (badL (l.take i)).length ≤ 11 := by
   have := fm_len (fun p => if errOf (ofR p) = 0 then none else if kindR (ofR p) = 5 then some (compB (ofR p)) else none) (l.take i)
   rw [List.length_take] at this
   show (List.filterMap _ _).length ≤ 11
   omega
  have L3 : ∀ a b, review_L3 (a, b, l, (l.length : Int), (i : Int)) = review_L2 (a, b, l, (l.length : Int), ((i + 1 : Nat) : Int)) := by
   intro a b
   rw [review_L3]
   simp only
   rw [wrap64 (by omega) (by omega), show ((i : Int) + 1) = ((i + 1 : Nat) : Int) by omega]
  rw [review_L2]
  simp only
  rw [if_pos (by omega), at'_get hy]
  simp only [Option.bind_eq_bind, Option.bind_some, e, L3]
  by_cases c : errOf (ofR y) = 0
  ·simp only [c, if_true, Option.toList_some, Option.toList_none, List.append_nil] at t1 t2
   rw [if_pos (show (ofR y).2.2.2.2.2.2.2.2.2.2.2.2 = 0 from c), app_ok (by simp; omega)]
   simp only [Option.bind_some]
   have e1 : goodL (l.take (i + 1)) = goodL (l.take i) ++ [compA (ofR y)] := t1
   have e2 : badL (l.take (i + 1)) = badL (l.take i) := t2
   rw [e1, e2] at ih
   exact ih
  ·simp only [c, if_false, Option.toList_none, List.append_nil] at t1 t2
   have e1 : goodL (l.take (i + 1)) = goodL (l.take i) := t1
   rw [if_neg (show ¬ (ofR y).2.2.2.2.2.2.2.2.2.2.2.2 = 0 from c)]
   by_cases k : kindR (ofR y) = 5
   ·simp only [k, if_true, Option.toList_some] at t2
    have e2 : badL (l.take (i + 1)) = badL (l.take i) ++ [compB (ofR y)] := t2
    rw [if_pos (show (ofR y).2.2.2.2.2.2.1 = 5 from k), app_ok (by simp; omega)]
    simp only [Option.bind_some]
    rw [e1, e2] at ih
    exact ih
   ·simp only [k, if_false, Option.toList_none, List.append_nil] at t2
    have e2 : badL (l.take (i + 1)) = badL (l.take i) := t2
    rw [if_neg (show ¬ (ofR y).2.2.2.2.2.2.1 = 5 from k)]
    rw [e1, e2] at ih
    exact ih
theorem review_eq {tag : Int} {l : List S41} (h : OKL l) (h0 : 0 ≤ tag) (h1 : tag < 2097152) : review (encP 15 0 (bodyT tag l)) = if tag = 1 then some (goodL l, badL l, 0) else some ([], [], 4) := by
 rw [review]
 simp only [body_dec h h0 h1, Option.bind_eq_bind, Option.bind_some]
 rw [if_neg (by simp), if_neg (by simp), if_neg (by simp), review_L1]
 by_cases c : tag = 1
 ·have hl := h.1
  rw [if_neg (by simp [c]), if_neg (by simp; omega), if_pos c]
  exact review_loop h l.length 0 (by omega)
 ·rw [if_pos (by simp [c]), if_neg c]
theorem law13 {l : List S41} (hl : OKL l) (tag : Int) : ∀ (m i : Nat), i + m = l.length → law_L13 (goodL l, badL l, ((goodL (l.take i)).length : Int), ((badL (l.take i)).length : Int), (i : Int), tag, l) = some true
 | 0, i, h => by
  rw [law_L13]
  simp only
  rw [if_neg (by omega), List.take_of_length_le (by omega), if_pos rfl, if_pos rfl, law_L17]
 | m + 1, i, h => by
  have h11 := hl.1
  obtain ⟨y, hy⟩ : ∃ y, l[i]? = some y := ⟨_, List.getElem?_eq_getElem (by omega)⟩
  obtain ⟨e, hk⟩ := of_all (hl.okT (List.mem_of_getElem? hy))
  have ih := law13 hl tag m (i + 1) (by omega)
  have t1 := fm_take (fun p => if errOf (ofR p) = 0 then some (compA (ofR p)) else none) hy
  have t2 := fm_take (fun p => if errOf (ofR p) = 0 then none else if kindR (ofR p) = 5 then some (compB (ofR p)) else none) hy
  have b1 : (goodL (l.take i)).length ≤ 11 := by
   have := fm_len (fun p => if errOf (ofR p) = 0 then some (compA (ofR p)) else none) (l.take i)
   rw [List.length_take] at this
   show (List.filterMap _ _).length ≤ 11
   omega
  have b2 : (badL (l.take i)).length ≤ 11 := by
   have := fm_len (fun p => if errOf (ofR p) = 0 then none else if kindR (ofR p) = 5 then some (compB (ofR p)) else none) (l.take i)
   rw [List.length_take] at this
   show (List.filterMap _ _).length ≤ 11
   omega
  have L16 : ∀ a b, law_L16 (goodL l, badL l, a, b, (i : Int), tag, l) = law_L13 (goodL l, badL l, a, b, ((i + 1 : Nat) : Int), tag, l) := by
   intro a b
   rw [law_L16]
   simp only
   rw [wrap64 (by omega) (by omega), show ((i : Int) + 1) = ((i + 1 : Nat) : Int) by omega]
  -- the whole lists begin with what is there so far
  have split : ∀ {β : Type} (f : S41 → Option β), l.filterMap f = (l.take (i + 1)).filterMap f ++ (l.drop (i + 1)).filterMap f := by
   intro β f
   rw [← List.filterMap_append, List.take_append_drop]
  rw [law_L13]
  simp only
  rw [if_pos (by omega), at'_get hy]
  simp only [Option.bind_eq_bind, Option.bind_some, e]
  by_cases c : errOf (ofR y) = 0
  ·simp only [c, if_true, Option.toList_some, Option.toList_none, List.append_nil] at t1 t2
   have e1 : goodL (l.take (i + 1)) = goodL (l.take i) ++ [compA (ofR y)] := t1
   have e2 : badL (l.take (i + 1)) = badL (l.take i) := t2
   have hg : (goodL l)[(goodL (l.take i)).length]? = some (compA (ofR y)) := by
    have hs := split (fun p => if errOf (ofR p) = 0 then some (compA (ofR p)) else none)
    have hs' : goodL l = goodL (l.take (i + 1)) ++ goodL (l.drop (i + 1)) := hs
    rw [hs', e1, List.append_assoc, List.getElem?_append_right (Nat.le_refl _), Nat.sub_self]
    rfl
   have hlt := (List.getElem?_eq_some_iff.1 hg).1
   rw [if_pos (show (ofR y).2.2.2.2.2.2.2.2.2.2.2.2 = 0 from c), if_neg (by omega), at'_get hg]
   have q := equal_self (compA (ofR y))
   have q' : equalC ((compA (ofR y)).c0, (compA (ofR y)).c1, (compA (ofR y)).c2, (compA (ofR y)).c3, (compA (ofR y)).c4, (compA (ofR y)).c5, (ofR y).1, (ofR y).2.1, (ofR y).2.2.1, (ofR y).2.2.2.1, (ofR y).2.2.2.2.1, (ofR y).2.2.2.2.2.1) = some true := q
   simp only [Option.bind_some, q', Bool.not_true]
   rw [law_L14, if_neg (by simp)]
   simp only [L16]
   rw [wrap64 (by omega) (by omega)]
   rw [e1, e2, List.length_append, List.length_singleton] at ih
   rw [show (((goodL (l.take i)).length : Int) + 1) = (((goodL (l.take i)).length + 1 : Nat) : Int) by omega]
   exact ih
  ·simp only [c, if_false, Option.toList_none, List.append_nil] at t1 t2
   have e1 : goodL (l.take (i + 1)) = goodL (l.take i) := t1
   rw [if_neg (show ¬ (ofR y).2.2.2.2.2.2.2.2.2.2.2.2 = 0 from c)]
   rcases hk c with k | ⟨k, hv⟩
   ·have k' : (ofR y).2.2.2.2.2.2.1 = 0 := k
    simp only [show ¬ kindR (ofR y) = 5 by omega, if_false, Option.toList_none, List.append_nil] at t2
    have e2 : badL (l.take (i + 1)) = badL (l.take i) := t2
    rw [if_neg (by omega), L16]
    rw [e1, e2] at ih
    exact ih
   ·have k' : (ofR y).2.2.2.2.2.2.1 = 5 := k
    simp only [k, if_true, Option.toList_some] at t2
    have e2 : badL (l.take (i + 1)) = badL (l.take i) ++ [compB (ofR y)] := t2
    have hg : (badL l)[(badL (l.take i)).length]? = some (compB (ofR y)) := by
     have hs := split (fun p => if errOf (ofR p) = 0 then none else if kindR (ofR p) = 5 then some (compB (ofR p)) else none)
     have hs' : badL l = badL (l.take (i + 1)) ++ badL (l.drop (i + 1)) := hs
     rw [hs', e2, List.append_assoc, List.getElem?_append_right (Nat.le_refl _), Nat.sub_self]
     rfl
    have hlt := (List.getElem?_eq_some_iff.1 hg).1
    rw [if_pos (by omega), if_neg (by omega), at'_get hg]
    have q := equal_self (compB (ofR y))
    have q' : equalC ((compB (ofR y)).c0, (compB (ofR y)).c1, (compB (ofR y)).c2, (compB (ofR y)).c3, (compB (ofR y)).c4, (compB (ofR y)).c5, (ofR y).2.2.2.2.2.2.1, (ofR y).2.2.2.2.2.2.2.1, (ofR y).2.2.2.2.2.2.2.2.1, (ofR y).2.2.2.2.2.2.2.2.2.1, (ofR y).2.2.2.2.2.2.2.2.2.2.1, (ofR y).2.2.2.2.2.2.2.2.2.2.2.1) = some true := q
    simp only [Option.bind_some, q', Bool.not_true, cpCheck_eq, hv, decide_true]
    rw [if_neg (by simp), law_L15, if_neg (by simp)]
    simp only [L16]
    rw [wrap64 (by omega) (by omega)]
    rw [e1, e2, List.length_append, List.length_singleton] at ih
    rw [show (((badL (l.take i)).length : Int) + 1) = (((badL (l.take i)).length + 1 : Nat) : Int) by omega]
    exact ih
theorem law10 {tag : Int} {l : List S41} (h : OKL l) (h0 : 0 ≤ tag) (h1 : tag < 2097152) : law_L10 (tag, l) = some true := by
 rw [law_L10]
 simp only [body_enc h h0 h1, review_eq h h0 h1, Option.bind_eq_bind, Option.bind_some]
 rw [if_neg (by simp)]
 by_cases c : tag = 1
 ·simp only [c, if_true, Option.bind_some, decide_true, Bool.not_true]
  rw [if_neg (by simp), if_neg (by simp), if_neg (by simp), law_L12, if_neg (by simp)]
  exact law13 h 1 l.length 0 (by omega)
 ·simp only [c, if_false, Option.bind_some, decide_false, Bool.not_false]
  simp only [List.length_nil, if_true]
  rw [if_pos (by rw [wrap64 (by simp) (by simp)]; rfl), law_L11]
end Vf
set_option linter.unusedVariables false
set_option linter.unusedSimpArgs false
namespace Vf
open Go Go.Vx
theorem sum_set {f : S41 → Nat} : ∀ {l : List S41} {i : Nat} {y y' : S41}, l[i]? = some y → f y' ≤ f y → ((l.set i y').map f).sum ≤ (l.map f).sum
 | [], i, y, y', h, _ => by simp at h
 | x :: l, 0, y, y', h, hf => by
  simp at h
  subst h
  simp only [List.set_cons_zero, List.map_cons, List.sum_cons]
  omega
 | x :: l, i + 1, y, y', h, hf => by
  have := sum_set (l := l) (i := i) (f := f) (by simpa using h) hf
  simp only [List.set_cons_succ, List.map_cons, List.sum_cons]
  omega
theorem sum_drop {f : S41 → Nat} (l : List S41) : ((l.drop 1).map f).sum ≤ (l.map f).sum := by
 cases l with
 | nil => simp
 | cons x l => simp
def cutT (y : S41) : S41 := ⟨y.c0, y.c1, y.c2, y.c3, y.c4.drop 1⟩
theorem cut_ok {y : S41} (h : PQ y) : PQ (cutT y) ∧ wt 14 (cutT y) ≤ wt 14 y := by
 obtain ⟨⟨g1, g2, g3, g4, g5, g6, g7⟩, hs⟩ := h
 have d1 := sum_drop (f := szG 13) y.c4
 have d2 := sum_drop (f := wt 13) y.c4
 refine ⟨⟨⟨g1, g2, g3, g4, fun e => by show y.c4.drop 1 = []; rw [g5 e]; rfl, g6, fun p hp => g7 p (List.mem_of_mem_drop hp)⟩, ?_⟩, ?_⟩
 ·rw [szG] at hs ⊢
  show 1 + ((y.c4.drop 1).map (szG 13)).sum ≤ 64
  omega
 ·rw [wt, wt]
  show 12 + y.c3.length + ((y.c4.drop 1).map (wt 13)).sum ≤ _
  omega
theorem OKL.set {l : List S41} (h : OKL l) {i : Nat} {y : S41} (hy : l[i]? = some y) : OKL (l.set i (cutT y)) := by
 have hc := cut_ok (h.2.1 y (List.mem_of_getElem? hy))
 refine ⟨by rw [List.length_set]; exact h.1, fun q hq => ?_, Nat.le_trans (sum_set hy hc.2) h.2.2⟩
 rcases List.mem_or_eq_of_mem_set hq with hq | rfl
 ·exact h.2.1 q hq
 ·exact hc.1
theorem law7 (h0 h1 : Int) : ∀ (m i : Nat) (l : List S41), OKL l → i + m = l.length → law_L7 ((i : Int), h0, h1, l) = some true
 | 0, i, l, hl, h => by
  rw [law_L7]
  simp only
  rw [if_neg (by omega)]
  exact law10 hl (by omega) (by omega)
 | m + 1, i, l, hl, h => by
  have h11 := hl.1
  obtain ⟨y, hy⟩ : ∃ y, l[i]? = some y := ⟨_, List.getElem?_eq_getElem (by omega)⟩
  have L9 : ∀ l', OKL l' → l'.length = l.length → law_L9 ((i : Int), h0, h1, l') = some true := by
   intro l' hl' e
   rw [law_L9]
   simp only
   rw [wrap64 (by omega) (by omega), show ((i : Int) + 1) = ((i + 1 : Nat) : Int) by omega]
   exact law7 h0 h1 m (i + 1) l' hl' (by omega)
  have no : law_L8 ((i : Int), false, h0, h1, l) = some true := by
   rw [law_L8, if_neg (by simp)]
   exact L9 l hl rfl
  rw [law_L7]
  simp only
  rw [if_pos (by omega)]
  by_cases c : remI .i64 (i : Int) 2 = IntKind.i64.wrap (remI .u8 h1 2)
  ·rw [if_pos c, at'_get hy]
   simp only [Option.bind_eq_bind, Option.bind_some]
   by_cases cl : 0 < (y.c4.length : Int)
   ·rw [decide_eq_true cl, law_L8, if_pos rfl]
    have hs : sub' y.c4 1 (y.c4.length : Int) = some (y.c4.drop 1) := sub_from y.c4 1 (by omega)
    have ht : setR l (i : Int) (S41.mk y.c0 y.c1 y.c2 y.c3 (y.c4.drop 1)) = some (l.set i (cutT y)) := by
     unfold setR
     rw [if_pos (by omega)]
     rfl
    simp only [at'_get hy, hs, ht, Option.bind_eq_bind, Option.bind_some]
    exact L9 _ (hl.set hy) (by rw [List.length_set])
   ·rw [decide_eq_false cl]
    exact no
  ·rw [if_neg c]
   exact no
theorem treeC_pq {x : S38} (hV : VC x) (hb : Bys x.c5) : PQ (treeC x) ∧ wt 14 (treeC x) ≤ 2075 := by
 have g := treeC_gd hV hb
 refine ⟨⟨g.le (by omega), ?_⟩, ?_⟩
 ·rw [szG_le g (by omega)]
  have := treeC_sz x
  omega
 ·rw [wt_le g (by omega)]
  exact treeC_wt hV
theorem okl_trees {l : List S38} (hv : AllV l) (hl : l.length ≤ 10) : (l.map treeC).length ≤ 10 ∧ (∀ q, q ∈ l.map treeC → PQ q) ∧ ((l.map treeC).map (wt 14)).sum ≤ 20750 := by
 refine ⟨by rw [List.length_map]; exact hl, fun q hq => ?_, ?_⟩
 ·obtain ⟨x, hx, rfl⟩ := List.mem_map.1 hq
  exact (treeC_pq (hv x hx).1 (hv x hx).2).1
 ·have := sum_le (F := wt 14) (B := 2075) (l := l.map treeC) (fun q hq => by
   obtain ⟨x, hx, rfl⟩ := List.mem_map.1 hq
   exact (treeC_pq (hv x hx).1 (hv x hx).2).2)
  rw [List.length_map] at this
  omega
theorem of_ten (l : List S30) (hok : ∀ y, y ∈ l → okN y) : ∃ t0 t1 t2 t3 t4, tOf l = some (t0, t1, t2, t3, t4) ∧ PQ ⟨t0, t1, t2, t3, t4⟩ ∧ wt 14 ⟨t0, t1, t2, t3, t4⟩ ≤ 12480 := by
 by_cases h0 : l.length = 0
 ·refine ⟨3, 1, false, [], [], ?_, ⟨?_, ?_⟩, ?_⟩
  ·rw [tOf, grown]
   simp only
   rw [if_pos (by omega), grown_L1]
   simp
  ·exact ⟨by decide, by decide, by decide, fun h => by simp at h, fun _ => rfl, by simp, fun p hp => by simp at hp⟩
  ·rw [szG]; simp
  ·rw [wt]; simp
 ·obtain ⟨t0, t1, t2, t3, t4, nx, e, hg, hs, hn⟩ := (grown_all l hok 40).1 0 1 (by omega) (by omega) (by omega) (by omega) (by omega)
  have e' : grown (l, 0, 1) = some (t0, t1, t2, t3, t4, (nx : Int)) := e
  have g : Gd 10 ⟨t0, t1, t2, t3, t4⟩ := hg.1
  have hs' : szG 10 ⟨t0, t1, t2, t3, t4⟩ + 0 ≤ nx := hs
  have sm : wt 10 ⟨t0, t1, t2, t3, t4⟩ ≤ 312 * szG 10 ⟨t0, t1, t2, t3, t4⟩ := Sm.wt (n := 10) hg.2
  refine ⟨t0, t1, t2, t3, t4, by rw [tOf, e']; rfl, ⟨g.le (by omega), ?_⟩, ?_⟩
  ·rw [szG_le g (by omega)]; omega
  ·rw [wt_le g (by omega)]; omega
theorem tag3 (w : Int) (h : 0 ≤ w) : 0 ≤ IntKind.u32.wrap (remI .u8 w 3) ∧ IntKind.u32.wrap (remI .u8 w 3) < 2097152 := by
 have a0 := Int.tmod_nonneg 3 h
 have a1 := Int.tmod_lt_of_pos w (b := 3) (by omega)
 have e : remI .u8 w 3 = w.tmod 3 := rfl
 rw [e, wrapU32 (by omega) (by omega)]
 omega
theorem law5 {xs : List S30} (hx : ∀ y, y ∈ xs → okN y) {l : List S38} (hv : AllV l) (hl : l.length ≤ 10) (h0 h1 : Int) (hh : 0 ≤ h1) : ∀ (m i : Nat), i + m = l.length → law_L5 (xs, l, (i : Int), h0, h1, (l.take i).map treeC) = some true
 | 0, i, h => by
  rw [law_L5]
  simp only
  rw [if_neg (by omega), List.take_of_length_le (by omega)]
  obtain ⟨t0, t1, t2, t3, t4, e, hp, hw⟩ := of_ten xs hx
  obtain ⟨k1, k2, k3⟩ := okl_trees hv hl
  generalize l.map treeC = L at k1 k2 k3 ⊢
  have kL : OKL L := ⟨by omega, k2, by omega⟩
  have tg := tag3 h1 hh
  simp only [e, Option.bind_eq_bind, Option.bind_some]
  have kA : OKL (L ++ [⟨t0, t1, t2, t3, t4⟩]) := by
   refine ⟨by rw [List.length_append, List.length_singleton]; omega, fun q hq => ?_, ?_⟩
   ·rcases List.mem_append.1 hq with hq | hq
    ·exact k2 q hq
    ·simp only [List.mem_singleton] at hq; subst hq; exact hp
   ·rw [List.map_append, List.sum_append]
    simp only [List.map_cons, List.map_nil, List.sum_cons, List.sum_nil]
    omega
  have kB : OKL ([⟨t0, t1, t2, t3, t4⟩] ++ L) := by
   refine ⟨by rw [List.length_append, List.length_singleton]; omega, fun q hq => ?_, ?_⟩
   ·rcases List.mem_append.1 hq with hq | hq
    ·simp only [List.mem_singleton] at hq; subst hq; exact hp
    ·exact k2 q hq
   ·rw [List.map_append, List.sum_append]
    simp only [List.map_cons, List.map_nil, List.sum_cons, List.sum_nil]
    omega
  by_cases c1 : remI .u8 h0 5 = 1
  ·rw [if_pos c1, app_ok (by simp; omega)]
   exact law10 kA (by omega) (by omega)
  rw [if_neg c1]
  by_cases c2 : remI .u8 h0 5 = 2
  ·rw [if_pos c2, app_ok (by simp; omega)]
   simp only [Option.bind_some]
   by_cases cl : L.length = 0
   ·rw [if_pos cl]
    have := List.eq_nil_of_length_eq_zero cl
    subst this
    exact law10 kB (by omega) (by omega)
   ·rw [if_neg cl]
    exact law10 kB (by omega) (by omega)
  rw [if_neg c2]
  by_cases c3 : remI .u8 h0 5 = 3
  ·rw [if_pos c3]
   exact law7 h0 h1 L.length 0 L kL (by omega)
  rw [if_neg c3]
  by_cases c4 : remI .u8 h0 5 = 4
  ·rw [if_pos c4]
   exact law10 kL tg.1 tg.2
  rw [if_neg c4]
  exact law10 kL (by omega) (by omega)
 | m + 1, i, h => by
  obtain ⟨x, hx'⟩ : ∃ p, l[i]? = some p := ⟨_, List.getElem?_eq_getElem (by omega)⟩
  obtain ⟨hV, hb⟩ := hv x (List.mem_of_getElem? hx')
  have ih := law5 hx hv hl h0 h1 hh m (i + 1) (by omega)
  rw [law_L5]
  simp only
  rw [if_pos (by omega), at'_get hx']
  simp only [Option.bind_eq_bind, Option.bind_some, cpTree_eq hV]
  rw [app_ok (by simp [List.length_take]; omega)]
  simp only [Option.bind_some]
  rw [wrap64 (by omega) (by omega), show ((i : Int) + 1) = ((i + 1 : Nat) : Int) by omega]
  rw [List.take_add_one, hx', List.map_append] at ih
  exact ih
theorem law4 {xs : List S30} (hx : ∀ y, y ∈ xs → okN y) {l : List S38} (hv : AllV l) (hl : l.length ≤ 10) (h0 h1 : Int) (hh : 0 ≤ h1) : law_L4 (xs, l, h0, h1) = some true := by
 rw [law_L4]
 simp only
 cases l with
 | cons x l =>
  obtain ⟨hV, hb⟩ := hv x (by simp)
  rw [if_pos (by simp), at0]
  simp only [Option.bind_eq_bind, Option.bind_some, cpTree_eq hV]
  exact law5 hx hv hl h0 h1 hh l.length 1 (by simp; omega)
 | nil =>
  rw [if_neg (by simp)]
  obtain ⟨t0, t1, t2, t3, t4, e, hp, hw⟩ := of_ten xs hx
  simp only [e, Option.bind_eq_bind, Option.bind_some]
  have k0 : OKL [] := ⟨by simp, fun q hq => by simp at hq, by simp⟩
  have k1 : OKL [⟨t0, t1, t2, t3, t4⟩] := by
   refine ⟨by simp, fun q hq => ?_, ?_⟩
   ·simp only [List.mem_singleton] at hq; subst hq; exact hp
   ·simp only [List.map_cons, List.map_nil, List.sum_cons, List.sum_nil]
    omega
  have tg := tag3 h1 hh
  by_cases c1 : remI .u8 h0 5 = 1
  ·rw [if_pos c1]; exact law10 k1 (by omega) (by omega)
  rw [if_neg c1]
  by_cases c2 : remI .u8 h0 5 = 2
  ·rw [if_pos c2]; exact law10 k1 (by omega) (by omega)
  rw [if_neg c2]
  by_cases c3 : remI .u8 h0 5 = 3
  ·rw [if_pos c3, law_L6]; exact law10 k0 (by omega) (by omega)
  rw [if_neg c3]
  by_cases c4 : remI .u8 h0 5 = 4
  ·rw [if_pos c4]; exact law10 k0 tg.1 tg.2
  rw [if_neg c4]
  exact law10 k0 (by omega) (by omega)
theorem law3 {ks : List S27} (hk : ∀ y, y ∈ ks → okK y) {xs : List S30} (hx : ∀ y, y ∈ xs → okN y) (z : Bool) (hz : z = false → ks.length ≤ 10) (h0 h1 : Int) (hh : 0 ≤ h1) : law_L3 (ks, xs, z, h0, h1) = some true := by
 rw [law_L3]
 cases z with
 | true => rw [if_pos rfl]
 | false =>
  rw [if_neg (by simp)]
  have hl := hz rfl
  obtain ⟨l, e, hv, h⟩ := listK_loop hk (by omega) ks.length 0 [] (by omega) rfl (fun x hx => by simp at hx)
  have e' : listK ks = some l := by rw [listK]; exact e
  simp only [e', Option.bind_eq_bind, Option.bind_some]
  exact law4 hx hv (by omega) h0 h1 hh
theorem big_all (l : List S30) (hl : l.length < 9223372036854775808) : ∃ b, big31 l = some b := by
 have L3 : ∀ b, ∃ c, big31_L3 b = some c := fun b => ⟨b, by rw [big31_L3]⟩
 have no : ∀ (i : Nat) (n : Int), ∃ b, big31_L2 (l, n, (i : Int), false) = some b := by
  intro i n
  rw [big31_L2, if_neg (by simp)]
  split
  ·exact L3 _
  ·exact L3 _
 have key : ∀ (m i : Nat) (n : Int), i + m = l.length → ∃ b, big31_L1 (l, n, (i : Int)) = some b := by
  intro m
  induction m with
  | zero =>
   intro i n h
   rw [big31_L1]
   simp only
   rw [if_neg (by omega)]
   exact no i n
  | succ m ih =>
   intro i n h
   obtain ⟨y, hy⟩ : ∃ p, l[i]? = some p := ⟨_, List.getElem?_eq_getElem (by omega)⟩
   rw [big31_L1]
   simp only
   rw [if_pos (by omega)]
   by_cases c : (i : Int) < 50
   ·rw [decide_eq_true c, big31_L2, if_pos rfl]
    simp only [at'_get hy, Option.bind_eq_bind, Option.bind_some]
    rw [wrap64 (n := (i : Int) + 1) (by omega) (by omega), show ((i : Int) + 1) = ((i + 1 : Nat) : Int) by omega]
    exact ih (i + 1) _ (by omega)
   ·rw [decide_eq_false c]
    exact no i n
 rw [big31]
 exact key l.length 0 0 (by omega)
theorem law1 {ks : List S27} (hk : ∀ y, y ∈ ks → okK y) (hn : ks.length < 9223372036854775808) {xs : List S30} (hx : ∀ y, y ∈ xs → okN y) (hxn : xs.length < 9223372036854775808) (h0 h1 : Int) (hh : 0 ≤ h1) : ∀ (m i : Nat) (size : Int), i + m = ks.length → law_L1 (ks, xs, size, (i : Int), h0, h1) = some true := by
 have no : ∀ (i : Nat) (size : Int), law_L2 (ks, xs, size, (i : Int), false, h0, h1) = some true := by
  intro i size
  rw [law_L2, if_neg (by simp)]
  split
  ·exact law3 hk hx _ (by simp) h0 h1 hh
  ·rename_i c
   split
   ·exact law3 hk hx _ (by simp) h0 h1 hh
   ·obtain ⟨b, hb⟩ := big_all xs hxn
    simp only [hb, Option.bind_eq_bind, Option.bind_some]
    have c' : ¬ (10 < (ks.length : Int)) := c
    exact law3 hk hx _ (fun _ => by omega) h0 h1 hh
 intro m
 induction m with
 | zero =>
  intro i size h
  rw [law_L1]
  simp only
  rw [if_neg (by omega)]
  exact no i size
 | succ m ih =>
  intro i size h
  obtain ⟨y, hy⟩ : ∃ p, ks[i]? = some p := ⟨_, List.getElem?_eq_getElem (by omega)⟩
  rw [law_L1]
  simp only
  rw [if_pos (by omega)]
  by_cases c : (i : Int) < 20
  ·rw [decide_eq_true c, law_L2, if_pos rfl]
   simp only [at'_get hy, Option.bind_eq_bind, Option.bind_some]
   rw [wrap64 (n := (i : Int) + 1) (by omega) (by omega), show ((i : Int) + 1) = ((i + 1 : Nat) : Int) by omega]
   exact ih (i + 1) _ (by omega)
  ·rw [decide_eq_false c]
   exact no i size
theorem law_true (ks : List S27) (xs : List S30) (h0 h1 : Int) (hk : ∀ y, y ∈ ks → okK y) (hn : ks.length < 9223372036854775808) (hx : ∀ y, y ∈ xs → okN y) (hxn : xs.length < 9223372036854775808) (hh : 0 ≤ h1) : law (ks, xs, h0, h1) = some true := by
 rw [law]
 exact law1 hk hn hx hxn h0 h1 hh ks.length 0 0 (by omega)
end Vf
