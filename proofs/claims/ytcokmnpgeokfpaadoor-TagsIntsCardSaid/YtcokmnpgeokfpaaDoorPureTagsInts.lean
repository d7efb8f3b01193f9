/-
  The plain law of TagsInts: what the printed functions come to.
-/
import Derived.Test.YtcokmnpgeokfpaaDoorPTagsIntsx3
set_option linter.unusedVariables false
set_option linter.unusedSimpArgs false
namespace Go.Proofs.YtcokmnpgeokfpaaDoor.Pure
open Go.RowKit Go.Proofs.YtcokmnpgeokfpaaDoor.PTagsInts Go.Proofs.YtcokmnpgeokfpaaDoorW.PrintWords Go.Proofs.YtcokmnpgeokfpaaDoorW.PrintLast Go.Proofs.YtcokmnpgeokfpaaDoorW.PrintMore

theorem or64 (x y : Int) (hx : x % 256 = 0) (h0 : -9223372036854775808 ≤ x) (h1 : x < 9223372036854775808) (hy0 : 0 ≤ y) (hy : y < 256) : Go.bits .or .i64 x y = x + y := by
  obtain ⟨b, rfl⟩ := Int.eq_ofNat_of_zero_le hy0
  have hX : (x % 18446744073709551616).toNat % 256 = 0 := by omega
  obtain ⟨X, hXe⟩ : ∃ X, (x % 18446744073709551616).toNat = X := ⟨_, rfl⟩
  rw [hXe] at hX
  have hq : X = 2 ^ 8 * (X / 2 ^ 8) := by omega
  have hor : X ||| b = X + b := by
    rw [hq, ← Nat.two_pow_add_eq_or_of_lt (by omega) (X / 2 ^ 8)]
  have hb : b % 2 ^ IntKind.i64.bits = b := Nat.mod_eq_of_lt (by show b < 18446744073709551616; omega)
  have hx2 : (x % ((2 ^ IntKind.i64.bits : Nat) : Int)).toNat = X := hXe
  simp only [bits, BitVec.toNat_or, BitVec.ofInt_natCast, BitVec.toNat_ofNat, BitVec.toNat_ofInt, hb, hx2]
  rw [hor, IntKind.wrap_i64]
  omega

theorem w64 {x : Int} (h0 : -9223372036854775808 ≤ x) (h1 : x < 9223372036854775808) : wrap64 x = x := by unfold wrap64; omega
theorem i8w {x : Int} (h0 : 0 ≤ x) (h1 : x < 256) : IntKind.i8.wrap x = if x < 128 then x else x - 256 := by
  simp [IntKind.wrap, IntKind.bits, IntKind.signed]
  split <;> split <;> omega

theorem int1 (n : Int) (h : n / 128 = 0 ∨ n / 128 = -1) : tags_Int.f 30 n = some [(n / 1) % 256] := by
  rcases h with h | h <;> simp [tags_Int.f, tags_Int.l0, tags_Int.j1, tags_Int.l1, wrap64, shr, IntKind.bits, h]

theorem int2 (n : Int) (h1 : ¬ (n / 128 = 0)) (g1 : ¬ (n / 128 = -1)) (h : n / 32768 = 0 ∨ n / 32768 = -1) : tags_Int.f 30 n = some [(n / 256) % 256, (n / 1) % 256] := by
  rcases h with h | h <;> simp [tags_Int.f, tags_Int.l0, tags_Int.j1, tags_Int.l1, wrap64, shr, IntKind.bits, h1, g1, h]

theorem int3 (n : Int) (h1 : ¬ (n / 128 = 0)) (g1 : ¬ (n / 128 = -1)) (h2 : ¬ (n / 32768 = 0)) (g2 : ¬ (n / 32768 = -1)) (h : n / 8388608 = 0 ∨ n / 8388608 = -1) : tags_Int.f 30 n = some [(n / 65536) % 256, (n / 256) % 256, (n / 1) % 256] := by
  rcases h with h | h <;> simp [tags_Int.f, tags_Int.l0, tags_Int.j1, tags_Int.l1, wrap64, shr, IntKind.bits, h1, g1, h2, g2, h]

theorem int4 (n : Int) (h1 : ¬ (n / 128 = 0)) (g1 : ¬ (n / 128 = -1)) (h2 : ¬ (n / 32768 = 0)) (g2 : ¬ (n / 32768 = -1)) (h3 : ¬ (n / 8388608 = 0)) (g3 : ¬ (n / 8388608 = -1)) (h : n / 2147483648 = 0 ∨ n / 2147483648 = -1) : tags_Int.f 30 n = some [(n / 16777216) % 256, (n / 65536) % 256, (n / 256) % 256, (n / 1) % 256] := by
  rcases h with h | h <;> simp [tags_Int.f, tags_Int.l0, tags_Int.j1, tags_Int.l1, wrap64, shr, IntKind.bits, h1, g1, h2, g2, h3, g3, h]

theorem int5 (n : Int) (h1 : ¬ (n / 128 = 0)) (g1 : ¬ (n / 128 = -1)) (h2 : ¬ (n / 32768 = 0)) (g2 : ¬ (n / 32768 = -1)) (h3 : ¬ (n / 8388608 = 0)) (g3 : ¬ (n / 8388608 = -1)) (h4 : ¬ (n / 2147483648 = 0)) (g4 : ¬ (n / 2147483648 = -1)) (h : n / 549755813888 = 0 ∨ n / 549755813888 = -1) : tags_Int.f 30 n = some [(n / 4294967296) % 256, (n / 16777216) % 256, (n / 65536) % 256, (n / 256) % 256, (n / 1) % 256] := by
  rcases h with h | h <;> simp [tags_Int.f, tags_Int.l0, tags_Int.j1, tags_Int.l1, wrap64, shr, IntKind.bits, h1, g1, h2, g2, h3, g3, h4, g4, h]

theorem int6 (n : Int) (h1 : ¬ (n / 128 = 0)) (g1 : ¬ (n / 128 = -1)) (h2 : ¬ (n / 32768 = 0)) (g2 : ¬ (n / 32768 = -1)) (h3 : ¬ (n / 8388608 = 0)) (g3 : ¬ (n / 8388608 = -1)) (h4 : ¬ (n / 2147483648 = 0)) (g4 : ¬ (n / 2147483648 = -1)) (h5 : ¬ (n / 549755813888 = 0)) (g5 : ¬ (n / 549755813888 = -1)) (h : n / 140737488355328 = 0 ∨ n / 140737488355328 = -1) : tags_Int.f 30 n = some [(n / 1099511627776) % 256, (n / 4294967296) % 256, (n / 16777216) % 256, (n / 65536) % 256, (n / 256) % 256, (n / 1) % 256] := by
  rcases h with h | h <;> simp [tags_Int.f, tags_Int.l0, tags_Int.j1, tags_Int.l1, wrap64, shr, IntKind.bits, h1, g1, h2, g2, h3, g3, h4, g4, h5, g5, h]

theorem int7 (n : Int) (h1 : ¬ (n / 128 = 0)) (g1 : ¬ (n / 128 = -1)) (h2 : ¬ (n / 32768 = 0)) (g2 : ¬ (n / 32768 = -1)) (h3 : ¬ (n / 8388608 = 0)) (g3 : ¬ (n / 8388608 = -1)) (h4 : ¬ (n / 2147483648 = 0)) (g4 : ¬ (n / 2147483648 = -1)) (h5 : ¬ (n / 549755813888 = 0)) (g5 : ¬ (n / 549755813888 = -1)) (h6 : ¬ (n / 140737488355328 = 0)) (g6 : ¬ (n / 140737488355328 = -1)) (h : n / 36028797018963968 = 0 ∨ n / 36028797018963968 = -1) : tags_Int.f 30 n = some [(n / 281474976710656) % 256, (n / 1099511627776) % 256, (n / 4294967296) % 256, (n / 16777216) % 256, (n / 65536) % 256, (n / 256) % 256, (n / 1) % 256] := by
  rcases h with h | h <;> simp [tags_Int.f, tags_Int.l0, tags_Int.j1, tags_Int.l1, wrap64, shr, IntKind.bits, h1, g1, h2, g2, h3, g3, h4, g4, h5, g5, h6, g6, h]

theorem int8 (n : Int) (h1 : ¬ (n / 128 = 0)) (g1 : ¬ (n / 128 = -1)) (h2 : ¬ (n / 32768 = 0)) (g2 : ¬ (n / 32768 = -1)) (h3 : ¬ (n / 8388608 = 0)) (g3 : ¬ (n / 8388608 = -1)) (h4 : ¬ (n / 2147483648 = 0)) (g4 : ¬ (n / 2147483648 = -1)) (h5 : ¬ (n / 549755813888 = 0)) (g5 : ¬ (n / 549755813888 = -1)) (h6 : ¬ (n / 140737488355328 = 0)) (g6 : ¬ (n / 140737488355328 = -1)) (h7 : ¬ (n / 36028797018963968 = 0)) (g7 : ¬ (n / 36028797018963968 = -1)) : tags_Int.f 30 n = some [(n / 72057594037927936) % 256, (n / 281474976710656) % 256, (n / 1099511627776) % 256, (n / 4294967296) % 256, (n / 16777216) % 256, (n / 65536) % 256, (n / 256) % 256, (n / 1) % 256] := by
  simp [tags_Int.f, tags_Int.l0, tags_Int.j1, tags_Int.l1, wrap64, shr, IntKind.bits, h1, g1, h2, g2, h3, g3, h4, g4, h5, g5, h6, g6, h7, g7]

/-- the lowest k bytes of a number, the highest first -/
def be : Nat → Int → List Int
  | 0, _ => []
  | k + 1, n => be k (n / 256) ++ [n % 256]
def fold (s : Int) (t : List Int) : Int := t.foldl (fun a x => a * 256 + x) s
def s8 (b : Int) : Int := if b < 128 then b else b - 256
def sval : List Int → Int
  | [] => 0
  | b :: t => fold (s8 b) t
def Bytes (l : List Int) : Prop := ∀ x ∈ l, 0 ≤ x ∧ x < 256
def fits (k : Nat) (n : Int) : Prop := -(2 ^ (8 * k - 1) : Int) ≤ n ∧ n < 2 ^ (8 * k - 1)

theorem pow_step (k : Nat) (h : 1 ≤ k) : (2 : Int) ^ (8 * (k + 1) - 1) = 256 * 2 ^ (8 * k - 1) := by
  rw [show 8 * (k + 1) - 1 = (8 * k - 1) + 8 by omega, Int.pow_add, Int.mul_comm]
  rfl

theorem be_len : ∀ k n, (be k n).length = k
  | 0, _ => rfl
  | k + 1, n => by simp [be, be_len k]
theorem be_bytes : ∀ k n, Bytes (be k n)
  | 0, _ => fun x h => by simp [be] at h
  | k + 1, n => fun x h => by
    simp only [be, List.mem_append, List.mem_singleton] at h
    rcases h with h | h
    · exact be_bytes k _ x h
    · omega
theorem fold_snoc (s : Int) (t : List Int) (x : Int) : fold s (t ++ [x]) = fold s t * 256 + x := by simp [fold]
theorem sval_snoc {l : List Int} (h : l ≠ []) (x : Int) : sval (l ++ [x]) = sval l * 256 + x := by
  cases l with
  | nil => exact absurd rfl h
  | cons b t => exact fold_snoc _ _ _
theorem be_ne {k : Nat} (h : 1 ≤ k) (n : Int) : be k n ≠ [] := by
  intro e
  have := be_len k n
  rw [e] at this
  simp at this
  omega

theorem sval_be : ∀ k n, 1 ≤ k → fits k n → sval (be k n) = n := by
  intro k
  induction k with
  | zero => intro n h; omega
  | succ k ih =>
    intro n _ hf
    by_cases hk : k = 0
    · subst hk
      simp only [fits] at hf
      simp only [be, List.nil_append, sval, fold, List.foldl_nil, s8]
      have h1 : (2 : Int) ^ (8 * (0 + 1) - 1) = 128 := by decide
      rw [h1] at hf
      split <;> omega
    · have hk1 : 1 ≤ k := by omega
      simp only [be]
      rw [sval_snoc (be_ne hk1 _), ih (n / 256) hk1 ?_]
      · omega
      · simp only [fits] at hf ⊢
        rw [pow_step k hk1] at hf
        generalize (2 : Int) ^ (8 * k - 1) = P at *
        omega

theorem be_sval : ∀ (k : Nat) (l : List Int), l.length = k → 1 ≤ k → Bytes l → be k (sval l) = l ∧ fits k (sval l) := by
  intro k
  induction k with
  | zero => intro l _ h; omega
  | succ k ih =>
    intro l hl _ hb
    obtain ⟨t, x, rfl⟩ : ∃ t x, l = t ++ [x] := by
      refine ⟨l.dropLast, l.getLast (by intro e; rw [e] at hl; simp at hl), (List.dropLast_concat_getLast _).symm⟩
    have hx := hb x (by simp)
    have ht : t.length = k := by simpa using hl
    by_cases hk : k = 0
    · subst hk
      have : t = [] := List.eq_nil_of_length_eq_zero ht
      subst this
      have h1 : (2 : Int) ^ (8 * (0 + 1) - 1) = 128 := by decide
      simp only [List.nil_append, sval, fold, List.foldl_nil, s8, be, fits, h1]
      refine ⟨?_, ?_⟩
      · split
        · rw [show x % 256 = x by omega]
        · rw [show (x - 256) % 256 = x by omega]
      · split <;> omega
    · have hk1 : 1 ≤ k := by omega
      have hne : t ≠ [] := by intro e; rw [e] at ht; simp at ht; omega
      obtain ⟨h1, h2⟩ := ih t ht hk1 fun y hy => hb y (by simp [hy])
      rw [sval_snoc hne]
      refine ⟨?_, ?_⟩
      · simp only [be]
        rw [show (sval t * 256 + x) / 256 = sval t by omega, show (sval t * 256 + x) % 256 = x by omega, h1]
      · simp only [fits] at h2 ⊢
        rw [pow_step k hk1]
        generalize (2 : Int) ^ (8 * k - 1) = P at *
        omega

/-- superfluous first byte -/
def Sup : List Int → Prop
  | b0 :: b1 :: _ => b0 = 0 ∧ b1 < 128 ∨ b0 = 255 ∧ 128 ≤ b1
  | _ => False
instance (l : List Int) : Decidable (Sup l) := by
  unfold Sup
  split <;> infer_instance

theorem sup_sval {b0 b1 : Int} {t : List Int} (h : Sup (b0 :: b1 :: t)) : sval (b0 :: b1 :: t) = sval (b1 :: t) := by
  simp only [sval, fold, List.foldl_cons]
  congr 1
  rcases h with ⟨rfl, h⟩ | ⟨rfl, h⟩
  · simp [s8, h]
  · simp only [s8]
    rw [if_neg (by omega), if_neg (by omega)]
    omega

/-- with no superfluous byte a number does not fit into one byte less -/
theorem tight {k : Nat} {l : List Int} (hl : l.length = k + 1) (hk : 1 ≤ k) (hb : Bytes l) : Sup l ↔ fits k (sval l) := by
  match l, hl with
  | b0 :: b1 :: t, hl =>
    have ht : (b1 :: t).length = k := by simpa using hl
    have hb1 : Bytes (b1 :: t) := fun x hx => hb x (by simp at hx ⊢; exact .inr hx)
    have h0 := hb b0 (by simp)
    have h1 := hb b1 (by simp)
    constructor
    · intro h
      rw [sup_sval h]
      exact (be_sval k _ ht hk hb1).2
    · intro h
      have hc := be_len k (sval (b0 :: b1 :: t))
      have hcb := be_bytes k (sval (b0 :: b1 :: t))
      have hcs := sval_be k _ hk h
      generalize be k (sval (b0 :: b1 :: t)) = c at *
      cases c with
      | nil => simp at hc; omega
      | cons c0 c' =>
        have hc0 := hcb c0 (by simp)
        obtain ⟨p, hp⟩ : ∃ p : Int, p = if c0 < 128 then 0 else 255 := ⟨_, rfl⟩
        have hs : Sup (p :: c0 :: c') := by
          simp only [Sup]
          split at hp <;> omega
        have e := sup_sval hs
        rw [hcs] at e
        have hpb : Bytes (p :: c0 :: c') := by
          intro x hx
          rcases List.mem_cons.1 hx with h | h
          · subst h; split at hp <;> omega
          · exact hcb x h
        have e1 := (be_sval (k + 1) (p :: c0 :: c') (by simpa using hc) (by omega) hpb).1
        have e2 := (be_sval (k + 1) (b0 :: b1 :: t) hl (by omega) hb).1
        rw [e, e2] at e1
        rw [e1]
        exact hs
  | [x], hl => simp at hl; omega
  | [], hl => simp at hl

theorem up {α : Type} {f : Nat → Option α} (h : ∀ k, LeO (f k) (f (k + 1))) {k : Nat} {r : α} (h1 : f k = some r) : ∀ m, k ≤ m → f m = some r := by
  intro m hm
  obtain ⟨d, rfl⟩ := Nat.exists_eq_add_of_le hm
  clear hm
  induction d with
  | zero => exact h1
  | succ d ih => exact h _ _ ih

theorem i64r {n : Int} (h : (Lit.int .i64 n).wf = true) : -9223372036854775808 ≤ n ∧ n < 9223372036854775808 := by
  simp [Lit.wf, IntKind.min, IntKind.max, IntKind.signed, IntKind.bits] at h
  omega
theorem u8r {n : Int} (h : (Lit.int .u8 n).wf = true) : 0 ≤ n ∧ n < 256 := by
  simp [Lit.wf, IntKind.min, IntKind.max, IntKind.signed, IntKind.bits] at h
  omega

theorem int_spec (n : Int) (h : -9223372036854775808 ≤ n ∧ n < 9223372036854775808) : ∃ K, 1 ≤ K ∧ K ≤ 8 ∧ fits K n ∧ (K = 1 ∨ ¬ fits (K - 1) n) ∧ ∀ m, 30 ≤ m → tags_Int.f m n = some (be K n) := by
  have fin : ∀ K l, tags_Int.f 30 n = some l → l = be K n → ∀ m, 30 ≤ m → tags_Int.f m n = some (be K n) := fun K l h1 h2 m hm => h2 ▸ up (fun k => tags_Int.mono n k) h1 m hm
  have p1 : (2 : Int) ^ (8 * 1 - 1) = 128 := by decide
  have p2 : (2 : Int) ^ (8 * 2 - 1) = 32768 := by decide
  have p3 : (2 : Int) ^ (8 * 3 - 1) = 8388608 := by decide
  have p4 : (2 : Int) ^ (8 * 4 - 1) = 2147483648 := by decide
  have p5 : (2 : Int) ^ (8 * 5 - 1) = 549755813888 := by decide
  have p6 : (2 : Int) ^ (8 * 6 - 1) = 140737488355328 := by decide
  have p7 : (2 : Int) ^ (8 * 7 - 1) = 36028797018963968 := by decide
  have p8 : (2 : Int) ^ (8 * 8 - 1) = 9223372036854775808 := by decide
  by_cases f1 : n / 128 = 0 ∨ n / 128 = -1
  · exact ⟨1, by omega, by omega, by simp only [fits, p1]; omega, .inl rfl, fin 1 _ (int1 n f1) (by simp [be])⟩
  rw [not_or] at f1
  by_cases f2 : n / 32768 = 0 ∨ n / 32768 = -1
  · exact ⟨2, by omega, by omega, by simp only [fits, p2]; omega, .inr (by simp only [fits, p1]; omega), fin 2 _ (int2 n f1.1 f1.2 f2) (by simp [be])⟩
  rw [not_or] at f2
  by_cases f3 : n / 8388608 = 0 ∨ n / 8388608 = -1
  · exact ⟨3, by omega, by omega, by simp only [fits, p3]; omega, .inr (by simp only [fits, p2]; omega), fin 3 _ (int3 n f1.1 f1.2 f2.1 f2.2 f3) (by simp [be, Int.ediv_ediv])⟩
  rw [not_or] at f3
  by_cases f4 : n / 2147483648 = 0 ∨ n / 2147483648 = -1
  · exact ⟨4, by omega, by omega, by simp only [fits, p4]; omega, .inr (by simp only [fits, p3]; omega), fin 4 _ (int4 n f1.1 f1.2 f2.1 f2.2 f3.1 f3.2 f4) (by simp [be, Int.ediv_ediv])⟩
  rw [not_or] at f4
  by_cases f5 : n / 549755813888 = 0 ∨ n / 549755813888 = -1
  · exact ⟨5, by omega, by omega, by simp only [fits, p5]; omega, .inr (by simp only [fits, p4]; omega), fin 5 _ (int5 n f1.1 f1.2 f2.1 f2.2 f3.1 f3.2 f4.1 f4.2 f5) (by simp [be, Int.ediv_ediv])⟩
  rw [not_or] at f5
  by_cases f6 : n / 140737488355328 = 0 ∨ n / 140737488355328 = -1
  · exact ⟨6, by omega, by omega, by simp only [fits, p6]; omega, .inr (by simp only [fits, p5]; omega), fin 6 _ (int6 n f1.1 f1.2 f2.1 f2.2 f3.1 f3.2 f4.1 f4.2 f5.1 f5.2 f6) (by simp [be, Int.ediv_ediv])⟩
  rw [not_or] at f6
  by_cases f7 : n / 36028797018963968 = 0 ∨ n / 36028797018963968 = -1
  · exact ⟨7, by omega, by omega, by simp only [fits, p7]; omega, .inr (by simp only [fits, p6]; omega), fin 7 _ (int7 n f1.1 f1.2 f2.1 f2.2 f3.1 f3.2 f4.1 f4.2 f5.1 f5.2 f6.1 f6.2 f7) (by simp [be, Int.ediv_ediv])⟩
  rw [not_or] at f7
  exact ⟨8, by omega, by omega, by simp only [fits, p8]; omega, .inr (by simp only [fits, p7]; omega), fin 8 _ (int8 n f1.1 f1.2 f2.1 f2.2 f3.1 f3.2 f4.1 f4.2 f5.1 f5.2 f6.1 f6.2 f7.1 f7.2) (by simp [be, Int.ediv_ediv])⟩

theorem rd_nat (l : List Int) (i : Nat) (h : i < l.length) : rd l (i : Int) = l[i] := by
  simp [rd, List.getD_eq_getElem?_getD, h]

theorem toInt_loop : ∀ (r k : Nat) (acc : Int) (t : List Int) (i : Nat), i + r = t.length → t.length ≤ 100 → r < k → Bytes t → r ≤ 7 → -(2 ^ (63 - 8 * r) : Int) ≤ acc → acc < 2 ^ (63 - 8 * r) →
    tags_ToInt.l0 k acc t (t.length : Int) (i : Int) = some (fold acc (t.drop i), 0) := by
  intro r
  induction r with
  | zero =>
    intro k acc t i hi hm hk hb _ _ _
    obtain ⟨k, rfl⟩ : ∃ m, k = m + 1 := ⟨k - 1, by omega⟩
    simp only [tags_ToInt.l0]
    rw [if_neg (by omega), List.drop_eq_nil_of_le (by omega)]
    rfl
  | succ r ih =>
    intro k acc t i hi hm hk hb h7 h0 h1
    obtain ⟨k, rfl⟩ : ∃ m, k = m + 1 := ⟨k - 1, by omega⟩
    have hlt : i < t.length := by omega
    have hx := hb t[i] (List.getElem_mem hlt)
    have hp : (2 : Int) ^ (63 - 8 * r) = 256 * 2 ^ (63 - 8 * (r + 1)) := by
      rw [show 63 - 8 * r = (63 - 8 * (r + 1)) + 8 by omega, Int.pow_add, Int.mul_comm]
      rfl
    have hP : (2 : Int) ^ (63 - 8 * r) ≤ 9223372036854775808 := by
      have : r = 0 ∨ r = 1 ∨ r = 2 ∨ r = 3 ∨ r = 4 ∨ r = 5 ∨ r = 6 := by omega
      rcases this with rfl | rfl | rfl | rfl | rfl | rfl | rfl <;> decide
    simp only [tags_ToInt.l0]
    rw [if_pos (by omega), if_pos (by omega), if_pos (by omega), rd_nat t i hlt]
    generalize (2 : Int) ^ (63 - 8 * r) = P at *
    generalize (2 : Int) ^ (63 - 8 * (r + 1)) = P' at *
    rw [w64 (x := acc * 256) (by omega) (by omega), w64 (x := t[i]) (by omega) (by omega), or64 _ _ (by omega) (by omega) (by omega) (by omega) (by omega)]
    rw [w64 (x := (i : Int) + 1) (by omega) (by omega)]
    rw [show ((i : Int) + 1) = ((i + 1 : Nat) : Int) by omega, List.drop_eq_getElem_cons hlt]
    exact ih k (acc * 256 + t[i]) t (i + 1) (by omega) hm (by omega) hb (by omega) (by omega) (by omega)

theorem toInt_tail {k : Nat} {b : Int} {t : List Int} (hk : 8 < k) (hb : Bytes (b :: t)) (hl : t.length ≤ 7) :
    tags_ToInt.l0 k (wrap64 (IntKind.i8.wrap b)) t (t.length : Int) 0 = some (sval (b :: t), 0) := by
  have h0 := hb b (by simp)
  rw [i8w h0.1 h0.2]
  have hs : -128 ≤ s8 b ∧ s8 b < 128 := by unfold s8; split <;> omega
  rw [show (if b < 128 then b else b - 256) = s8 b from rfl, w64 (by omega) (by omega)]
  have hp : (128 : Int) ≤ 2 ^ (63 - 8 * t.length) := by
    have : t.length = 0 ∨ t.length = 1 ∨ t.length = 2 ∨ t.length = 3 ∨ t.length = 4 ∨ t.length = 5 ∨ t.length = 6 ∨ t.length = 7 := by omega
    rcases this with e | e | e | e | e | e | e | e <;> rw [e] <;> decide
  have := toInt_loop t.length k (s8 b) t 0 (by omega) (by omega) (by omega) (fun x hx => hb x (by simp [hx])) (by omega) (by omega) (by omega)
  simpa [sval] using this

/-- ToInt's error -/
def errOf (b : List Int) : Int := if b = [] ∨ Sup b then 4 else if 8 < b.length then 3 else 0
def outOf (b : List Int) : Int := if errOf b = 0 then sval b else 0

theorem toInt_spec (b : List Int) (hb : Bytes b) (hl : b.length ≤ 12) (m : Nat) (hm : 20 ≤ m) : tags_ToInt.f m b = some (outOf b, errOf b) := by
  obtain ⟨m, rfl⟩ : ∃ z, m = z + 1 := ⟨m - 1, by omega⟩
  cases b with
  | nil => simp [tags_ToInt.f, errOf, outOf]
  | cons b0 t =>
    have hb0 := hb b0 (by simp)
    have hlen : ((b0 :: t).length : Int) = t.length + 1 := by simp
    have jt : tags_ToInt.j0 (m + 1) (b0 :: t) true = some (0, 4) := by simp [tags_ToInt.j0]
    have jf : tags_ToInt.j0 (m + 1) (b0 :: t) false = some (if 7 < t.length then (0, 3) else (sval (b0 :: t), 0)) := by
      simp only [tags_ToInt.j0, hlen]
      rw [if_neg (by simp)]
      by_cases h : 7 < t.length
      · rw [if_pos (by omega), if_pos h]
      · rw [if_neg (by omega), if_pos (by omega), if_pos (by omega), if_neg h]
        exact toInt_tail (t := t) (by omega) hb (by omega)
    have r0 : rd (b0 :: t) 0 = b0 := rfl
    unfold tags_ToInt.f
    rw [hlen, if_neg (by omega), r0]
    cases t with
    | nil =>
      rw [if_neg (by simp), jf]
      simp [errOf, outOf, Sup]
    | cons b1 u =>
      have r1 : rd (b0 :: b1 :: u) 1 = b1 := rfl
      have hb1 := hb b1 (by simp)
      have hlu : ((b1 :: u).length : Int) = u.length + 1 := by simp
      have g1 : (u.length : Int) + 1 + 1 > 1 := by omega
      have g0 : 0 < (u.length : Int) + 1 + 1 := by omega
      simp only [hlu, if_pos g1, if_pos g0, r1]
      have e4 : Sup (b0 :: b1 :: u) → (outOf (b0 :: b1 :: u), errOf (b0 :: b1 :: u)) = (0, 4) := by
        intro h
        have : errOf (b0 :: b1 :: u) = 4 := by simp [errOf, h]
        simp [outOf, this]
      have e0 : ¬ Sup (b0 :: b1 :: u) → (outOf (b0 :: b1 :: u), errOf (b0 :: b1 :: u)) = if 7 < (b1 :: u).length then (0, 3) else (sval (b0 :: b1 :: u), 0) := by
        intro h
        by_cases h8 : 7 < (b1 :: u).length
        · have : errOf (b0 :: b1 :: u) = 3 := by simp [errOf, h]; simp at h8; omega
          simp only [outOf, this, if_pos h8]
          rfl
        · have : errOf (b0 :: b1 :: u) = 0 := by simp [errOf, h]; simp at h8; omega
          simp only [outOf, this, if_neg h8, if_true]
      by_cases c0 : b0 = 0
      · by_cases c1 : b1 < 128
        · rw [if_pos c0, if_pos c1, jt, e4 (.inl ⟨c0, c1⟩)]
        · rw [if_pos c0, if_neg c1, if_neg (by omega), jf, e0 (by simp only [Sup]; omega)]
      · by_cases c2 : b0 = 255
        · by_cases c3 : 128 ≤ b1
          · rw [if_neg c0, if_pos c2, show decide (b1 ≥ 128) = true by simpa using c3, jt, e4 (.inr ⟨c2, c3⟩)]
          · rw [if_neg c0, if_pos c2, show decide (b1 ≥ 128) = false by simpa using c3, jf, e0 (by simp only [Sup]; omega)]
        · rw [if_neg c0, if_neg c2, jf, e0 (by simp only [Sup]; omega)]

theorem same_self (l : List Int) : pointcodelaw23_same.f l l = some true := by simp [pointcodelaw23_same.f]

/-- the second half: any bytes -/
theorem half2 (b : List Int) (hb : Bytes b) (hl : b.length ≤ 12) (m : Nat) (hm : 50 ≤ m) : pointcodelaw23_TagsInts.j3 m b = some true := by
  obtain ⟨m, rfl⟩ : ∃ z, m = z + 1 + 1 + 1 + 1 := ⟨m - 4, by omega⟩
  have j6t : ∀ x y, y ≠ 0 → pointcodelaw23_TagsInts.j6 (m + 1) b x y false = some true := by
    intro x y hy
    simp [pointcodelaw23_TagsInts.j6, hy, pointcodelaw23_lives.f]
  have j5e : ∀ y, y ≠ 0 → pointcodelaw23_TagsInts.j5 (m + 1 + 1) b 0 y y = some true := by
    intro y hy
    simp only [pointcodelaw23_TagsInts.j5, if_true, if_neg hy]
    exact j6t _ _ hy
  have spec := toInt_spec b hb hl (m + 1 + 1 + 1) (by omega)
  have bad : errOf b ≠ 0 → outOf b = 0 := fun h => by simp [outOf, h]
  have j4t : b = [] ∨ Sup b → pointcodelaw23_TagsInts.j4 (m + 1 + 1 + 1) b (outOf b) (errOf b) 0 true = some true := by
    intro h
    have he : errOf b = 4 := by simp [errOf, h]
    simp only [pointcodelaw23_TagsInts.j4, if_true, he, bad (by rw [he]; decide)]
    exact j5e 4 (by decide)
  have j4f : ¬ (b = [] ∨ Sup b) → pointcodelaw23_TagsInts.j4 (m + 1 + 1 + 1) b (outOf b) (errOf b) 0 false = some true := by
    intro h
    simp only [pointcodelaw23_TagsInts.j4]
    rw [if_neg (by simp)]
    by_cases h8 : 8 < b.length
    · have he : errOf b = 3 := by simp [errOf, h, h8]
      rw [if_pos (by omega), he, bad (by rw [he]; decide)]
      exact j5e 3 (by decide)
    · have he : errOf b = 0 := by simp [errOf, h, h8]
      have ho : outOf b = sval b := by simp [outOf, he]
      rw [if_neg (by omega), he, ho]
      simp only [pointcodelaw23_TagsInts.j5, if_true]
      simp only [pointcodelaw23_TagsInts.j6]
      rw [if_neg (by simp)]
      simp only [if_true]
      rw [not_or] at h
      have hpos : 1 ≤ b.length := by
        rcases Nat.eq_zero_or_pos b.length with e | e
        · exact absurd (List.eq_nil_of_length_eq_zero e) h.1
        · exact e
      obtain ⟨hbe, hfit⟩ := be_sval b.length b rfl hpos hb
      have hr : -9223372036854775808 ≤ sval b ∧ sval b < 9223372036854775808 := by
        have : b.length = 1 ∨ b.length = 2 ∨ b.length = 3 ∨ b.length = 4 ∨ b.length = 5 ∨ b.length = 6 ∨ b.length = 7 ∨ b.length = 8 := by omega
        simp only [fits] at hfit
        rcases this with e | e | e | e | e | e | e | e <;> rw [e] at hfit <;> simp at hfit <;> omega
      obtain ⟨K, k1, k8, kf, kt, kr⟩ := int_spec (sval b) hr
      have mono : ∀ i j : Nat, 1 ≤ i → i ≤ j → fits i (sval b) → fits j (sval b) := by
        intro i j hi hij hf
        obtain ⟨d, rfl⟩ := Nat.exists_eq_add_of_le hij
        clear hij
        induction d with
        | zero => exact hf
        | succ d ih =>
          simp only [fits] at ih ⊢
          rw [show i + (d + 1) = (i + d) + 1 by omega, pow_step _ (by omega)]
          generalize (2 : Int) ^ (8 * (i + d) - 1) = P at *
          omega
      have hK : K = b.length := by
        rcases Nat.lt_trichotomy K b.length with hlt | heq | hgt
        · exfalso
          refine h.2 ?_
          exact (tight (k := b.length - 1) (by omega) (by omega) hb).2 (mono K _ k1 (by omega) kf)
        · exact heq
        · exfalso
          rcases kt with e | e
          · omega
          · exact e (mono b.length _ hpos (by omega) hfit)
      rw [kr (m) (by omega)]
      simp only [Option.bind_some]
      rw [hK, hbe, same_self]
      simp [pointcodelaw23_lives.f]
  simp only [pointcodelaw23_TagsInts.j3, spec, Option.bind_some]
  cases b with
  | nil => rw [if_pos (by simp)]; exact j4t (.inl rfl)
  | cons b0 t =>
    have hlen : ((b0 :: t).length : Int) = t.length + 1 := by simp
    have r0 : rd (b0 :: t) 0 = b0 := rfl
    rw [hlen, if_neg (by omega), r0]
    cases t with
    | nil => rw [if_neg (by simp)]; exact j4f (by simp [Sup])
    | cons b1 u =>
      have r1 : rd (b0 :: b1 :: u) 1 = b1 := rfl
      have hlu : ((b1 :: u).length : Int) = u.length + 1 := by simp
      have g1 : (u.length : Int) + 1 + 1 > 1 := by omega
      have g0 : 0 < (u.length : Int) + 1 + 1 := by omega
      simp only [hlu, if_pos g1, if_pos g0, r1]
      by_cases c0 : b0 = 0
      · by_cases c1 : b1 < 128
        · rw [if_pos c0, if_pos c1]; exact j4t (.inr (.inl ⟨c0, c1⟩))
        · rw [if_pos c0, if_neg c1, if_neg (by omega)]; exact j4f (by simp [Sup]; omega)
      · by_cases c2 : b0 = 255
        · by_cases c3 : 128 ≤ b1
          · rw [if_neg c0, if_pos c2, show decide (b1 ≥ 128) = true by simpa using c3]; exact j4t (.inr (.inr ⟨c2, c3⟩))
          · rw [if_neg c0, if_pos c2, show decide (b1 ≥ 128) = false by simpa using c3]; exact j4f (by simp [Sup]; omega)
        · rw [if_neg c0, if_neg c2]; exact j4f (by simp [Sup]; omega)

/-- the sum of the first half -/
theorem sum_loop (n : Int) (b c : List Int) (hb : Bytes c) (hl : c.length ≤ 7) : ∀ (r k : Nat) (acc : Int) (i : Nat), i + r = c.length → r < k → 0 ≤ acc → acc < 2 ^ (8 * i) →
    ∃ k', k ≤ k' + r ∧ pointcodelaw23_TagsInts.l0 k n b c acc (i : Int) = pointcodelaw23_TagsInts.l0 k' n b c (fold acc (c.drop i)) (c.length : Int) := by
  intro r
  induction r with
  | zero =>
    intro k acc i hi hk _ _
    refine ⟨k, by omega, ?_⟩
    rw [List.drop_eq_nil_of_le (by omega), show i = c.length by omega]
    rfl
  | succ r ih =>
    intro k acc i hi hk h0 h1
    obtain ⟨k, rfl⟩ : ∃ m, k = m + 1 := ⟨k - 1, by omega⟩
    have hlt : i < c.length := by omega
    have hx := hb c[i] (List.getElem_mem hlt)
    have hp : (2 : Int) ^ (8 * (i + 1)) = 256 * 2 ^ (8 * i) := by
      rw [show 8 * (i + 1) = 8 * i + 8 by omega, Int.pow_add, Int.mul_comm]
      rfl
    have hP : (2 : Int) ^ (8 * (i + 1)) ≤ 72057594037927936 := by
      have : i = 0 ∨ i = 1 ∨ i = 2 ∨ i = 3 ∨ i = 4 ∨ i = 5 ∨ i = 6 := by omega
      rcases this with rfl | rfl | rfl | rfl | rfl | rfl | rfl <;> decide
    rw [pointcodelaw23_TagsInts.l0, if_pos (by omega), if_pos (by omega), rd_nat c i hlt]
    rw [hp] at hP
    obtain ⟨k', h2, h3⟩ := ih k (acc * 256 + c[i]) (i + 1) (by omega) (by omega) (by omega) (by rw [hp]; omega)
    generalize (2 : Int) ^ (8 * i) = P at *
    rw [w64 (x := acc * 256) (by omega) (by omega), w64 (x := c[i]) (by omega) (by omega), w64 (x := acc * 256 + c[i]) (by omega) (by omega), w64 (x := (i : Int) + 1) (by omega) (by omega)]
    refine ⟨k', by omega, ?_⟩
    rw [show ((i : Int) + 1) = ((i + 1 : Nat) : Int) by omega, h3, List.drop_eq_getElem_cons hlt]
    rfl

theorem fold_add (d s : Int) : ∀ t : List Int, fold (s + d) t = fold s t + d * 256 ^ t.length := by
  intro t
  induction t generalizing s d with
  | nil => simp [fold]
  | cons x t ih =>
    have := ih (d * 256) (s * 256 + x)
    simp only [fold, List.foldl_cons, List.length_cons] at this ⊢
    rw [show (s + d) * 256 + x = s * 256 + x + d * 256 by omega, this, Int.pow_succ]
    rw [Int.mul_assoc, Int.mul_comm 256]

theorem half1 (n : Int) (hn : -9223372036854775808 ≤ n ∧ n < 9223372036854775808) (b : List Int) (hb : Bytes b) (hbl : b.length ≤ 12) : pointcodelaw23_TagsInts.f 100 n b = some true := by
  obtain ⟨K, k1, k8, kf, kt, kr⟩ := int_spec n hn
  have hc := be_len K n
  have hcb := be_bytes K n
  have hcs := sval_be K n k1 kf
  generalize hce : be K n = c at *
  have hsup : ¬ Sup c := by
    rcases kt with e | e
    · subst e
      match c, hc with
      | [x], _ => simp [Sup]
    · intro hs
      by_cases h1 : K = 1
      · subst h1
        match c, hc with
        | [x], _ => simp [Sup] at hs
      · have := (tight (k := K - 1) (by omega) (by omega) hcb).1 hs
        rw [hcs] at this
        exact e this
  have hne : c ≠ [] := by intro e; rw [e] at hc; simp at hc; omega
  have herr : errOf c = 0 := by simp only [errOf]; rw [if_neg (by simp [hne, hsup]), if_neg (by omega)]
  have hout : outOf c = n := by simp only [outOf, herr, if_true]; exact hcs
  have hto := toInt_spec c hcb (by omega) 100 (by omega)
  rw [herr, hout] at hto
  have hlen : (c.length : Int) = K := by omega
  -- the sum
  have hj1 : pointcodelaw23_TagsInts.j1 98 n b c false = some true := by
    simp only [pointcodelaw23_TagsInts.j1]
    rw [if_neg (by simp)]
    by_cases h8 : K < 8
    · rw [if_pos (by omega)]
      obtain ⟨k', h2, h3⟩ := sum_loop n b c hcb (by omega) c.length 97 0 0 (by omega) (by omega) (by omega) (by decide)
      have h3 : pointcodelaw23_TagsInts.l0 97 n b c 0 0 = _ := h3
      rw [h3]
      obtain ⟨k', rfl⟩ : ∃ m, k' = m + 1 := ⟨k' - 1, by omega⟩
      cases hcc : c with
      | nil => exact absurd hcc hne
      | cons c0 t =>
      subst hcc
      have hc0 := hcb c0 (by simp)
      have r0 : rd (c0 :: t) 0 = c0 := rfl
      have hU : fold 0 (c0 :: t) = n + (if c0 < 128 then 0 else 256 ^ K) := by
        have e1 : fold 0 (c0 :: t) = fold c0 t := by simp [fold]
        have e2 : fold c0 t = fold (s8 c0 + (c0 - s8 c0)) t := by congr 1; omega
        rw [e1, e2, fold_add]
        have e3 : fold (s8 c0) t = n := hcs
        rw [e3]
        congr 1
        unfold s8
        split
        · simp
        · have : K = t.length + 1 := by simp at hc; omega
          rw [this, Int.pow_succ]
          rw [show c0 - (c0 - 256) = 256 by omega, Int.mul_comm]
      have hb2 : pointcodelaw23_TagsInts.j3 k' b = some true := half2 b hb hbl k' (by omega)
      rw [pointcodelaw23_TagsInts.l0, if_neg (by omega), if_pos (by omega), r0]
      rw [List.drop_zero, hU, hc]
      have hKs : K = 1 ∨ K = 2 ∨ K = 3 ∨ K = 4 ∨ K = 5 ∨ K = 6 ∨ K = 7 := by omega
      by_cases h128 : c0 ≥ 128
      · rw [if_pos h128, if_neg (by omega : ¬ c0 < 128)]
        have hsh : shl .i64 1 (wrap64 (8 * (K : Int))) = 256 ^ K ∧ 0 ≤ wrap64 (8 * (K : Int)) := by
          rcases hKs with e | e | e | e | e | e | e <;> rw [e] <;> decide +kernel
        rw [if_pos hsh.2, hsh.1, show n + 256 ^ K - 256 ^ K = n by omega, w64 hn.1 hn.2, if_pos rfl]
        exact hb2
      · rw [if_neg h128, if_pos (by omega : c0 < 128), Int.add_zero, if_pos rfl]
        exact hb2
    · rw [if_neg (by omega)]
      exact half2 b hb hbl 97 (by omega)
  have hj0 : pointcodelaw23_TagsInts.j0 99 n b c false = some true := by
    rw [pointcodelaw23_TagsInts.j0, if_neg (by simp)]
    cases hcc : c with
    | nil => exact absurd hcc hne
    | cons c0 t =>
    subst hcc
    have r0 : rd (c0 :: t) 0 = c0 := rfl
    cases t with
    | nil => rw [if_neg (by simp)]; exact hj1
    | cons c1 u =>
      have r1 : rd (c0 :: c1 :: u) 1 = c1 := rfl
      have hlu : ((c0 :: c1 :: u).length : Int) = u.length + 1 + 1 := by simp
      have g1 : (u.length : Int) + 1 + 1 > 1 := by omega
      have g0 : 0 < (u.length : Int) + 1 + 1 := by omega
      simp only [hlu, if_pos g1, if_pos g0, r0, r1]
      simp only [Sup] at hsup
      by_cases e0 : c0 = 0
      · rw [if_pos e0, if_neg (by omega), if_neg (by omega)]; exact hj1
      · by_cases e2 : c0 = 255
        · rw [if_neg e0, if_pos e2, show decide (c1 ≥ 128) = false by simp; omega]; exact hj1
        · rw [if_neg e0, if_neg e2]; exact hj1
  unfold pointcodelaw23_TagsInts.f
  rw [if_neg (by omega), kr 100 (by omega)]
  simp only [Option.bind_some, hto, if_true]
  rw [if_neg (by omega), if_neg (by omega)]
  simp only [bne_self_eq_false]
  exact up (fun k => (pointcodelaw23_TagsInts.mono_l k).1 n b c false) hj0 100 (by omega)

theorem TagsInts : pointcodelaw23_TagsInts.Pure := by
  intro n b hn _ _ hb
  refine ⟨100, ?_⟩
  by_cases h : b.length ≤ 12
  · exact half1 n (i64r hn) b (fun x hx => u8r (hb x hx)) h
  · unfold pointcodelaw23_TagsInts.f
    rw [if_pos (by omega)]
    rfl

end Go.Proofs.YtcokmnpgeokfpaaDoor.Pure
