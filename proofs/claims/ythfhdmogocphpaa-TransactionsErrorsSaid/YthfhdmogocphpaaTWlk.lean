import Derived.Test.YthfhdmogocphpaaTRun
import Derived.Laws.MakeOwn
/- TransactionsErrors: what the names stand for, and the walk. -/
namespace Go.Proofs.Ythfhdmogocphpaa
open Go.RowKit Go.Am

/-- the arguments -/
structure Arg where
  p : Int
  k : Int
  fr : Int
  t : Int
  c : Int
  a : Option Addr
  n : Nat
  cap : Nat
  x : Int
  y : Int
  z : Int
def Arg.body (g : Arg) : Value := .slice g.a g.n g.cap
def Arg.chk (g : Arg) : Int := Ythfhdmogocphpaa.chk g.k g.fr g.t g.c g.n
structure Arg.Ok (g : Arg) (w : World) : Prop where
  p : 0 ≤ g.p ∧ g.p < 65536
  fr : 0 ≤ g.fr
  t : 0 ≤ g.t
  c : 0 ≤ g.c
  x : 0 ≤ g.x ∧ g.x < 65536
  y : 0 ≤ g.y ∧ g.y < 65536
  z : 0 ≤ g.z ∧ g.z < 65536
  rd : g.n ≤ 4000 → RdB w g.body

def Arg.len (g : Arg) : Nat := (g.x.tmod 4000).toNat

def Arg.vals (g : Arg) : List Value :=
  [.int .u16 g.p, .int .u8 g.k, .int .u32 g.fr, .int .u32 g.t, .int .u8 g.c, g.body, .int .u16 g.x, .int .u16 g.y, .int .u16 g.z, .bool true,
    .int .i64 g.n, .int .i64 g.x, .int .i64 (g.x.tmod 4000), .int .i64 g.chk, .bool true, .bool true, .int .u16 (g.y.tmod 256), .int .u8 (IntKind.u8.wrap g.y), .int .u32 g.z, .int .u32 (g.z + 2)]

/-- what is named on the way: a slice that was made (24), own copies -/
def Arg.more (g : Arg) : Nat → Am.Loc → Prop := fun i L =>
  i = 24 → L.val = some (.slice (some ⟨L.blk, 0, none⟩) g.len g.len) ∧ L.pin = some (.cells (madeCells #[.int .u8 0] g.len) 5)

variable {w0 : World} {g : Arg}

theorem wrap_u8 {y : Int} (_ : 0 ≤ y) : IntKind.u8.wrap y = y % 256 := by
  simp [IntKind.wrap, IntKind.signed, IntKind.bits]
theorem tmod_mod {x m : Int} (h : 0 ≤ x) : x.tmod m = x % m := Int.tmod_eq_emod_of_nonneg h

theorem lt_den {g : Arg} (hl : 0 ≤ g.y) : decide (g.y.tmod 256 < 128) = decide (IntKind.u8.wrap g.y < 128) := by
  rw [wrap_u8 hl, tmod_mod hl]

theorem one_rem {P : Program} {vals : List Value} {x y r : Value} {k : IntKind} {a b : Int} (ha : den vals x = some (.int k a)) (hb : den vals y = some (.int k b)) (hc : den vals r = some (.int k (a.tmod b))) (h : b ≠ 0) :
    ∃ a b c, den vals x = some a ∧ den vals y = some b ∧ den vals r = some c ∧ notCell c = false ∧ BinOk P .rem a b c := ⟨_, _, _, ha, hb, hc, rfl, rem_ok _ _ _ h⟩

theorem bins5 {P : Program} (ok : g.Ok w0) (hn : g.n ≤ 4000) : BinsOk P g.vals (fs5 (decide (16383 < g.p)) (decide (3800 < g.x.tmod 4000)) (decide (g.y.tmod 256 < 128))) := by
  simp only [fs5, BinsOk, List.forall_mem_cons]
  refine ⟨?_, ?_, ?_, ?_, ?_, ?_, ?_, ?_, fun e h => by simp at h⟩
  · exact one_bin (k := .u16) (a := g.p) rfl rfl rfl rfl rfl
  · refine one_bin (k := .i64) (a := g.n) rfl rfl rfl rfl ?_
    have : decide ((4000 : Int) < g.n) = false := decide_eq_false (by omega)
    rw [← this]; rfl
  · exact one_rem (k := .i64) (a := g.x) rfl rfl rfl (by decide)
  · exact one_bin (k := .i64) (a := g.x.tmod 4000) rfl rfl rfl rfl rfl
  · exact one_rem (k := .u16) (a := g.y) rfl rfl rfl (by decide)
  · exact one_bin (k := .u16) (a := g.y.tmod 256) rfl rfl rfl rfl rfl
  · refine one_bin (k := .u8) (a := IntKind.u8.wrap g.y) rfl rfl rfl rfl ?_
    rw [lt_den ok.y.1]; rfl
  · refine one_bin (k := .u32) (a := g.z) (c := .int .u32 (g.z + 2)) rfl rfl rfl rfl ?_
    have h1 := ok.z
    have : IntKind.u32.wrap (g.z + 2) = g.z + 2 := by simp [IntKind.wrap, IntKind.signed, IntKind.bits]; omega
    show some (Value.int .u32 (IntKind.u32.wrap (g.z + 2))) = _
    rw [this]

theorem binsCs {P : Program} (c : Cs) (hc : c = .bad → g.chk ≠ 0) : BinsOk P g.vals c.fs := by
  cases c with
  | bad =>
    have h := hc rfl
    have h1 : decide (g.chk = 0) = false := decide_eq_false h
    have h2 : decide (g.chk = g.chk) = true := decide_eq_true rfl
    simp only [Cs.fs, BinsOk, List.forall_mem_cons]
    refine ⟨?_, ?_, ?_, ?_, fun e h => by simp at h⟩
    · refine one_bin (k := .i64) (a := g.chk) rfl rfl rfl rfl ?_
      show some (Value.bool (!decide (g.chk = 0))) = _
      rw [h1]; rfl
    · refine one_bin (k := .i64) (a := g.chk) rfl rfl rfl rfl ?_
      show some (Value.bool (decide (g.chk = 0))) = _
      rw [h1]
    · refine one_bin (k := .i64) (a := g.chk) (b := g.chk) (k' := .i64) rfl rfl rfl rfl ?_
      show some (Value.bool (!decide (g.chk = g.chk))) = _
      rw [h2]; rfl
    · refine one_bin (k := .i64) (a := g.chk) (b := g.chk) (k' := .i64) rfl rfl rfl rfl ?_
      show some (Value.bool (decide (g.chk = g.chk))) = _
      rw [h2]
  | k1 => exact fun e h => absurd h (by simp [Cs.fs])
  | k2 => exact fun e h => absurd h (by simp [Cs.fs])
  | k3 => exact fun e h => absurd h (by simp [Cs.fs])
  | k4 => exact fun e h => absurd h (by simp [Cs.fs])

/-- the made slice -/
theorem made_at {ρ : Rho} (hS : Says (own0 w0 g.vals g.more) ρ) {x' : Value} (hx : VRel ρ (sy 24) x') :
    ∃ L, ρ 24 = some L ∧ x' = .slice (some ⟨L.blk, 0, none⟩) g.len g.len ∧ L.pin = some (.cells (madeCells #[.int .u8 0] g.len) 5) := by
  cases hx with
  | sym h hv hn =>
    rename_i L
    rcases hS.2 24 L x' h hv with ⟨v, h1, _⟩ | ⟨_, h2⟩
    · simp [Arg.vals] at h1
    · obtain ⟨h3, h4⟩ := h2 rfl
      rw [hv] at h3
      exact ⟨L, h, Option.some.inj h3, h4⟩

theorem len_cast (ok : g.Ok w0) : (g.len : Int) = g.x.tmod 4000 := by
  have := ok.x
  have h := tmod_mod (m := 4000) this.1
  unfold Arg.len
  omega

theorem len_lt (ok : g.Ok w0) : g.len < 4000 := by
  have := ok.x
  have h := tmod_mod (m := 4000) this.1
  unfold Arg.len
  omega

theorem facts5 (ok : g.Ok w0) (hn : g.n ≤ 4000) (c : Cs) (hc : c = .bad → g.chk ≠ 0) :
    FactsOk Try.prog (X5 c (decide (16383 < g.p)) (decide (3800 < g.x.tmod 4000)) (decide (g.y.tmod 256 < 128))) (own0 w0 g.vals g.more) :=
  { bin := bins_ok (BinsOk.append (binsCs c hc) (bins5 ok hn))
    un := fun _ _ _ h => by simp [X5] at h
    conv := by
      intro s d x r h ρ hS x' w hx
      have u1 : (IntKind.i64.wrap g.x) = g.x := by have := ok.x; simp [IntKind.wrap, IntKind.signed, IntKind.bits]; omega
      have u4 : (IntKind.u32.wrap g.z) = g.z := by have := ok.z; simp [IntKind.wrap, IntKind.signed, IntKind.bits]; omega
      simp only [X5, List.mem_cons, List.not_mem_nil, or_false, Prod.mk.injEq] at h
      rcases h with ⟨rfl, rfl, rfl, rfl⟩ | ⟨rfl, rfl, rfl, rfl⟩ | ⟨rfl, rfl, rfl, rfl⟩ | ⟨rfl, rfl, rfl, rfl⟩
      · have hx' := den_eq hS (u := .int .u16 g.x) rfl hx
        subst hx'
        exact ⟨.int .i64 g.x, conv_int Try.underlying38 Try.underlying3 u1.symm w, den_rel hS rfl rfl⟩
      · have hx' := den_eq hS (u := .int .u16 g.p) rfl hx
        subst hx'
        have u0 : (IntKind.u16.wrap g.p) = g.p := by have := ok.p; simp [IntKind.wrap, IntKind.signed, IntKind.bits]; omega
        exact ⟨.int .u16 g.p, conv_int Try.underlying38 Try.underlying39 u0.symm w, den_rel hS rfl rfl⟩
      · have hx' := den_eq hS (u := .int .u16 g.y) rfl hx
        subst hx'
        exact ⟨.int .u8 (IntKind.u8.wrap g.y), conv_int Try.underlying38 Try.underlying5 rfl w, den_rel hS rfl rfl⟩
      · have hx' := den_eq hS (u := .int .u16 g.z) rfl hx
        subst hx'
        exact ⟨.int .u32 g.z, conv_int Try.underlying38 Try.underlying25 u4.symm w, den_rel hS rfl rfl⟩
    len := by
      intro t x r h ρ hS ts ty args x' w hts ha hx
      simp only [X5, List.mem_cons, List.not_mem_nil, or_false, Prod.mk.injEq] at h
      rcases h with ⟨rfl, rfl, rfl⟩ | ⟨rfl, rfl, rfl⟩
      · have hx' := den_eq hS (u := g.body) rfl hx
        subst hx'
        exact ⟨.int .i64 g.n, len_slice Try.underlying35 hts ha w, den_rel hS rfl rfl⟩
      · obtain ⟨L, _, rfl, _⟩ := made_at hS hx
        exact ⟨.int .i64 g.len, len_slice Try.underlying35 hts ha w, den_rel hS (by rw [len_cast ok]; rfl) rfl⟩
    made := by
      intro t l i h ρ hS l' w hl
      simp only [X5, List.mem_cons, List.not_mem_nil, or_false, Prod.mk.injEq] at h
      obtain ⟨rfl, rfl, rfl⟩ := h
      have hx' := den_eq hS (u := .int .i64 (g.x.tmod 4000)) rfl hl
      subst hx'
      have h4 := len_lt ok
      have hcast := len_cast ok
      obtain ⟨i0, hi0, hz0i, hz1i, hz2i⟩ : ∃ i0, Try.prog.info? 5 = some i0 ∧ i0.zero = some (.int .u8 0) ∧ i0.size = 1 ∧ i0.bytes = 1 := by
        have h := infoByte
        cases hi : Try.prog.info? 5 with
        | none => rw [hi] at h; exact absurd h (by simp)
        | some i0 => rw [hi] at h; simp at h; exact ⟨i0, rfl, h.1, h.2.1, h.2.2⟩
      refine ⟨g.len, .cells (madeCells #[.int .u8 0] g.len) 5, by rw [hcast], .inr ⟨rfl, fun _ => ⟨rfl, rfl⟩⟩, ?_⟩
      have := run_makeSlice (w := w) 35 5 i0 _ Try.underlying35 hi0 hz0i .i64 .i64 (g.len : Int) (g.len : Int) (by omega) (by omega) (by rw [hz1i]; simp; omega) (by rw [hz2i]; omega) (by omega)
      rw [← hcast, this, hz1i]
      simp [Value.cells]
    keys := by
      intro kt k ns h ρ hS k' j hk hu
      simp only [X5, List.mem_cons, List.not_mem_nil, or_false, Prod.mk.injEq] at h
      rcases h with ⟨rfl, rfl, rfl⟩ | ⟨rfl, rfl, rfl⟩
      · rw [Try.underlying25] at hu
        cases hu
        exact ⟨g.t, den_eq hS rfl hk, by simp⟩
      · rw [Try.underlying25] at hu
        cases hu
        refine ⟨g.z + 2, den_eq hS rfl hk, ?_⟩
        have := ok.z
        simp
        omega }

theorem args_nil {ρ : Rho} {a b : Array Value} (h : ARel ρ a b) (e : a.toList = []) : b = #[] := by
  have h1 := h.1
  have h2 : a.size = 0 := by rw [← Array.length_toList, e]; rfl
  exact Array.eq_empty_of_size_eq_zero (by omega)

theorem args_one {ρ : Rho} {a b : Array Value} {m : Value} (h : ARel ρ a b) (e : a.toList = [m]) : ∃ m', b = #[m'] ∧ VRel ρ m m' := by
  obtain ⟨l⟩ := a
  simp only at e
  subst e
  have h1 := h.1
  obtain ⟨l'⟩ := b
  match l', h1 with
  | [m'], _ => exact ⟨m', rfl, h.2 0 m m' rfl rfl⟩

/-- the case of the message -/
def CsOk (g : Arg) : Cs → Prop
  | .bad => g.chk ≠ 0
  | .k1 => g.chk = 0 ∧ g.k = 1
  | .k2 => g.chk = 0 ∧ g.k = 2
  | .k3 => g.chk = 0 ∧ g.k = 3
  | .k4 => g.chk = 0 ∧ g.k = 4

theorem cs_v {c : Cs} (h : CsOk g c) : den g.vals c.v = some (.int .u8 g.k) := by
  cases c with
  | bad => rfl
  | _ => rw [h.2]; rfl
theorem cs_r {c : Cs} (h : CsOk g c) : den g.vals c.r = some (.int .i64 g.chk) := by
  cases c with
  | bad => rfl
  | _ => rw [h.1]; rfl

def Arg.msg (g : Arg) : Value := .agg #[.int .u8 g.k, .int .u32 g.fr, .int .u32 g.t, .int .u8 g.c, g.body]

theorem five {a b : Array Value} (h : a.size = b.size) {v0 v1 v2 v3 v4 : Value} (ha : a = #[v0, v1, v2, v3, v4]) : ∃ u0 u1 u2 u3 u4, b = #[u0, u1, u2, u3, u4] := by
  subst ha
  obtain ⟨l⟩ := b
  match l, h with
  | [u0, u1, u2, u3, u4], _ => exact ⟨u0, u1, u2, u3, u4, rfl⟩

theorem msg_eq {ρ : Rho} (hS : Says (own0 w0 g.vals g.more) ρ) {c : Cs} (hc : CsOk g c) {m' : Value} (h : VRel ρ (msg c) m') : m' = g.msg := by
  cases h with
  | agg h1 h2 =>
    obtain ⟨u0, u1, u2, u3, u4, rfl⟩ := five h1 rfl
    rw [den_eq hS (cs_v hc) (h2 0 _ u0 rfl rfl), den_eq hS (u := .int .u32 g.fr) rfl (h2 1 _ u1 rfl rfl), den_eq hS (u := .int .u32 g.t) rfl (h2 2 _ u2 rfl rfl), den_eq hS (u := .int .u8 g.c) rfl (h2 3 _ u3 rfl rfl), den_eq hS (u := g.body) rfl (h2 4 _ u4 rfl rfl)]
    rfl

theorem msg_rel {ρ : Rho} (hS : Says (own0 w0 g.vals g.more) ρ) {c : Cs} (hv : den g.vals c.v = some (.int .u8 g.k)) : VRel ρ (msg c) g.msg := by
  refine .agg rfl ?_
  intro j u u' e1 e2
  match j, e1, e2 with
  | 0, e1, e2 => simp at e1 e2; subst e1; subst e2; exact den_rel hS hv rfl
  | 1, e1, e2 => simp at e1 e2; subst e1; subst e2; exact den_rel hS rfl rfl
  | 2, e1, e2 => simp at e1 e2; subst e1; subst e2; exact den_rel hS rfl rfl
  | 3, e1, e2 => simp at e1 e2; subst e1; subst e2; exact den_rel hS rfl rfl
  | 4, e1, e2 => simp at e1 e2; subst e1; subst e2; exact den_rel hS rfl rfl
  | j + 5, e1, e2 => simp at e1

theorem rd_old {w : World} {σ : AW} {ρ : Rho} (hR : R w0 (own0 w0 g.vals g.more) σ ρ w) {v : Value} (h : RdB w0 v) : RdB w v := by
  rcases h with h | ⟨a, n, c, cs, h1, h2, h3, h4, h5, h6⟩
  · exact .inl h
  · refine .inr ⟨a, n, c, cs, h1, h2, h3, fun j u hj => ?_, h5, h6⟩
    have h7 := h4 j u hj
    have hlt := World.block_lt_of_cell? w0 _ h7
    rw [World.cell?_of_block (w := w0) (hR.block _ (by simp [own0]; exact hlt))]
    exact h7

theorem rd_made {w : World} {n b : Nat} (hn : n ≤ 4000) (h : w.heap[b]? = some (.cells (madeCells #[.int .u8 0] n) 5)) : RdB w (.slice (some ⟨b, 0, none⟩) n n) := by
  refine .inr ⟨_, n, n, List.replicate n (.int .u8 0), rfl, Nat.le_refl _, by simp, fun j u hj => ?_, fun u hu => ?_, hn⟩
  · have hj2 := hj
    rw [List.getElem?_replicate] at hj
    split at hj
    · rename_i hlt
      cases hj
      have hadd : (⟨b, 0, none⟩ : Addr).add j = ⟨b, j, none⟩ := by unfold Addr.add; split <;> simp_all
      rw [hadd]
      simp [World.cell?, h, madeCells, hlt, Nat.mod_one]
    · exact absurd hj (by simp)
  · rw [List.mem_replicate] at hu
    rw [hu.2]; rfl

theorem body_rd {w : World} {σ : AW} {ρ : Rho} (ok : g.Ok w0) (hn : g.n ≤ 4000) (hR : R w0 (own0 w0 g.vals g.more) σ ρ w) {v v' : Value} (hb : isBody v = true) (h : VRel ρ v v') : RdB w v' := by
  unfold isBody at hb
  rw [Bool.or_eq_true] at hb
  rcases hb with hb | hb
  · have := sameN_eq _ _ _ hb
    subst this
    have h' := den_eq hR.says (u := g.body) rfl h
    subst h'
    exact rd_old hR (ok.rd hn)
  · have := sameN_eq _ _ _ hb
    subst this
    obtain ⟨L, hL, rfl, hp⟩ := made_at hR.says h
    exact rd_made (Nat.le_of_lt (len_lt ok)) (hR.pins 24 L _ hL hp)

theorem slc_cell {v : Value} (h : Slc v) : notCell v = false := by
  rcases h with rfl | ⟨_, _, _, rfl, _⟩ <;> rfl

theorem grow_below {w w' : World} {S : Own} {σ : AW} {ρ : Rho} (hR : R w0 S σ ρ w) (h : Below w.heap.size w w') : R w0 S σ ρ w' :=
  hR.grow h.os h.tape h.output h.size h.block

theorem ext5 (ok : g.Ok w0) (hn : g.n ≤ 4000) (c : Cs) (hc : CsOk g c) : ExtOk Try.prog w0 (own0 w0 g.vals g.more) (Y5 c) := by
  intro f args σ e σ' h ρ w args' ha hR
  have chks : ∀ f, f = 24 ∨ f = 29 → (match args.toList with | [m] => (match sameN 3 m (msg c) with | true => some (AEnd.returned c.r, σ) | false => none) | _ => none) = some (e, σ') →
      Calls Try.prog f args' w fun e' w' => ∃ ρ', ρ.le ρ' ∧ ERel ρ' e e' ∧ R w0 (own0 w0 g.vals g.more) σ' ρ' w' := by
    intro f hf h
    split at h
    · rename_i m hm
      split at h
      · rename_i hsame
        simp only [Option.some.injEq, Prod.mk.injEq] at h
        obtain ⟨rfl, rfl⟩ := h
        obtain ⟨m', rfl, hm'⟩ := args_one ha hm
        rw [sameN_eq _ _ _ hsame] at hm'
        have := msg_eq hR.says hc hm'
        subst this
        refine (chk_call hf ok.fr ok.t ok.c w).mono ?_
        rintro e w' ⟨rfl, hb⟩
        exact ⟨ρ, ρ.le_refl, den_rel hR.says (cs_r hc) rfl, grow_below hR hb⟩
      · exact absurd h (by simp)
    · exact absurd h (by simp)
  unfold Y5 at h
  split at h
  · split at h
    · rename_i hnil
      simp only [Option.some.injEq, Prod.mk.injEq] at h
      obtain ⟨rfl, rfl⟩ := h
      have := args_nil ha hnil
      subst this
      refine (lives_ok w).mono ?_
      rintro e w' ⟨rfl, hb⟩
      exact ⟨ρ, ρ.le_refl, .bool true, grow_below hR hb⟩
    · exact absurd h (by simp)
  · exact chks 24 (.inl rfl) h
  · exact chks 29 (.inr rfl) h
  · split at h
    · rename_i v hv
      split at h
      · rename_i hb h1 h2
        simp only [Option.some.injEq, Prod.mk.injEq] at h
        obtain ⟨rfl, rfl⟩ := h
        obtain ⟨v', rfl, hv'⟩ := args_one ha hv
        have h1 : σ.next < 2 ^ D := by simpa using h1
        have h2 : 24 < σ.next := by simpa using h2
        refine (own_any v' w (body_rd ok hn hR hb hv')).mono ?_
        rintro e w' ⟨u, rfl, hu, hbw⟩
        have := hR.name (L := nm u) (fun v e => .inr ⟨by simp [Arg.vals]; omega, fun e => by omega⟩) h1 hbw.os hbw.tape hbw.output hbw.size hbw.block (fun o e => by simp [nm] at e)
        exact ⟨_, this.1, .sym (Rho.put_same _ _ _) rfl (slc_cell hu), this.2⟩
      · exact absurd h (by simp)
    · exact absurd h (by simp)
  · exact absurd h (by simp)

theorem facts6 (hn : ¬ g.n ≤ 4000) : FactsOk Try.prog X6 (own0 w0 g.vals g.more) :=
  { bin := by
      refine bins_ok ?_
      simp only [X6, BinsOk, List.forall_mem_cons]
      refine ⟨?_, fun e h => by simp at h⟩
      refine one_bin (k := .i64) (a := g.n) rfl rfl rfl rfl ?_
      have : decide ((4000 : Int) < g.n) = true := decide_eq_true (by omega)
      rw [← this]; rfl
    un := fun _ _ _ h => by simp [X6] at h
    conv := fun _ _ _ _ h => by simp [X6] at h
    made := fun _ _ _ h => by simp [X6] at h
    keys := fun _ _ _ h => by simp [X6] at h
    len := by
      intro t x r h ρ hS ts ty args x' w hts ha hx
      simp only [X6, List.mem_cons, List.not_mem_nil, or_false, Prod.mk.injEq] at h
      obtain ⟨rfl, rfl, rfl⟩ := h
      have hx' := den_eq hS (u := g.body) rfl hx
      subst hx'
      exact ⟨.int .i64 g.n, len_slice Try.underlying35 hts ha w, den_rel hS rfl rfl⟩ }

end Go.Proofs.Ythfhdmogocphpaa
