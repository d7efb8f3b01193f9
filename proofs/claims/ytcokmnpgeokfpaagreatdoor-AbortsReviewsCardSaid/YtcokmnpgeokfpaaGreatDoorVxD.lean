import Derived.Test.YtcokmnpgeokfpaaGreatDoorVxC
import Derived.OpenShut
import Derived.WideShapes
import Derived.Carry
import Derived.Deep.Slices
set_option linter.unusedVariables false
set_option linter.unusedSimpArgs false
namespace Go
namespace Vx
open Go.RowKit (Below)
def upF (g : List Nat) (n : Nat) (i : Nat) : Option Nat :=
 match g[i]? with
 | some j => some j
 | none => some (n + (i - g.length))
theorem upF_in {g : List Nat} {n i j : Nat} (h : g[i]? = some j) : upF g n i = some j := by unfold upF; rw [h]
theorem upF_out {g : List Nat} {n i : Nat} (h : g.length ≤ i) : upF g n i = some (n + (i - g.length)) := by unfold upF; rw [List.getElem?_eq_none h]
def FTo (P : Program) (W0 : World) (f : FuncId) (args : Array Value) (σ : AW) (e : AEnd) (σ' : AW) : Prop :=
 ∀ w0 S, Std W0 w0 S σ.next → To P w0 S f args σ e σ'
section
variable {P : Program} {W0 w0 : World} {S : Own} {n0 : Nat}
structure Framed (g : List Nat) (σ σs σs' σ' : AW) : Prop where
 lenS : σs.next = g.length
 lenD : g.length ≤ 2 ^ D
 sNd : σs.toks.Nodup
 nd : g.Nodup
 lt : ∀ j, j ∈ g → j < σ.next
 obj : ∀ i o', i < g.length → σs.get i = some o' → ∃ j o, g[i]? = some j ∧ σ.get j = some o ∧ renO g o = some o'
 tk : ∀ i, i ∈ σs.toks → ∃ j, g[i]? = some j ∧ j ∈ σ.toks
 le : g.length ≤ σs'.next
 next : σ'.next = σ.next + (σs'.next - g.length)
 lim : σ'.next ≤ 2 ^ D
 back : ∀ j o', j < σ'.next → σ'.get j = some o' → (j < σ.next ∧ j ∉ g ∧ σ.get j = some o') ∨ ∃ i o, upF g σ.next i = some j ∧ i < σs'.next ∧ σs'.get i = some o ∧ renOF (upF g σ.next) o = some o'
 tks : ∀ τ, τ ∈ σ'.toks → (τ ∈ σ.toks ∧ τ ∉ g) ∨ ∃ i, upF g σ.next i = some τ ∧ i ∈ σs'.toks
 tnd : σ'.toks.Nodup
theorem upF_inj {g : List Nat} {n i i' j : Nat} (hnd : g.Nodup) (hlt : ∀ j, j ∈ g → j < n) (h : upF g n i = some j) (h' : upF g n i' = some j) : i = i' := by
 unfold upF at h h'
 split at h
 ·rename_i a ha
  cases h
  split at h'
  ·rename_i b hb
   cases h'
   obtain ⟨h1, e1⟩ := List.getElem?_eq_some_iff.1 ha
   obtain ⟨h2, e2⟩ := List.getElem?_eq_some_iff.1 hb
   exact (List.getElem_inj hnd).1 (e1.trans e2.symm)
  ·have := hlt j (List.mem_of_getElem? ha)
   simp only [Option.some.injEq] at h'
   omega
 ·rename_i ha
  split at h'
  ·rename_i b hb
   cases h'
   have := hlt j (List.mem_of_getElem? hb)
   simp only [Option.some.injEq] at h
   omega
  ·rename_i hb
   have h1 : g.length ≤ i := by
    rcases Nat.lt_or_ge i g.length with q | q
    ·rw [List.getElem?_eq_getElem q] at ha; exact absurd ha (by simp)
    ·exact q
   have h2 : g.length ≤ i' := by
    rcases Nat.lt_or_ge i' g.length with q | q
    ·rw [List.getElem?_eq_getElem q] at hb; exact absurd hb (by simp)
    ·exact q
   simp only [Option.some.injEq] at h h'
   omega
def dnF (g : List Nat) (n : Nat) (j : Nat) : Option Nat :=
 match Nat.blt j n with
 | true => invM g j
 | false => some (j - n + g.length)
theorem invM_of {g : List Nat} {i j : Nat} (hnd : g.Nodup) (h : g[i]? = some j) : invM g j = some i := by
 cases hq : invM g j with
 | some k =>
  have hk := invM_spec hq
  obtain ⟨h1, e1⟩ := List.getElem?_eq_some_iff.1 h
  obtain ⟨h2, e2⟩ := List.getElem?_eq_some_iff.1 hk
  congr 1
  exact (List.getElem_inj hnd).1 (e2.trans e1.symm)
 | none =>
  exfalso
  unfold invM at hq
  split at hq
  ·exact absurd hq (by simp)
  ·rename_i hf
   rw [List.findIdx?_eq_none_iff] at hf
   have := hf j (List.mem_of_getElem? h)
   simp at this
theorem dnF_up {g : List Nat} {n i j : Nat} (hnd : g.Nodup) (hlt : ∀ j, j ∈ g → j < n) (h : upF g n i = some j) : dnF g n j = some i := by
 unfold upF at h
 split at h
 ·rename_i k hk
  cases h
  have := hlt j (List.mem_of_getElem? hk)
  unfold dnF
  rw [show Nat.blt j n = true from Nat.ble_eq_true_of_le this]
  exact invM_of hnd hk
 ·rename_i hk
  simp only [Option.some.injEq] at h
  have hl : g.length ≤ i := by
   rcases Nat.lt_or_ge i g.length with q | q
   ·rw [List.getElem?_eq_getElem q] at hk; exact absurd hk (by simp)
   ·exact q
  unfold dnF
  have hb : Nat.blt j n = false := by
   cases hb : Nat.blt j n with
   | false => rfl
   | true => have := blt_t hb; omega
  rw [hb]
  simp only
  congr 1
  omega
theorem dnF_out {g : List Nat} {n j : Nat} (hj : j < n) (hg : j ∉ g) : dnF g n j = none := by
 unfold dnF
 rw [show Nat.blt j n = true from Nat.ble_eq_true_of_le hj]
 simp only
 cases hq : invM g j with
 | none => rfl
 | some k => exact absurd (List.mem_of_getElem? (invM_spec hq)) hg
theorem FTo.frame {f : FuncId} {args argsS : Array Value} {σ σs σs' σ' : AW} {e eS : AEnd} {g : List Nat} (h : FTo P W0 f argsS σs eS σs') (hS : Std W0 w0 S n0) (hF : Framed g σ σs σs' σ')
  (ha : mapO (renN g 12) args.toList = some argsS.toList)
  (he : match eS, e with
   | .returned v, .returned v' => renF (upF g σ.next) 12 v = some v'
   | .panicked a, .panicked b => a = b ∧ b.all (fun x => pureB x.v) = true
   | _, _ => False) : To P w0 S f args σ e σ' := by
 intro ρ w args' hargs hR
 -- the world that the function sees
 let ρs : Rho := ρ.ren (fun i => g[i]?)
 have hρs : ρs = ρ.ren (fun i => g[i]?) := rfl
 let own1 : Nat → Prop := fun b => (∃ j o M, j ∈ g ∧ σ.get j = some o ∧ ρ j = some M ∧ M.blk = b) ∨ (∃ τ U, τ ∈ g ∧ τ ∈ σ.toks ∧ ρ.tok τ = some (some U) ∧ U.blk = b) ∨ w.heap.size ≤ b
 let S1 : Own := ⟨own1, ρs, fun _ _ => False, fun _ => False⟩
 have own_S : ∀ b, own1 b → S b := by
  rintro b (⟨j, o, M, h1, h2, h3, rfl⟩ | ⟨τ, U, h1, h2, h3, rfl⟩ | h1)
  ·exact (hR.at h3 h2).1
  ·obtain ⟨_, T, q2, q3⟩ := hR.tok τ h2
   rw [h3] at q2
   cases q2
   exact (q3 U rfl).1
  ·exact hR.own b (Nat.le_trans hR.size h1)
 have nopin : ∀ i L o, ρ i = some L → L.pin = some o → False := fun i L o e ep => by
  obtain ⟨v, hv⟩ := hR.pinVal i L o e ep
  exact hS.sp i L (hR.spec i L v e hv)
 have inv : ∀ {i : Nat} {L : Loc}, ρs i = some L → ∃ j, g[i]? = some j ∧ ρ j = some L := by
  intro i L e
  simp only [hρs, Rho.ren] at e
  cases hm : g[i]? with
  | none => rw [hm] at e; simp at e
  | some j => rw [hm] at e; exact ⟨j, rfl, e⟩
 have inj : ∀ {i i' j : Nat}, g[i]? = some j → g[i']? = some j → i = i' := by
  intro i i' j e e'
  obtain ⟨h1, e1⟩ := List.getElem?_eq_some_iff.1 e
  obtain ⟨h2, e2⟩ := List.getElem?_eq_some_iff.1 e'
  exact (List.getElem_inj hF.nd).1 (e1.trans e2.symm)
 have hobj : ∀ i o', i < σs.next → σs.get i = some o' → ∃ j o L, g[i]? = some j ∧ j ∈ g ∧ j < σ.next ∧ σ.get j = some o ∧ ρ j = some L ∧ ρs i = some L ∧ OTrans ρ ρs o o' := by
  intro i o' hi e
  rw [hF.lenS] at hi
  obtain ⟨j, o, e1, e2, e3⟩ := hF.obj i o' hi e
  have hjg : j ∈ g := List.mem_of_getElem? e1
  have hjl := hF.lt j hjg
  obtain ⟨L, e4, _⟩ := hR.obj j o hjl e2
  exact ⟨j, o, L, e1, hjg, hjl, e2, e4, by simp only [hρs, Rho.ren, e1]; exact e4, renO_trans e3⟩
 have lim := hR.lim
 have hlenD := hF.lenD
 have hR1 : R w S1 σs ρs w :=
  {base := Rho.le_refl _
   spec := fun i L v e ev => by
    obtain ⟨j, e1, e2⟩ := inv e
    exact absurd (hR.spec j L v e2 ev) (hS.sp j L)
   pinVal := fun i L o e ep => by obtain ⟨j, e1, e2⟩ := inv e; exact hR.pinVal j L o e2 ep
   pins := fun i L o e ep => by obtain ⟨j, e1, e2⟩ := inv e; exact hR.pins j L o e2 ep
   pinInj := fun i i' L M o q e e' ep eq eb => by
    obtain ⟨j, e1, e2⟩ := inv e
    obtain ⟨j', e1', e2'⟩ := inv e'
    have := hR.pinInj j j' L M o q e2 e2' ep eq eb
    subst this
    exact inj e1 e1'
   pinApart := fun i L o j oj M e ep hj ej hM => by
    obtain ⟨a, e1, e2⟩ := inv e
    obtain ⟨b, o2, L2, q1, _, q2, q3, q4, q5, _⟩ := hobj j oj hj ej
    rw [hM] at q5
    cases q5
    exact hR.pinApart a L o b o2 _ e2 ep q2 q3 q4
   mem := hR.mem
   memApart := fun b o j oj M e hj ej hM => by
    obtain ⟨a, o2, L2, q1, _, q2, q3, q4, q5, _⟩ := hobj j oj hj ej
    rw [hM] at q5
    cases q5
    exact hR.memApart b o a o2 _ e q2 q3 q4
   memNew := fun b o e => .inl ⟨o, e⟩
   memBase := fun b o e _ => e
   tok := fun τ ht => by
    obtain ⟨j, e1, e2⟩ := hF.tk τ ht
    obtain ⟨q1, T, q2, q3⟩ := hR.tok j e2
    refine ⟨by rw [hF.lenS]; exact (List.getElem?_eq_some_iff.1 e1).1, T, by simp only [hρs, Rho.ren, e1]; exact q2, fun U e => ?_⟩
    subst e
    exact ⟨.inr (.inl ⟨j, U, List.mem_of_getElem? e1, e2, q2, rfl⟩), (q3 U rfl).2⟩
   tokInj := fun τ τ' T T' ht ht' e e' hb => by
    obtain ⟨j, e1, e2⟩ := hF.tk τ ht
    obtain ⟨j', e1', e2'⟩ := hF.tk τ' ht'
    simp only [hρs, Rho.ren, e1] at e
    simp only [hρs, Rho.ren, e1'] at e'
    have := hR.tokInj j j' T T' e2 e2' e e' hb
    subst this
    exact inj e1 e1'
   tokDom := fun i hi => by
    simp only [hρs, Rho.ren]
    rw [List.getElem?_eq_none (by rw [← hF.lenS]; exact hi)]
    rfl
   tokPin := fun τ U i L o ht hU e1 e2 => by
    obtain ⟨j, q1, q2⟩ := hF.tk τ ht
    obtain ⟨i', r1, r2⟩ := inv e1
    simp only [hρs, Rho.ren, q1] at hU
    exact hR.tokPin j U i' L o q2 hU r2 e2
   tokNd := hF.sNd
   os := rfl, tape := rfl, output := rfl, size := Nat.le_refl _, block := fun _ _ => rfl, own := fun b hb => .inr (.inr hb)
   dom := fun i hi => by
    simp only [hρs, Rho.ren]
    rw [List.getElem?_eq_none (by rw [← hF.lenS]; exact hi)]
    rfl
   lim := by rw [hF.lenS]; exact hlenD
   obj := fun i o' hi e => by
    obtain ⟨j, o, L, q1, q0, q2, q3, q4, q5, q6⟩ := hobj i o' hi e
    obtain ⟨a, b⟩ := hR.at q4 q3
    exact ⟨L, q5, .inl ⟨j, o, L, q0, q3, q4, rfl⟩, b.trans q6⟩
   exact := fun i cs e k L hi ei hL he => absurd he (fun h => h)
   apart := fun i i' oi oi' L L' hi hi' e e' hL hL' hb => by
    obtain ⟨j, o, M, q1, _, q2, q3, q4, q5, _⟩ := hobj i oi hi e
    obtain ⟨j', o', M', r1, _, r2, r3, r4, r5, _⟩ := hobj i' oi' hi' e'
    rw [hL] at q5
    cases q5
    rw [hL'] at r5
    cases r5
    have := hR.apart j j' o o' _ _ q2 r2 q3 r3 q4 r4 hb
    subst this
    exact inj q1 r1 }
 have hS1 : Std W0 w S1 σs.next :=
  ⟨fun _ h => h, fun _ _ h => h, fun i L e => by
   obtain ⟨j, e1, _⟩ := inv e
   rw [hF.lenS]
   exact (List.getElem?_eq_some_iff.1 e1).1, fun i T e => by
   have e : ρs.tok i = some T := e
   simp only [hρs, Rho.ren] at e
   rw [hF.lenS]
   rcases Nat.lt_or_ge i g.length with q | q
   ·exact q
   ·rw [List.getElem?_eq_none q] at e; simp at e, fun b hb => hS.own b (own_S b hb), hR.belowW hS⟩
 -- the arguments
 have hargs1 : ARel ρs argsS args' := by
  have ht : TransL ρ ρs args.toList argsS.toList := mapO_trans (fun v v' _ hv => renN_trans 12 v v' hv) ha
  exact arrT ht hargs.1 hargs.2
 refine (h w S1 hS1 ρs w args' hargs1 hR1).mono ?_
 rintro e' w' ⟨ρs', hle1, hee, hR2⟩
 -- back
 have hle1' := hle1
 have lim' := hF.lim
 have hdn : ∀ i j, upF g σ.next i = some j → dnF g σ.next j = some i := fun i j e => dnF_up hF.nd hF.lt e
 let ρ' : Rho := ⟨fun j => match dnF g σ.next j with | some i => ρs' i | none => ρ j, ρs'.mem, fun j => match dnF g σ.next j with | some i => ρs'.tok i | none => ρ.tok j⟩
 have up1 : ∀ i j, upF g σ.next i = some j → ∀ L, ρs' i = some L → ρ' j = some L := by
  intro i j e L hL
  show (match dnF g σ.next j with | some i => ρs' i | none => ρ j) = some L
  rw [hdn i j e]
  exact hL
 have up2 : ∀ i j, upF g σ.next i = some j → ∀ T, ρs'.tok i = some T → ρ'.tok j = some T := by
  intro i j e L hL
  show (match dnF g σ.next j with | some i => ρs'.tok i | none => ρ.tok j) = some L
  rw [hdn i j e]
  exact hL
 have upT : ∀ n v v', renF (upF g σ.next) n v = some v' → Trans ρs' ρ' v v' := renF_trans (ρ := ρs') (ρ' := ρ') (fun b o e => ⟨o, e, Pre.refl _⟩) up1 up2
 have far : ∀ j, j < σ.next → j ∉ g → dnF g σ.next j = none := fun j hj hg => dnF_out hj hg
 have near : ∀ j, j < σ.next → j ∈ g → ∃ i, g[i]? = some j ∧ dnF g σ.next j = some i := fun j hj hg => by
  obtain ⟨i, hi, rfl⟩ := List.getElem_of_mem hg
  have e : g[i]? = some g[i] := List.getElem?_eq_getElem hi
  exact ⟨i, e, hdn i _ (upF_in e)⟩
 have hle : ρ.le ρ' := by
  refine ⟨fun j L e => ?_, fun b o e => hle1.mem b o e, fun j T e => ?_⟩
  ·have hj := hR.lt e
   by_cases hg : j ∈ g
   ·obtain ⟨i, e1, e2⟩ := near j hj hg
    show (match dnF g σ.next j with | some i => ρs' i | none => ρ j) = some L
    rw [e2]
    exact hle1.at_ i L (by simp only [hρs, Rho.ren, e1]; exact e)
   ·show (match dnF g σ.next j with | some i => ρs' i | none => ρ j) = some L
    rw [far j hj hg]
    exact e
  ·have hj : j < σ.next := by
    rcases Nat.lt_or_ge j σ.next with q | q
    ·exact q
    ·rw [hR.tokDom j q] at e; exact absurd e (by simp)
   by_cases hg : j ∈ g
   ·obtain ⟨i, e1, e2⟩ := near j hj hg
    show (match dnF g σ.next j with | some i => ρs'.tok i | none => ρ.tok j) = some T
    rw [e2]
    exact hle1.tok i T (by simp only [hρs, Rho.ren, e1]; exact e)
   ·show (match dnF g σ.next j with | some i => ρs'.tok i | none => ρ.tok j) = some T
    rw [far j hj hg]
    exact e
 -- a location of the whole is one of the parts'
 have loc : ∀ j L, j < σ'.next → ρ' j = some L → (j < σ.next ∧ j ∉ g ∧ ρ j = some L) ∨ ∃ i, upF g σ.next i = some j ∧ i < σs'.next ∧ ρs' i = some L := by
  intro j L hj e
  have e : (match dnF g σ.next j with | some i => ρs' i | none => ρ j) = some L := e
  by_cases hjn : j < σ.next
  ·by_cases hg : j ∈ g
   ·obtain ⟨i, e1, e2⟩ := near j hjn hg
    rw [e2] at e
    exact .inr ⟨i, upF_in e1, hR2.lt e, e⟩
   ·rw [far j hjn hg] at e
    exact .inl ⟨hjn, hg, e⟩
  ·have e1 : upF g σ.next (j - σ.next + g.length) = some j := by rw [upF_out (by omega)]; congr 1; omega
   rw [hdn _ _ e1] at e
   exact .inr ⟨_, e1, hR2.lt e, e⟩
 have tokl : ∀ j T, ρ'.tok j = some T → (j < σ.next ∧ j ∉ g ∧ ρ.tok j = some T) ∨ ∃ i, upF g σ.next i = some j ∧ ρs'.tok i = some T := by
  intro j T e
  have e : (match dnF g σ.next j with | some i => ρs'.tok i | none => ρ.tok j) = some T := e
  by_cases hjn : j < σ.next
  ·by_cases hg : j ∈ g
   ·obtain ⟨i, e1, e2⟩ := near j hjn hg
    rw [e2] at e
    exact .inr ⟨i, upF_in e1, e⟩
   ·rw [far j hjn hg] at e
    exact .inl ⟨hjn, hg, e⟩
  ·have e1 : upF g σ.next (j - σ.next + g.length) = some j := by rw [upF_out (by omega)]; congr 1; omega
   rw [hdn _ _ e1] at e
   exact .inr ⟨_, e1, e⟩
 -- blocks that the function has left alone
 have notown : ∀ j o L, j < σ.next → j ∉ g → σ.get j = some o → ρ j = some L → ¬ own1 L.blk := by
  rintro j o L hj hg ho hL (⟨j', o', M, h1, h2, h3, h4⟩ | ⟨τ, U, h1, h2, h3, h4⟩ | h1)
  ·have := hR.apart j' j o' o M L (hF.lt j' h1) hj h2 ho h3 hL h4
   subst this
   exact hg h1
  ·obtain ⟨_, T, q2, q3⟩ := hR.tok τ h2
   rw [h3] at q2
   cases q2
   obtain ⟨_, a, c, fr, m1, _⟩ := q3 U rfl
   exact hR.memApart _ _ j o L m1 hj ho hL h4.symm
  ·have := hR.blk_lt hL ho
   omega
 have notownT : ∀ τ U, τ ∈ σ.toks → τ ∉ g → ρ.tok τ = some (some U) → ¬ own1 U.blk := by
  rintro τ U ht hg hU (⟨j', o', M, h1, h2, h3, h4⟩ | ⟨τ', U', h1, h2, h3, h4⟩ | h1)
  ·obtain ⟨_, T, q2, q3⟩ := hR.tok τ ht
   rw [hU] at q2
   cases q2
   obtain ⟨_, a, c, fr, m1, _⟩ := q3 U rfl
   exact hR.memApart _ _ j' o' M m1 (hF.lt j' h1) h2 h3 h4
  ·have := hR.tokInj τ' τ U' U h2 ht h3 hU h4
   subst this
   exact hg h1
  ·obtain ⟨_, T, q2, q3⟩ := hR.tok τ ht
   rw [hU] at q2
   cases q2
   obtain ⟨_, a, c, fr, m1, m2, m3, _⟩ := q3 U rfl
   have := heap_lt m3
   omega
 have domz : ∀ i, σ'.next ≤ i → ρ' i = none := fun i hi => by
  have hnx := hF.next
  have e1 : upF g σ.next (i - σ.next + g.length) = some i := by rw [upF_out (by omega)]; congr 1; omega
  show (match dnF g σ.next i with | some i => ρs' i | none => ρ i) = none
  rw [hdn _ _ e1]
  exact hR2.dom _ (by have := hF.le; omega)
 have nop : ∀ i L o, ρ' i = some L → ¬ L.pin = some o := fun j L o e ep => by
  rcases Nat.lt_or_ge j σ'.next with hj | hj
  ·rcases loc j L hj e with ⟨h1, h2, h3⟩ | ⟨i, h1, h2, h3⟩
   ·exact nopin j L o h3 ep
   ·obtain ⟨v, hv⟩ := hR2.pinVal i L o h3 ep
    exact hR2.spec i L v h3 hv
  ·rw [domz j hj] at e; exact absurd e (by simp)
 refine ⟨ρ', hle, ?_, ?_⟩
 ·-- the end
  cases eS with
  | returned v =>
   cases e with
   | returned v' =>
    cases e' with
    | returned u => exact upT 12 v v' he u hee
    | _ => exact hee.elim
   | panicked => exact he.elim
  | panicked a =>
   cases e with
   | returned => exact he.elim
   | panicked b =>
    obtain ⟨rfl, hp⟩ := he
    cases e' with
    | panicked u =>
     refine ⟨hee.1, fun i x y p q => ?_⟩
     obtain ⟨r1, r2⟩ := hee.2 i x y p q
     rw [List.all_eq_true] at hp
     have r3 := pureB_rel (hp x (List.mem_of_getElem? p)) r1
     exact ⟨PRel.v (ρ := ρ') r3, r2⟩
    | _ => exact hee.elim
 ·exact
   {base := Rho.le_trans hR.base hle
    spec := fun j L v e ev => by
     rcases Nat.lt_or_ge j σ'.next with hj | hj
     ·rcases loc j L hj e with ⟨h1, h2, h3⟩ | ⟨i, h1, h2, h3⟩
      ·exact hR.spec j L v h3 ev
      ·exact absurd (hR2.spec i L v h3 ev) (fun h => h)
     ·rw [domz j hj] at e; exact absurd e (by simp)
    pinVal := fun j L o e ep => absurd ep (nop j L o e)
    pins := fun j L o e ep => absurd ep (nop j L o e)
    pinInj := fun i j L M o q e _ ep => absurd ep (nop i L o e)
    pinApart := fun i L o j oj M e ep => absurd ep (nop i L o e)
    mem := hR2.mem
    memApart := fun b a j oj M e hj ej hM => by
     rcases hF.back j oj hj ej with ⟨h1, h2, h3⟩ | ⟨i, o, h1, h2, h3, h4⟩
     ·have hM' : ρ j = some M := by
       rcases loc j M hj hM with ⟨_, _, q⟩ | ⟨i, q, _, _⟩
       ·exact q
       ·exfalso
        unfold upF at q
        split at q
        ·rename_i k hk; cases q; exact h2 (List.mem_of_getElem? hk)
        ·simp only [Option.some.injEq] at q; omega
      intro hb
      have hn := notown j oj M h1 h2 h3 hM'
      rcases hR2.memNew b a e with ⟨a', q⟩ | q
      ·exact hR.memApart b a' j oj M q h1 h3 hM' hb
      ·rw [hb] at hn; exact hn q
     ·have hM' : ρs' i = some M := by
       rcases loc j M hj hM with ⟨q1, q2, _⟩ | ⟨i', q, _, q3⟩
       ·exfalso
        unfold upF at h1
        split at h1
        ·rename_i k hk; cases h1; exact q2 (List.mem_of_getElem? hk)
        ·simp only [Option.some.injEq] at h1; omega
       ·have := upF_inj hF.nd hF.lt q h1
        subst this
        exact q3
      exact hR2.memApart b a i o M e h2 h3 hM'
    memNew := fun b a e => by
     rcases hR2.memNew b a e with ⟨a', q⟩ | q
     ·exact hR.memNew b a' q
     ·exact .inr (own_S b q)
    memBase := fun b a e hn => hR2.memBase b a (hR.memBase b a e hn) (fun q => hn (own_S b q))
    tok := fun τ ht => by
     rcases hF.tks τ ht with ⟨h1, h2⟩ | ⟨i, h1, h2⟩
     ·obtain ⟨q1, T, q2, q3⟩ := hR.tok τ h1
      refine ⟨by have := hF.next; omega, T, hle.tok τ T q2, fun U e => ?_⟩
      subst e
      obtain ⟨r1, a, c, fr, m1, m2, m3, m4⟩ := q3 U rfl
      have hn := notownT τ U h1 h2 q2
      exact ⟨r1, a, c, fr, hR2.memBase _ _ m1 hn, m2, by rw [hR2.block _ hn]; exact m3, m4⟩
     ·obtain ⟨q1, T, q2, q3⟩ := hR2.tok i h2
      refine ⟨?_, T, up2 i τ h1 T q2, fun U e => ?_⟩
      ·unfold upF at h1
       split at h1
       ·rename_i k hk; cases h1; have := hF.lt _ (List.mem_of_getElem? hk); have := hF.next; omega
       ·rename_i hk
        simp only [Option.some.injEq] at h1
        have : g.length ≤ i := by
         rcases Nat.lt_or_ge i g.length with q | q
         ·rw [List.getElem?_eq_getElem q] at hk; exact absurd hk (by simp)
         ·exact q
        have := hF.next
        omega
      ·obtain ⟨r1, r2⟩ := q3 U e
       exact ⟨own_S _ r1, r2⟩
    tokInj := fun τ τ' T T' ht ht' e e' hb => by
     rcases hF.tks τ ht with ⟨h1, h2⟩ | ⟨i, h1, h2⟩ <;> rcases hF.tks τ' ht' with ⟨h1', h2'⟩ | ⟨i', h1', h2'⟩
     ·obtain ⟨_, T0, q2, _⟩ := hR.tok τ h1
      obtain ⟨_, T0', q2', _⟩ := hR.tok τ' h1'
      have a1 := hle.tok _ _ q2
      have a2 := hle.tok _ _ q2'
      rw [e] at a1
      rw [e'] at a2
      cases a1; cases a2
      exact hR.tokInj τ τ' T T' h1 h1' q2 q2' hb
     ·exfalso
      obtain ⟨_, T0, q2, _⟩ := hR.tok τ h1
      have a1 := hle.tok _ _ q2
      rw [e] at a1
      cases a1
      have hn := notownT τ T h1 h2 q2
      obtain ⟨_, T1, r2, r3⟩ := hR2.tok i' h2'
      have a2 := up2 _ _ h1' _ r2
      rw [e'] at a2
      cases a2
      rw [hb] at hn
      exact hn (r3 T' rfl).1
     ·exfalso
      obtain ⟨_, T0, q2, _⟩ := hR.tok τ' h1'
      have a1 := hle.tok _ _ q2
      rw [e'] at a1
      cases a1
      have hn := notownT τ' T' h1' h2' q2
      obtain ⟨_, T1, r2, r3⟩ := hR2.tok i h2
      have a2 := up2 _ _ h1 _ r2
      rw [e] at a2
      cases a2
      rw [← hb] at hn
      exact hn (r3 T rfl).1
     ·obtain ⟨_, T0, q2, _⟩ := hR2.tok i h2
      obtain ⟨_, T0', q2', _⟩ := hR2.tok i' h2'
      have a1 := up2 _ _ h1 _ q2
      have a2 := up2 _ _ h1' _ q2'
      rw [e] at a1
      rw [e'] at a2
      cases a1; cases a2
      have := hR2.tokInj i i' T T' h2 h2' q2 q2' hb
      subst this
      rw [h1] at h1'
      exact Option.some.inj h1'
    tokDom := fun i hi => by
     have hnx := hF.next
     have e1 : upF g σ.next (i - σ.next + g.length) = some i := by rw [upF_out (by omega)]; congr 1; omega
     show (match dnF g σ.next i with | some i => ρs'.tok i | none => ρ.tok i) = none
     rw [hdn _ _ e1]
     exact hR2.tokDom _ (by have := hF.le; omega)
    tokPin := fun τ U i L o _ _ e ep => absurd ep (nop i L o e)
    tokNd := hF.tnd
    os := hR2.os.trans hR.os, tape := hR2.tape.trans hR.tape, output := hR2.output.trans hR.output, size := Nat.le_trans hR.size hR2.size, own := hR.own
    block := fun b hb => by rw [hR2.block b (fun q => hb (own_S b q))]; exact hR.block b hb
    dom := domz
    lim := hF.lim
    obj := fun j o' hj ej => by
     rcases hF.back j o' hj ej with ⟨h1, h2, h3⟩ | ⟨i, o, h1, h2, h3, h4⟩
     ·obtain ⟨L, e1, e2, e3⟩ := hR.obj j o' h1 h3
      exact ⟨L, hle _ _ e1, e2, by rw [hR2.block _ (notown j o' L h1 h2 h3 e1)]; exact e3.mono hle⟩
     ·obtain ⟨L, e1, e2, e3⟩ := hR2.obj i o h2 h3
      exact ⟨L, up1 i j h1 L e1, own_S _ e2, e3.trans (renOF_trans (fun v v' h => upT 12 v v' h) h4)⟩
    exact := fun j cs e k L hj ej hL he => absurd he (hS.ex e)
    apart := fun j j' oj oj' L L' hj hj' ej ej' hL hL' hb => by
     have key : ∀ j o', j < σ'.next → σ'.get j = some o' → ∀ L, ρ' j = some L → (j < σ.next ∧ j ∉ g ∧ σ.get j = some o' ∧ ρ j = some L) ∨ ∃ i o, upF g σ.next i = some j ∧ i < σs'.next ∧ σs'.get i = some o ∧ ρs' i = some L := by
      intro j o' hj ej L hL
      rcases hF.back j o' hj ej with ⟨h1, h2, h3⟩ | ⟨i, o, h1, h2, h3, h4⟩
      ·obtain ⟨L0, e1, _⟩ := hR.obj j o' h1 h3
       have := hle _ _ e1
       rw [hL] at this
       cases this
       exact .inl ⟨h1, h2, h3, e1⟩
      ·obtain ⟨L0, e1, _⟩ := hR2.obj i o h2 h3
       have := up1 i j h1 L0 e1
       rw [hL] at this
       cases this
       exact .inr ⟨i, o, h1, h2, h3, e1⟩
     rcases key j oj hj ej L hL with ⟨a1, a2, a3, a4⟩ | ⟨i, o, a1, a2, a3, a4⟩ <;> rcases key j' oj' hj' ej' L' hL' with ⟨b1, b2, b3, b4⟩ | ⟨i', o2, b1, b2, b3, b4⟩
     ·exact hR.apart j j' oj oj' L L' a1 b1 a3 b3 a4 b4 hb
     ·exfalso
      have hn := notown j oj L a1 a2 a3 a4
      rw [hb] at hn
      exact hn (hR2.at b4 b3).1
     ·exfalso
      have hn := notown j' oj' L' b1 b2 b3 b4
      rw [← hb] at hn
      exact hn (hR2.at a4 a3).1
     ·have := hR2.apart i i' o o2 L L' a2 b2 a3 b3 a4 b4 hb
      subst this
      rw [a1] at b1
      exact Option.some.inj b1 }
end
end Vx
end Go
set_option linter.unusedVariables false
set_option linter.unusedSimpArgs false
namespace Go
namespace Vx
open Go.RowKit (Below)
section
variable {P : Program} {W0 w0 : World} {S : Own} {nt n0 : Nat} {s s' : St} {K K' : Cont} {c : Code}
def FEnd (w0 : World) (S : Own) (e : AEnd) (σ' : AW) (e1 : AEnd) (σ1 : AW) : Prop := ∀ ρ u w, ERel ρ e1 u → R w0 S σ1 ρ w → ∃ ρ', ERel ρ' e u ∧ R w0 S σ' ρ' w
theorem FTo.of_body {f : FuncId} {fn : Func} {code : Code} {args : Array Value} {σ σ' : AW} {e : AEnd} (hf : P.funcs[f]? = some fn) (hcode : fn.body = some code) (hsz : Nat.ble args.size fn.ntmps = true)
  (h : ∀ w0 S, Std W0 w0 S σ.next → H P w0 S fn.ntmps code ⟨Tm.fill args.toList 0, [], .run, σ⟩ (KEnd P fn (FEnd w0 S e σ'))) : FTo P W0 f args σ e σ' := by
 intro w0 S hS ρ w args' ha hR
 let S1 : Own := { S with base := ρ }
 have hS1 : Std W0 w0 S1 σ.next := ⟨hS.ex, hS.sp, fun i L e => hR.lt e, fun i T e => by
  rcases Nat.lt_or_ge i σ.next with q | q
  ·exact q
  ·have e : ρ.tok i = some T := e
   rw [hR.tokDom i q] at e
   exact absurd e (by simp), hS.own, hS.below⟩
 haveI := hS1.noEx P
 have hR1 : R w0 S1 σ ρ w := { hR with base := Rho.le_refl _, memNew := fun b o e => .inl ⟨o, e⟩, memBase := fun b o e _ => e }
 refine (calls_of_H hf hcode hsz (h w0 S1 hS1) ha hR1).mono ?_
 rintro e' w' ⟨e1, σ1, ρ1, hQ, he, hR2⟩
 obtain ⟨ρ', he', hR3⟩ := hQ ρ1 e' w' he hR2
 refine ⟨ρ', hR3.base, he', ?_⟩
 exact { hR3 with
  base := Rho.le_trans hR.base hR3.base
  memNew := fun b o e => by
   rcases hR3.memNew b o e with ⟨o', q⟩ | q
   ·exact hR.memNew b o' q
   ·exact .inr q
  memBase := fun b o e hn => hR3.memBase b o (hR.memBase b o e hn) hn }
theorem FEnd.ren (hS : Std W0 w0 S n0) {v v' : Value} {σ1 : AW} (m : List Nat) (ob : List (Nat × AObj)) (tk : List Nat) (h : (renN m 12 v, renOs m σ1 ob, renB n0 m σ1 ob tk) = (some v', wantO ob, true)) : FEnd w0 S (.returned v') (mkW m.length tk ob) (.returned v) σ1 := by
 simp only [Prod.mk.injEq] at h
 obtain ⟨h1, h2, h6⟩ := h
 simp only [renB, Bool.and_eq_true] at h6
 obtain ⟨⟨⟨⟨⟨⟨b1, b2⟩, b3⟩, b4⟩, b5⟩, b6⟩, b7⟩ := h6
 have b4 := ble_t b4
 have hbD : ob.all (fun p => Nat.blt p.1 (2 ^ D)) = true := by
  rw [List.all_eq_true] at b7 ⊢
  intro p hp
  have := blt_t (b7 p hp)
  exact Nat.ble_eq_true_of_le (by omega)
 intro ρ u w he hR
 have hR2 := hR.ren (σ' := mkW m.length tk ob) hS.base hS.baseT hS.ex hS.sp m rfl b1 (nodupB_t b2) b3 b4 b5 (nodupB_t b6) (ObjsTo.of fun i j o' hj ho => by
  rw [Nat.zero_add] at ho
  have hi : i < m.length := (List.getElem?_eq_some_iff.1 hj).1
  obtain ⟨j', o, e1, e2, e3⟩ := renOs_get (nx := m.length) (tk := tk) h2 hbD i o' (by omega) ho
  rw [hj] at e1
  cases e1
  exact ⟨o, e2, renO_trans e3⟩)
 refine ⟨_, ?_, hR2⟩
 cases u with
 | returned v2 => exact renN_trans 12 v v' h1 _ he
 | _ => exact he.elim
theorem FEnd.pan (hS : Std W0 w0 S n0) {ch : List PanicEntry} {σ1 : AW} (m : List Nat) (ob : List (Nat × AObj)) (tk : List Nat) (h : (ch.all (fun x => pureB x.v), renOs m σ1 ob, renB n0 m σ1 ob tk) = (true, wantO ob, true)) : FEnd w0 S (.panicked ch) (mkW m.length tk ob) (.panicked ch) σ1 := by
 simp only [Prod.mk.injEq] at h
 obtain ⟨h1, h2, h6⟩ := h
 simp only [renB, Bool.and_eq_true] at h6
 obtain ⟨⟨⟨⟨⟨⟨b1, b2⟩, b3⟩, b4⟩, b5⟩, b6⟩, b7⟩ := h6
 have b4 := ble_t b4
 have hbD : ob.all (fun p => Nat.blt p.1 (2 ^ D)) = true := by
  rw [List.all_eq_true] at b7 ⊢
  intro p hp
  have := blt_t (b7 p hp)
  exact Nat.ble_eq_true_of_le (by omega)
 intro ρ u w he hR
 have hR2 := hR.ren (σ' := mkW m.length tk ob) hS.base hS.baseT hS.ex hS.sp m rfl b1 (nodupB_t b2) b3 b4 b5 (nodupB_t b6) (ObjsTo.of fun i j o' hj ho => by
  rw [Nat.zero_add] at ho
  have hi : i < m.length := (List.getElem?_eq_some_iff.1 hj).1
  obtain ⟨j', o, e1, e2, e3⟩ := renOs_get (nx := m.length) (tk := tk) h2 hbD i o' (by omega) ho
  rw [hj] at e1
  cases e1
  exact ⟨o, e2, renO_trans e3⟩)
 refine ⟨_, ?_, hR2⟩
 cases u with
 | panicked c2 =>
  refine ⟨he.1, fun i x y p q => ?_⟩
  obtain ⟨a, b⟩ := he.2 i x y p q
  rw [List.all_eq_true] at h1
  exact ⟨PRel.v (ρ := ρ.ren fun i => m[i]?) (pureB_rel (ρ := ρ) (h1 x (List.mem_of_getElem? p)) a), b⟩
 | _ => exact he.elim
theorem FEnd.wk {e : AEnd} {σ' σ1 : AW} {v v1 : Value} (p : Shp) (hw : wkTo 12 p v = some v1) (h : FEnd w0 S e σ' (.returned v1) σ1) : FEnd w0 S e σ' (.returned v) σ1 := fun ρ u w he hR => by
 cases u with
 | returned v2 => exact h ρ (.returned v2) w (wk_trans _ _ _ _ hw _ he) hR
 | _ => exact he.elim
theorem KEnd.of {fn : Func} {Q : AEnd → AW → Prop} {x : AExit} {v : Value} (hx : (match x with | .normal => true | .ret => true | _ => false) = true) (h : leaves P (exec P .none Ext.none 60 true) fn s.tmps s.defers .returning s.σ = .ok (.returned v, s.σ)) (hQ : Q (.returned v) s.σ) : KEnd P fn Q x s := by
 refine ⟨.returning, 60, .returned v, s.σ, .inl ⟨?_, rfl⟩, h, hQ⟩
 cases x <;> simp at hx <;> simp
theorem KEnd.ofPan {fn : Func} {Q : AEnd → AW → Prop} {ch : List PanicEntry} (h : leaves P (exec P .none Ext.none 60 true) fn s.tmps s.defers (.panicking ch) s.σ = .ok (.panicked ch, s.σ)) (hQ : Q (.panicked ch) s.σ) : KEnd P fn Q (.panic ch) s :=
 ⟨.panicking ch, 60, .panicked ch, s.σ, .inr ⟨ch, rfl, rfl⟩, h, hQ⟩
def frOs (g : List Nat) (σ : AW) : List (Nat × AObj) → List (Option AObj)
 | [] => []
 | p :: l => ((g[p.1]?).bind σ.get).bind (renO g) :: frOs g σ l
def bkOs (g : List Nat) (σ σs' : AW) : List (Nat × AObj) → List (Option AObj)
 | [] => []
 | p :: l => (match dnF g σ.next p.1 with
   | some i => (σs'.get i).bind (renOF (upF g σ.next))
   | none => σ.get p.1) :: bkOs g σ σs' l
def frB (g : List Nat) (σ : AW) (p p' : Nat) (obS : List (Nat × AObj)) (tkS tkS' : List Nat) (nx : Nat) (tk : List Nat) (ob : List (Nat × AObj)) : Bool :=
 Nat.beq p g.length && Nat.ble g.length (2 ^ D) && nodupB tkS && nodupB g && g.all (fun j => Nat.blt j σ.next) && tkS.all (fun i => match g[i]? with | some j => σ.toks.contains j | none => false) && Nat.ble g.length p' &&
  Nat.beq nx (σ.next + (p' - g.length)) && Nat.ble nx (2 ^ D) && tk.all (fun τ => match dnF g σ.next τ with | some i => tkS'.contains i && Nat.blt τ nx | none => σ.toks.contains τ) && nodupB tk && obS.all (fun q => Nat.blt q.1 p) && ob.all (fun q => Nat.blt q.1 nx)
theorem bkOs_get {g : List Nat} {σ σs' : AW} {nx : Nat} {tk : List Nat} : ∀ {l : List (Nat × AObj)}, bkOs g σ σs' l = wantO l → l.all (fun p => Nat.blt p.1 (2 ^ D)) = true → ∀ i o', i < 2 ^ D → (mkW nx tk l).get i = some o' →
  (match dnF g σ.next i with | some k => (σs'.get k).bind (renOF (upF g σ.next)) | none => σ.get i) = some o'
 | [], _, _, i, o', _, h => by
  simp only [mkW, AW.get, List.foldr_nil, Tr.get_leaf] at h
  exact absurd h (by simp)
 | p :: l, h, hb, i, o', hi, hg => by
  simp only [bkOs, wantO, List.cons.injEq] at h
  simp only [List.all_cons, Bool.and_eq_true] at hb
  by_cases e : i = p.1
  ·subst e
   simp only [mkW, AW.get, List.foldr_cons, Tr.get_set_same] at hg
   cases hg
   exact h.1
  ·refine bkOs_get (nx := nx) (tk := tk) h.2 hb.2 i o' hi ?_
   simp only [mkW, AW.get, List.foldr_cons] at hg ⊢
   rw [Tr.get_set_other _ _ _ _ _ (blt_t hb.1) hi (Ne.symm e)] at hg
   exact hg
theorem upF_dn {g : List Nat} {n i j : Nat} (hnd : g.Nodup) (h : dnF g n j = some i) : upF g n i = some j := by
 unfold dnF at h
 split at h
 ·have := invM_spec h
  unfold upF
  rw [this]
 ·rename_i hb
  have hb := blt_f hb
  simp only [Option.some.injEq] at h
  subst h
  rw [upF_out (by omega)]
  congr 1
  omega
theorem Framed.of {g : List Nat} {σ : AW} {p p' : Nat} {tkS tkS' tk : List Nat} {obS obS' ob : List (Nat × AObj)} {nx : Nat} (h : (frOs g σ obS, bkOs g σ (mkW p' tkS' obS') ob, frB g σ p p' obS tkS tkS' nx tk ob) = (wantO obS, wantO ob, true)) :
  Framed g σ (mkW p tkS obS) (mkW p' tkS' obS') (mkW nx tk ob) := by
 simp only [Prod.mk.injEq] at h
 obtain ⟨h1, h2, h3⟩ := h
 simp only [frB, Bool.and_eq_true] at h3
 obtain ⟨⟨⟨⟨⟨⟨⟨⟨⟨⟨⟨⟨c1, c2⟩, c3⟩, c4⟩, c5⟩, c6⟩, c7⟩, c8⟩, c9⟩, c10⟩, c11⟩, c12⟩, c13⟩ := h3
 have hnd := nodupB_t c4
 have hlt : ∀ j, j ∈ g → j < σ.next := fun j hj => blt_t ((List.all_eq_true.1 c5) j hj)
 have hD1 : obS.all (fun q => Nat.blt q.1 (2 ^ D)) = true := by
  rw [List.all_eq_true] at c12 ⊢
  intro q hq
  have := blt_t (c12 q hq)
  have := beq_t c1
  have := ble_t c2
  exact Nat.ble_eq_true_of_le (by omega)
 have hD2 : ob.all (fun q => Nat.blt q.1 (2 ^ D)) = true := by
  rw [List.all_eq_true] at c13 ⊢
  intro q hq
  have := blt_t (c13 q hq)
  have := ble_t c9
  exact Nat.ble_eq_true_of_le (by omega)
 refine ⟨beq_t c1, ble_t c2, nodupB_t c3, hnd, hlt, fun i o' hi ho => ?_, fun i hi => ?_, ble_t c7, beq_t c8, ble_t c9, fun j o' hj ho => ?_, fun τ ht => ?_, nodupB_t c11⟩
 ·obtain ⟨j, o, e1, e2, e3⟩ := renOs_get (m := g) (σ := σ) (nx := p) (tk := tkS) (l := obS) (by
   have : ∀ l, renOs g σ l = frOs g σ l := fun l => by induction l with
    | nil => rfl
    | cons x l ih => simp only [renOs, frOs, ih]
   rw [this]; exact h1) hD1 i o' (by have := ble_t c2; omega) ho
  exact ⟨j, o, e1, e2, e3⟩
 ·have := (List.all_eq_true.1 c6) i hi
  split at this
  ·rename_i j hj; exact ⟨j, hj, List.contains_iff_mem.1 this⟩
  ·exact absurd this (by simp)
 ·have hjn : j < nx := hj
  have := bkOs_get (g := g) (σ := σ) (nx := nx) (tk := tk) h2 hD2 j o' (by have := ble_t c9; omega) ho
  split at this
  ·rename_i k hk
   have hu := upF_dn hnd hk
   cases hs : (mkW p' tkS' obS').get k with
   | none => rw [hs] at this; simp at this
   | some o =>
    rw [hs] at this
    refine .inr ⟨k, o, hu, ?_, hs, this⟩
    show k < p'
    have h8 := beq_t c8
    have h7 := ble_t c7
    unfold upF at hu
    split at hu
    ·rename_i q hq; have := (List.getElem?_eq_some_iff.1 hq).1; omega
    ·simp only [Option.some.injEq] at hu
     rename_i hq
     have : g.length ≤ k := by
      rcases Nat.lt_or_ge k g.length with r | r
      ·rw [List.getElem?_eq_getElem r] at hq; exact absurd hq (by simp)
      ·exact r
     omega
  ·rename_i hk
   refine .inl ⟨?_, fun hg => ?_, this⟩
   ·unfold dnF at hk
    split at hk
    ·rename_i hb; exact blt_t hb
    ·exact absurd hk (by simp)
   ·obtain ⟨i, hi, rfl⟩ := List.getElem_of_mem hg
    rw [dnF_up hnd hlt (upF_in (List.getElem?_eq_getElem hi))] at hk
    exact absurd hk (by simp)
 ·have := (List.all_eq_true.1 c10) τ ht
  split at this
  ·rename_i i hi
   simp only [Bool.and_eq_true] at this
   exact .inr ⟨i, upF_dn hnd hi, List.contains_iff_mem.1 this.1⟩
  ·rename_i hk
   refine .inl ⟨List.contains_iff_mem.1 this, fun hg => ?_⟩
   obtain ⟨i, hi, rfl⟩ := List.getElem_of_mem hg
   rw [dnF_up hnd hlt (upF_in (List.getElem?_eq_getElem hi))] at hk
   exact absurd hk (by simp)
end
end Vx
end Go
set_option linter.unusedVariables false
set_option linter.unusedSimpArgs false
namespace Go
namespace Vx
open Go.RowKit (Below)
theorem bindS {α β : Type} {x : Option α} {k : α → Option β} {r : β} (h : (x >>= k) = some r) : ∃ a, x = some a ∧ k a = some r := by
 cases x with
 | none => simp at h
 | some a => exact ⟨a, rfl, h⟩
theorem iteS {β : Type} {c : Prop} [Decidable c] {a : Option β} {r : β} (h : (if c then a else none) = some r) : c ∧ a = some r := by
 split at h
 ·exact ⟨‹_›, h⟩
 ·exact absurd h (by simp)
def at' {α : Type} (l : List α) (j : Int) : Option α := if 0 ≤ j then l[j.toNat]? else none
theorem at'_spec {α : Type} {l : List α} {j : Int} {x : α} (h : at' l j = some x) : 0 ≤ j ∧ l[j.toNat]? = some x := by
 unfold at' at h
 exact iteS h
theorem at'_enc {α : Type} (enc : α → Value) {l : List α} {j : Int} {x : α} (h : at' l j = some x) : (l.map enc).toArray[j.toNat]? = some (enc x) := by
 have := (at'_spec h).2
 simp [this]
structure EncOk {α : Type} (k : Nat) (ag : Bool) (enc : α → Value) : Prop where
 size : ∀ x, (enc x).cells.size = k
 pure : ∀ x c, c ∈ (enc x).cells.toList → pureB c = true ∧ notCell c = false
 shape : ∀ x, match ag with
  | true => ∃ cs, enc x = .agg cs
  | false => (enc x).cells = #[enc x]
theorem EncOk.flat_pure {α : Type} {k : Nat} {ag : Bool} {enc : α → Value} (h : EncOk k ag enc) (l : List α) : (flatL (l.map enc).toArray).all pureB = true ∧ (flatL (l.map enc).toArray).any notCell = false := by
 have hm : ∀ c, c ∈ flatL (l.map enc).toArray → pureB c = true ∧ notCell c = false := by
  intro c hc
  simp only [flatL, List.mem_flatMap, List.mem_map] at hc
  obtain ⟨v, ⟨x, _, rfl⟩, hc⟩ := hc
  exact h.pure x c hc
 refine ⟨List.all_eq_true.2 fun c hc => (hm c hc).1, ?_⟩
 rw [List.any_eq_false]
 intro c hc
 simp [(hm c hc).2]
theorem EncOk.elems {α : Type} {k : Nat} {ag : Bool} {enc : α → Value} (h : EncOk k ag enc) : ∀ (l : List α), elemsOf ag k l.length (flatL (l.map enc).toArray) = l.map enc := by
 intro l
 cases ag with
 | false =>
  simp only [elemsOf, flatL]
  induction l with
  | nil => rfl
  | cons x l ih =>
   have := h.shape x
   simp only at this
   simp only [List.map_cons, List.flatMap_cons, this] at ih ⊢
   simp only [List.singleton_append, List.cons.injEq, true_and]
   exact ih
 | true =>
  simp only [elemsOf]
  induction l with
  | nil => rfl
  | cons x l ih =>
   obtain ⟨cs, hcs⟩ := h.shape x
   have hs := h.size x
   rw [hcs] at hs
   have hs : cs.size = k := hs
   simp only [flatL, List.map_cons, List.flatMap_cons, hcs, List.length_cons, chunks, Value.cells] at ih ⊢
   rw [List.take_left' (by simp [hs]), List.drop_left' (by simp [hs])]
   rw [ih]
section
variable {P : Program} {W0 w0 : World} {S : Own} {nt n0 : Nat} {s s' : St} {K K' : Cont} {c : Code}
theorem HO.idx [NoEx P S] {α : Type} {enc : α → Value} {ops : Array Oper} {i : Nat} {l : List α} {j : Int} {x : α} (v : Value) (hx : at' l j = some x) (hv : enc x = v) (h : (atG ops i s, idxG P ops i s) = (true, some ((l.map enc).toArray, j)))
  (hk : HO P w0 S nt ops (i + 1) (putG ops i s (fpt 0 v.cells)) K) : HO P w0 S nt ops i s K := by
 simp only [Prod.mk.injEq] at h
 exact HO.index v h.1 h.2 (at'_spec hx).1 (by rw [← hv]; exact at'_enc enc hx) hk
theorem SRel.put' {cs : List Frame} {ρ : Rho} {a : Act} {w : World} (hs : SRel w0 S false nt cs ρ s a cs w) (d : Nat) {v : Value} (hv : s.tmps.has d = true → Trans ρ ρ (s.tmps.get d) v) (hd : s.tmps.has d = true) : SRel w0 S false nt cs ρ { s with tmps := .put d v s.tmps } a cs w := by
 refine ⟨⟨hs.t.size, fun j hj hh => ?_⟩, hs.ds, hs.cs, hs.r⟩
 by_cases e : d = j
 ·subst e
  rw [Tm.put_same]
  exact hv hd _ (hs.t.at_ d hj hd)
 ·have hg := Tm.gh_other (d := d) (i := j) v s.tmps e
  show VRel ρ ((Tm.put d v s.tmps).get j) _
  rw [Tm.gh_get hg]
  exact hs.t.at_ j hj (by rw [← Tm.gh_has hg]; exact hh)
theorem HO.split {ops : Array Oper} {i : Nat} (d : Nat) (b : Bool) (h : (s.tmps.has d, s.tmps.get d) = (true, .bool b))
  (h1 : b = true → HO P w0 S nt ops i { s with tmps := .put d (.bool true) s.tmps } K) (h2 : b = false → HO P w0 S nt ops i { s with tmps := .put d (.bool false) s.tmps } K) : HO P w0 S nt ops i s K := by
 simp only [Prod.mk.injEq] at h
 intro hops ρ a cs w hs
 cases b with
 | true => exact h1 rfl hops ρ a cs w (hs.put' d (fun _ => by rw [h.2]; exact Trans.refl _) h.1)
 | false => exact h2 rfl hops ρ a cs w (hs.put' d (fun _ => by rw [h.2]; exact Trans.refl _) h.1)
theorem H.condS {b : Bool} (hc : kindC c = 2) (hb : (okOperand nt (conC c) && seenO s.tmps (conC c), ev s.tmps (conC c)) = (true, .bool b)) (h1 : b = true → H P w0 S nt (cL c) s K) (h2 : b = false → H P w0 S nt (cR c) s K) : H P w0 S nt c s K := by
 simp only [Prod.mk.injEq] at hb
 exact H.condP hc hb.1 hb.2 h1 h2
theorem SRel.wk {cs : List Frame} {ρ : Rho} {a : Act} {w : World} (hs : SRel w0 S false nt cs ρ s a cs w) (d : Nat) (p : Shp) {v' : Value} (h : (s.tmps.has d, wkTo 12 p (s.tmps.get d)) = (true, some v')) : SRel w0 S false nt cs ρ { s with tmps := .put d v' s.tmps } a cs w := by
 simp only [Prod.mk.injEq] at h
 exact hs.put' d (fun _ => wk_trans _ _ _ _ h.2) h.1
theorem H.wk (d : Nat) (p : Shp) {v' : Value} (h : (s.tmps.has d, wkTo 12 p (s.tmps.get d)) = (true, some v')) (hk : H P w0 S nt c { s with tmps := .put d v' s.tmps } K) : H P w0 S nt c s K :=
 fun ρ a cs w hs => hk ρ a cs w (hs.wk d p h)
theorem HL.wk (d : Nat) (p : Shp) {v' : Value} (h : (s.tmps.has d, wkTo 12 p (s.tmps.get d)) = (true, some v')) (hk : HL P w0 S nt c { s with tmps := .put d v' s.tmps } K) : HL P w0 S nt c s K :=
 fun ρ a cs w hs => hk ρ a cs w (hs.wk d p h)
def fullOf (v : Value) (k : Nat) : Option (Array Value) :=
 match v with
 | .slice none 0 0 => some #[]
 | .func (.methodOf k' nm) f es => match f.toList with
  | [.bool true] => if k' = k ∧ nm = "" then some es else none
  | _ => none
 | _ => none
theorem SRel.tok {cs : List Frame} {ρ : Rho} {a : Act} {w : World} (hs : SRel w0 S false nt cs ρ s a cs w) (d k : Nat) {es : Array Value} (h : (s.tmps.has d, fullOf (s.tmps.get d) k, Nat.blt s.σ.next (2 ^ D)) = (true, some es, true)) : ∃ ρ', SRel w0 S false nt cs ρ' { s with tmps := .put d (tls k s.σ.next es) s.tmps, σ := s.σ.newTok s.σ.toks } a cs w := by
 simp only [Prod.mk.injEq] at h
 obtain ⟨h1, h2, h3⟩ := h
 obtain ⟨ρ', hle, hR, hnil, hfull⟩ := hs.r.tokNil (blt_t h3)
 refine ⟨ρ', ⟨⟨hs.t.size, fun j hj hh => ?_⟩, hs.ds.mono hle, rfl, hR⟩⟩
 by_cases e : d = j
 ·subst e
  rw [Tm.put_same]
  have := hs.t.at_ d hj h1
  generalize s.tmps.get d = v at h2 this
  unfold fullOf at h2
  split at h2
  ·cases h2
   exact hnil k _ this
  ·rename_i k' nm f es'
   split at h2
   ·rename_i hf
    split at h2
    ·rename_i hc
     cases h2
     obtain ⟨rfl, rfl⟩ := hc
     have : f = #[.bool true] := by rw [← Array.toArray_toList (xs := f), hf]
     subst this
     exact hfull _ _ _ ‹_›
    ·exact absurd h2 (by simp)
   ·exact absurd h2 (by simp)
  ·exact absurd h2 (by simp)
 ·have hg := Tm.gh_other (d := d) (i := j) (tls k s.σ.next es) s.tmps e
  show VRel ρ' ((Tm.put d (tls k s.σ.next es) s.tmps).get j) _
  rw [Tm.gh_get hg]
  exact (hs.t.at_ j hj (by rw [← Tm.gh_has hg]; exact hh)).mono hle
def tokS (s : St) (d k : Nat) (es : Array Value) : St := { s with tmps := .put d (tls k s.σ.next es) s.tmps, σ := s.σ.newTok s.σ.toks }
theorem H.tok (d k : Nat) {es : Array Value} (h : (s.tmps.has d, fullOf (s.tmps.get d) k, Nat.blt s.σ.next (2 ^ D)) = (true, some es, true)) (hk : H P w0 S nt c (tokS s d k es) K) : H P w0 S nt c s K :=
 fun ρ a cs w hs => let ⟨ρ', h'⟩ := hs.tok d k h; hk ρ' a cs w h'
theorem HL.tok (d k : Nat) {es : Array Value} (h : (s.tmps.has d, fullOf (s.tmps.get d) k, Nat.blt s.σ.next (2 ^ D)) = (true, some es, true)) (hk : HL P w0 S nt c (tokS s d k es) K) : HL P w0 S nt c s K :=
 fun ρ a cs w hs => let ⟨ρ', h'⟩ := hs.tok d k h; hk ρ' a cs w h'
theorem HO.tok {ops : Array Oper} {i : Nat} (d k : Nat) {es : Array Value} (h : (s.tmps.has d, fullOf (s.tmps.get d) k, Nat.blt s.σ.next (2 ^ D)) = (true, some es, true)) (hk : HO P w0 S nt ops i (tokS s d k es) K) : HO P w0 S nt ops i s K :=
 fun hops ρ a cs w hs => let ⟨ρ', h'⟩ := hs.tok d k h; hk hops ρ' a cs w h'
def appG (P : Program) (ops : Array Oper) (i : Nat) (s : St) : Option (Bool × Nat × Nat × Array Value × Nat × List Value × List Nat) :=
 match (opG ops i).op with
 | .call ⟨.builtin .append, args, ts⟩ => match ts[0]?, ((args.map (ev s.tmps))[0]? : Option Value), ((args.map (ev s.tmps))[1]? : Option Value) with
  | some sT, some (Value.func (.methodOf k' nm) first es), some x => match P.underlying sT with
   | some (.slice elem) => match P.info? elem, isAggT P elem with
    | some ti, some ag => match ti.zero with
     | some z => match Nat.ble 1 ti.size && Nat.beq z.cells.size ti.size && Nat.blt sT TB && notZeros P ts[1]? && Nat.beq ti.size k' && Nat.blt s.σ.next (2 ^ D) && (ag || Nat.beq ti.size 1) && Nat.ble 1 ti.bytes with
      | true => match elemCells s.σ ti.size x, tokOf first, isEx first with
       | some (n, new), some τ, _ => match s.σ.toks.contains τ with
        | true => some (ag, k', ti.bytes, es, n, new, s.σ.toks.erase τ)
        | false => none
       | some (n, new), none, true => some (ag, k', ti.bytes, es, n, new, s.σ.toks)
       | _, _, _ => none
      | false => none
     | none => none
    | _, _ => none
   | _ => none
  | _, _, _ => none
 | _ => none
def appS (ops : Array Oper) (i : Nat) (s : St) (k : Nat) (es : Array Value) (tk : List Nat) : St := { s with tmps := putT s.tmps (opG ops i).dst (tls k s.σ.next es), σ := s.σ.newTok tk }
theorem HO.app [NoEx P S] {ops : Array Oper} {i : Nat} {ag : Bool} {k B n : Nat} {es es' : Array Value} {new : List Value} {tk : List Nat} (h : (atG ops i s, appG P ops i s) = (true, some (ag, k, B, es, n, new, tk)))
  (hn : n ≠ 0) (hb : (es.size + n) * B ≤ 2 ^ 46) (hp : new.all pureB = true ∧ new.any notCell = false) (he : es ++ (elemsOf ag k n new).toArray = es') (hk : HO P w0 S nt ops (i + 1) (appS ops i s k es' tk) K) : HO P w0 S nt ops i s K := by
 simp only [Prod.mk.injEq] at h
 obtain ⟨h0, h⟩ := h
 refine HO.eff (tls k s.σ.next es') (s.σ.newTok tk) h0 ?_ hk
 unfold appG at h
 unfold aop
 split at h
 ·rename_i args ts hop
  rw [hop]
  simp only [callA, builtinR, builtinA]
  split at h
  ·rename_i sT k' nm first es0 x ht hs hx
   split at h
   ·rename_i elem hu
    split at h
    ·rename_i ti ag' hi hag
     split at h
     ·rename_i z hz
      split at h
      ·rename_i hc
       simp only [Bool.and_eq_true] at hc
       obtain ⟨⟨⟨⟨⟨⟨⟨c1, c2⟩, c3⟩, c4⟩, c5⟩, c6⟩, c7⟩, c8⟩ := hc
       have hB := ble_t c8
       have hk5 : ti.size = k' := beq_t c5
       have key : ∀ nw, elemCells s.σ ti.size x = some (n, nw) → (es0.size + n) * ti.bytes ≤ 2 ^ 46 → moreOf P s.σ ts[1]? ti z x = some (n, nw) ∧ (Nat.ble ((es0.size + n) * ti.bytes) (2 ^ 46) && Nat.ble (es0.size + n) (2 ^ 46)) = true := by
        intro nw hnw hle
        refine ⟨by unfold moreOf; rw [c4]; exact hnw, ?_⟩
        rw [Bool.and_eq_true]
        refine ⟨Nat.ble_eq_true_of_le hle, Nat.ble_eq_true_of_le (Nat.le_trans (Nat.le_mul_of_pos_right _ (by omega)) hle)⟩
       obtain ⟨m, rfl⟩ : ∃ m, n = m + 1 := ⟨n - 1, by omega⟩
       split at h
       ·rename_i n' new' τ hec hto
        split at h
        ·rename_i hcon
         cases h
         obtain ⟨q1, q2⟩ := key _ hec hb
         rw [ht, hs, hx]
         unfold appendA
         simp only [hu, hi, hz, c1, c2, c3, Bool.and_self, q1]
         simp only [lenOfA, q2, hp.2, Bool.not_false, Bool.and_self, appendTo, hk5, Nat.beq_refl, hp.1, c6, hag, hto, hcon, Bool.true_and]
         rw [hk5] at c7
         rw [c7]
         simp only [he]
        ·exact absurd h (by simp)
       ·rename_i n' new' hec hto hex
        cases h
        obtain ⟨q1, q2⟩ := key _ hec hb
        rw [ht, hs, hx]
        unfold appendA
        simp only [hu, hi, hz, c1, c2, c3, Bool.and_self, q1]
        simp only [lenOfA, q2, hp.2, Bool.not_false, Bool.and_self, appendTo, hk5, Nat.beq_refl, hp.1, c6, hag, hto, hex, Bool.true_and]
        rw [hk5] at c7
        rw [c7]
        simp only [he]
       ·exact absurd h (by simp)
      ·exact absurd h (by simp)
     ·exact absurd h (by simp)
    ·exact absurd h (by simp)
   ·exact absurd h (by simp)
  ·exact absurd h (by simp)
 ·exact absurd h (by simp)
def app' {α : Type} (B : Nat) (l m : List α) : Option (List α) := if (l.length + m.length) * B ≤ 2 ^ 46 then some (l ++ m) else none
theorem app'_spec {α : Type} {B : Nat} {l m r : List α} (h : app' B l m = some r) : (l.length + m.length) * B ≤ 2 ^ 46 ∧ r = l ++ m := by
 unfold app' at h
 obtain ⟨a, b⟩ := iteS h
 cases b
 exact ⟨a, rfl⟩
theorem HO.app1 [NoEx P S] {α : Type} {enc : α → Value} {ops : Array Oper} {i : Nat} {ag : Bool} {k B n : Nat} {l m r : List α} {new : List Value} {tk : List Nat} (hr : app' B l m = some r) (h : (atG ops i s, appG P ops i s) = (true, some (ag, k, B, (l.map enc).toArray, n, new, tk)))
  (hm : (Nat.beq m.length n && Nat.blt 0 n && new.all pureB && !new.any notCell) = true) (he : elemsOf ag k n new = m.map enc) (hk : HO P w0 S nt ops (i + 1) (appS ops i s k (r.map enc).toArray tk) K) : HO P w0 S nt ops i s K := by
 simp only [Bool.and_eq_true] at hm
 obtain ⟨⟨⟨m1, m2⟩, m3⟩, m4⟩ := hm
 obtain ⟨r1, rfl⟩ := app'_spec hr
 have m1 : m.length = n := beq_t m1
 have m2 := blt_t m2
 exact HO.app h (by omega) (by simpa [m1] using r1) ⟨m3, by simpa using m4⟩ (by rw [he]; simp) hk
theorem HO.appL [NoEx P S] {α : Type} {enc : α → Value} {ops : Array Oper} {i : Nat} {ag : Bool} {k B : Nat} {l m r : List α} {tk : List Nat} (hE : EncOk k ag enc) (hr : app' B l m = some r) (hm : m.length ≠ 0)
  (h : (atG ops i s, appG P ops i s) = (true, some (ag, k, B, (l.map enc).toArray, (m.map enc).toArray.size, flatL (m.map enc).toArray, tk)))
  (hk : HO P w0 S nt ops (i + 1) (appS ops i s k (r.map enc).toArray tk) K) : HO P w0 S nt ops i s K := by
 obtain ⟨r1, rfl⟩ := app'_spec hr
 refine HO.app h (by simpa using hm) (by simpa using r1) (hE.flat_pure m) ?_ hk
 have := hE.elems m
 simp only [List.size_toArray, List.length_map] at *
 rw [this]
 simp
end
end Vx
end Go
set_option linter.unusedVariables false
set_option linter.unusedSimpArgs false
namespace Go
namespace Vx
open Go.RowKit (Below)
section
variable {P : Program} {W0 w0 : World} {S : Own} {nt n0 : Nat} {s s0 s' : St} {K K' : Cont} {c : Code}
def HD (P : Program) (w0 : World) (S : Own) (nt : Nat) (c : Code) (s0 : St) (i : Nat) (acc : List Ent) (s : St) (K : Cont) : Prop :=
 acc.length = i → (∀ ns, DStep P w0 S (cOps c) ((cOps c).toList.drop i) ns s.tmps s.σ → DStep P w0 S (cOps c) (cOps c).toList (acc.reverse ++ ns) s0.tmps s0.σ) →
  (∀ ns j, tseq (cOps c).toList (acc.reverse ++ ns) s0.tmps (i + j) = tseq ((cOps c).toList.drop i) ns s.tmps j) → (∀ ns j, sseq (acc.reverse ++ ns) s0.σ (i + j) = sseq ns s.σ j) → s = { s0 with tmps := s.tmps, σ := s.σ } →
  (∀ i' o, i' < i → (cOps c).toList[i']? = some o → ∃ n, acc.reverse[i']? = some n ∧ StepOk P .none (To P w0 S) (cOps c) (tseq (cOps c).toList acc.reverse s0.tmps i') (sseq acc.reverse s0.σ i') o n) → H P w0 S nt c s0 K
def putE (ops : Array Oper) (i : Nat) (s : St) (n : Ent) : St := { s with tmps := putT s.tmps (opG ops i).dst n.value, σ := n.behind s.σ }
theorem drop_at {ops : Array Oper} {i : Nat} {o : Oper} (h : ops[i]? = some o) : ops.toList.drop i = o :: ops.toList.drop (i + 1) := by
 have h' : ops.toList[i]? = some o := by simpa using h
 obtain ⟨hi, rfl⟩ := List.getElem?_eq_some_iff.1 h'
 exact List.drop_eq_getElem_cons hi
theorem tseq_app : ∀ {L : List Oper} {a b : List Ent} {t : Tm} {k : Nat}, k ≤ a.length → tseq L (a ++ b) t k = tseq L a t k
 | _, _, _, _, 0, _ => by rw [tseq_zero, tseq_zero]
 | [], a, b, t, k + 1, _ => by cases a <;> cases b <;> rfl
 | _ :: _, [], b, t, k + 1, h => by simp at h
 | o :: L, n :: a, b, t, k + 1, h => by
  simp only [List.cons_append, tseq]
  exact tseq_app (by simpa using h)
theorem sseq_app : ∀ {a b : List Ent} {σ : AW} {k : Nat}, k ≤ a.length → sseq (a ++ b) σ k = sseq a σ k
 | _, _, _, 0, _ => by rw [sseq_zero, sseq_zero]
 | [], b, σ, k + 1, h => by simp at h
 | n :: a, b, σ, k + 1, h => by
  simp only [List.cons_append, sseq]
  exact sseq_app (by simpa using h)
theorem HD.step {i : Nat} {acc : List Ent} {o : Oper} (n : Ent) (ho : (cOps c)[i]? = some o) (hn : StepOk P .none (To P w0 S) (cOps c) s.tmps s.σ o n) (hk : HD P w0 S nt c s0 (i + 1) (n :: acc) { s with tmps := putT s.tmps o.dst n.value, σ := n.behind s.σ } K) : HD P w0 S nt c s0 i acc s K := by
 intro hA hB hC hD hE hF
 refine hk (by simp [hA]) (fun ns hns => ?_) (fun ns j => ?_) (fun ns j => ?_) ?_ (fun i' p hi' hp => ?_)
 ·have := hB (n :: ns) (by rw [drop_at ho]; exact ⟨hn, hns⟩)
  simpa using this
 ·have := hC (n :: ns) (j + 1)
  rw [drop_at ho] at this
  rw [List.reverse_cons, List.append_assoc, List.singleton_append, show i + 1 + j = i + (j + 1) by omega, this]
  rfl
 ·have := hD (n :: ns) (j + 1)
  rw [List.reverse_cons, List.append_assoc, List.singleton_append, show i + 1 + j = i + (j + 1) by omega, this]
  rfl
 ·rw [hE]
 ·have hal : acc.reverse.length = i := by simpa using hA
  rw [List.reverse_cons, tseq_app (by omega), sseq_app (by omega)]
  rcases Nat.lt_or_ge i' i with h | h
  ·obtain ⟨m, h1, h2⟩ := hF i' p h hp
   exact ⟨m, by rw [List.getElem?_append_left (by omega)]; exact h1, h2⟩
  ·have e : i' = i := by omega
   subst e
   have ho' : (cOps c).toList[i']? = some o := by simpa using ho
   rw [ho'] at hp
   cases hp
   refine ⟨n, by rw [List.getElem?_append_right (by omega), hal]; simp, ?_⟩
   have e1 := hC [] 0
   have e2 := hD [] 0
   simp only [List.append_nil, Nat.add_zero, tseq_zero, sseq_zero] at e1 e2
   rw [e1, e2]
   exact hn
theorem H.drawP (hk : HD P w0 S nt c s 0 [] s K) : H P w0 S nt c s K :=
 hk rfl (fun ns h => by simpa using h) (fun ns j => by simp) (fun ns j => by simp) rfl (fun i' o h => absurd h (Nat.not_lt_zero _))
def stepD (P : Program) (ops : Array Oper) (i : Nat) (s : St) : Option Ent :=
 match ops[i]? with
 | none => none
 | some o => match wantedA ops s.tmps o with
  | some false => some .skip
  | some true => match aopT P .none s.tmps o s.σ with
   | some (.val v) => some (.val v)
   | some (.eff v σ') => some (.eff s.σ v σ')
   | _ => none
  | none => none
theorem stepD_ok {ops : Array Oper} {i : Nat} {n : Ent} (h : stepD P ops i s = some n) : ∃ o, ops[i]? = some o ∧ StepOk P .none (To P w0 S) ops s.tmps s.σ o n := by
 unfold stepD at h
 split at h
 ·exact absurd h (by simp)
 ·rename_i o ho
  refine ⟨o, ho, ?_⟩
  split at h
  ·rename_i hw; cases h; exact hw
  ·rename_i hw
   split at h
   ·rename_i v hv; cases h; exact ⟨hw, hv⟩
   ·rename_i v σ' hv; cases h; exact ⟨rfl, hw, .inl hv⟩
   ·exact absurd h (by simp)
  ·exact absurd h (by simp)
def goD (P : Program) (ops : Array Oper) : Nat → Nat → List Ent → St → Option (List Ent × St)
 | 0, _, acc, s => some (acc, s)
 | n + 1, i, acc, s => match stepD P ops i s with
  | none => none
  | some e => goD P ops n (i + 1) (e :: acc) (putE ops i s e)
theorem opG_eq {ops : Array Oper} {i : Nat} {o : Oper} (h : ops[i]? = some o) : opG ops i = o := by unfold opG; rw [h]; rfl
theorem HD.go : ∀ (n : Nat) {i : Nat} {acc acc' : List Ent} {s s' : St}, goD P (cOps c) n i acc s = some (acc', s') → HD P w0 S nt c s0 (i + n) acc' s' K → HD P w0 S nt c s0 i acc s K
 | 0, i, acc, acc', s, s', h, hk => by
  simp only [goD, Option.some.injEq, Prod.mk.injEq] at h
  obtain ⟨rfl, rfl⟩ := h
  exact hk
 | n + 1, i, acc, acc', s, s', h, hk => by
  simp only [goD] at h
  split at h
  ·exact absurd h (by simp)
  ·rename_i e he
   obtain ⟨o, ho, hs⟩ := stepD_ok (w0 := w0) (S := S) he
   refine HD.step e ho hs ?_
   have := HD.go n h (by rw [show i + 1 + n = i + (n + 1) by omega]; exact hk)
   unfold putE at this
   rw [opG_eq ho] at this
   exact this
def accD (P : Program) (ops : Array Oper) (n i : Nat) (acc : List Ent) (s : St) : List Ent := match goD P ops n i acc s with | some r => r.1 | none => acc
def stD (P : Program) (ops : Array Oper) (n i : Nat) (acc : List Ent) (s : St) : St := match goD P ops n i acc s with | some r => r.2 | none => s
theorem HD.goP (n : Nat) {i : Nat} {acc : List Ent} (h : (goD P (cOps c) n i acc s).isSome = true) (hk : HD P w0 S nt c s0 (i + n) (accD P (cOps c) n i acc s) (stD P (cOps c) n i acc s) K) : HD P w0 S nt c s0 i acc s K := by
 obtain ⟨r, hr⟩ := Option.isSome_iff_exists.1 h
 unfold accD stD at hk
 rw [hr] at hk
 exact HD.go n hr hk
theorem HD.val {i : Nat} {acc : List Ent} (v : Value) (h0 : atG (cOps c) i s = true) (h : aop P .none (ev s.tmps) (opG (cOps c) i) s.σ = some (.val v)) (hk : HD P w0 S nt c s0 (i + 1) (.val v :: acc) (putE (cOps c) i s (.val v)) K) : HD P w0 S nt c s0 i acc s K := by
 obtain ⟨h1, h2, h3⟩ := atG_spec h0
 exact HD.step (.val v) h1 ⟨h2, by unfold aopT; rw [h3]; exact h⟩ hk
theorem HD.eff {i : Nat} {acc : List Ent} (v : Value) (σ' : AW) (h0 : atG (cOps c) i s = true) (h : aop P .none (ev s.tmps) (opG (cOps c) i) s.σ = some (.eff v σ')) (hk : HD P w0 S nt c s0 (i + 1) (.eff s.σ v σ' :: acc) (putE (cOps c) i s (.eff s.σ v σ')) K) : HD P w0 S nt c s0 i acc s K := by
 obtain ⟨h1, h2, h3⟩ := atG_spec h0
 exact HD.step (.eff s.σ v σ') h1 ⟨rfl, h2, .inl (by unfold aopT; rw [h3]; exact h)⟩ hk
theorem HD.boolP {i : Nat} {acc : List Ent} (b : Bool) (h0 : atG (cOps c) i s = true) (h : aop P .none (ev s.tmps) (opG (cOps c) i) s.σ = some (.val (.bool b)))
  (h1 : b = true → HD P w0 S nt c s0 (i + 1) (.val (.bool true) :: acc) (putE (cOps c) i s (.val (.bool true))) K) (h2 : b = false → HD P w0 S nt c s0 (i + 1) (.val (.bool false) :: acc) (putE (cOps c) i s (.val (.bool false))) K) : HD P w0 S nt c s0 i acc s K := by
 cases b with
 | true => exact HD.val _ h0 h (h1 rfl)
 | false => exact HD.val _ h0 h (h2 rfl)
theorem HD.callTo {i : Nat} {acc : List Ent} {f : FuncId} {args : Array Value} {v : Value} {σ' : AW} (h : (callG P (cOps c) i s, atG (cOps c) i s) = (some (f, args), true)) (hc : To P w0 S f args s.σ (.returned v) σ')
  (hk : HD P w0 S nt c s0 (i + 1) (.eff s.σ v σ' :: acc) (putE (cOps c) i s (.eff s.σ v σ')) K) : HD P w0 S nt c s0 i acc s K := by
 simp only [Prod.mk.injEq] at h
 obtain ⟨h1, h2, h3⟩ := atG_spec h.2
 have ha : aopT P .none s.tmps (opG (cOps c) i) s.σ = some (.call f args) := by
  unfold aopT
  rw [h3]
  have h := h.1
  unfold callG at h
  split at h
  ·rename_i f' a' he
   cases h
   exact he
  ·exact absurd h (by simp)
 exact HD.step (.eff s.σ v σ') h1 ⟨rfl, h2, .inr ⟨f, args, ha, hc⟩⟩ hk
theorem HD.idx {α : Type} {enc : α → Value} {i : Nat} {acc : List Ent} {l : List α} {j : Int} {x : α} (v : Value) (hx : at' l j = some x) (hv : enc x = v) (h : (atG (cOps c) i s, idxG P (cOps c) i s) = (true, some ((l.map enc).toArray, j)))
  (hk : HD P w0 S nt c s0 (i + 1) (.val (fpt 0 v.cells) :: acc) (putE (cOps c) i s (.val (fpt 0 v.cells))) K) : HD P w0 S nt c s0 i acc s K := by
 simp only [Prod.mk.injEq] at h
 obtain ⟨h0, h⟩ := h
 have hj := (at'_spec hx).1
 have hg : (l.map enc).toArray[j.toNat]? = some v := by rw [← hv]; exact at'_enc enc hx
 generalize (l.map enc).toArray = es at h hg
 refine HD.val (fpt 0 v.cells) h0 ?_ hk
 unfold idxG at h
 unfold aop
 split at h
 ·rename_i t x ix hop
  rw [hop]
  simp only
  split at h
  ·rename_i e k nm f es' ik j' hu hx hi
   split at h
   ·rename_i k' hk'
    split at h
    ·rename_i hkk
     subst hkk
     cases h
     unfold indexAddrA
     rw [hu, hx, hi]
     obtain ⟨n, rfl⟩ := Int.eq_ofNat_of_zero_le hj
     simp only [Int.toNat_natCast] at hg
     show valOf (match (Int.ofNat n : Int) with | _ => _) = _
     simp only [hk', hg, if_true, valOf]
    ·exact absurd h (by simp)
   ·exact absurd h (by simp)
  ·exact absurd h (by simp)
 ·exact absurd h (by simp)
def drawB (P : Program) (nt : Nat) (c : Code) : Bool := Nat.beq (kindC c) 6 && (cOps c).toList.all (okOp nt) && okRegion (cOps c) (bsets (cOps c).toList []) (cOps c).toList 0 && P.follows .mixedOrders
def isE : Ent → Bool
 | .eff _ _ _ => true
 | _ => false
def pairB (bs : List Nat) (e : Nat) : List Ent → Nat → Bool
 | [], _ => true
 | n :: ns, j => (!isE n || Nat.beq e j || ahead bs e j || ahead bs j e) && pairB bs e ns (j + 1)
def pairsB (bs : List Nat) (all : List Ent) : List Ent → Nat → Bool
 | [], _ => true
 | n :: ns, e => (!isE n || pairB bs e all 0) && pairsB bs all ns (e + 1)
def sIn : Ent → Option AW
 | .eff σ _ _ => some σ
 | _ => none
def sOut : Ent → Option AW
 | .eff _ _ σ' => some σ'
 | _ => none
theorem sseq_calm : ∀ {ns : List Ent} {σ : AW}, (∀ n, n ∈ ns → ∀ a v b, n = .eff a v b → a = σ ∧ b = σ) → ∀ j, sseq ns σ j = σ
 | [], σ, h, j => by cases j <;> rfl
 | n :: ns, σ, h, 0 => rfl
 | n :: ns, σ, h, j + 1 => by
  have hb : n.behind σ = σ := by
   cases n with
   | eff a v b => exact (h (.eff a v b) (by simp) _ _ _ rfl).2
   | _ => rfl
  show sseq ns (n.behind σ) j = σ
  rw [hb]
  exact sseq_calm (fun m hm => h m (by simp [hm])) j
theorem DEff.calm {ops : Array Oper} {bs : List Nat} {e : Nat} {σ : AW} : ∀ {l : List Oper} {ns : List Ent} {t : Tm} {j : Nat}, DStep P w0 S ops l ns t σ → (∀ n, n ∈ ns → ∀ a v b, n = .eff a v b → a = σ ∧ b = σ) → pairB bs e ns j = true → DEff P bs e σ σ l ns t j
 | [], ns, t, j, _, _, _ => by cases ns <;> trivial
 | o :: l, [], t, j, h, _, _ => h.elim
 | o :: l, n :: ns, t, j, h, hn, hp => by
  simp only [pairB, Bool.and_eq_true] at hp
  have hb : n.behind σ = σ := by
   cases n with
   | eff a v b => exact (hn (.eff a v b) (by simp) _ _ _ rfl).2
   | _ => rfl
  refine ⟨?_, DEff.calm (by have := h.2; rw [hb] at this; exact this) (fun m hm => hn m (by simp [hm])) hp.2⟩
  split
  ·trivial
  ·rename_i hq
   cases n with
   | val v =>
    simp only
    split
    ·trivial
    ·have := h.1.2
     split <;> exact this
   | skip => trivial
   | eff a v b =>
    have := hp.1
    simp only [isE, Bool.not_true, Bool.false_or] at this
    rw [hq] at this
    exact absurd this (by simp)
theorem DEffs.calm {ops : Array Oper} {bs : List Nat} {L : List Oper} {all : List Ent} {t : Tm} {σ : AW} (h : DStep P w0 S ops L all t σ) (hn : ∀ n, n ∈ all → ∀ a v b, n = .eff a v b → a = σ ∧ b = σ) : ∀ {ns : List Ent} {e : Nat}, (∀ n, n ∈ ns → n ∈ all) → pairsB bs all ns e = true → DEffs P bs L all t ns e
 | [], e, _, _ => trivial
 | n :: ns, e, hm, hp => by
  simp only [pairsB, Bool.and_eq_true] at hp
  have r := DEffs.calm h hn (ns := ns) (e := e + 1) (fun m q => hm m (by simp [q])) hp.2
  cases n with
  | eff a v b =>
   obtain ⟨rfl, rfl⟩ := hn (.eff a v b) (hm _ (by simp)) _ _ _ rfl
   have h1 := hp.1
   simp only [isE, Bool.not_true, Bool.false_or] at h1
   exact ⟨DEff.calm h hn h1, r⟩
  | val v => exact r
  | skip => exact r
theorem HD.calm [NoEx P S] {acc : List Ent} {i : Nat} (hc : drawB P nt c = true) (h1 : (Nat.beq i (cOps c).size && pairsB (bsets (cOps c).toList []) acc.reverse acc.reverse 0) = true) (h2 : acc.map sIn = (acc.map sIn).map (fun o => o.map fun _ => s0.σ)) (h3 : acc.map sOut = (acc.map sIn)) (hk : K .normal s) : HD P w0 S nt c s0 i acc s K := by
 intro hA hB hC hD hE hF
 simp only [Bool.and_eq_true] at h1
 have hi := beq_t h1.1
 have hst : DStep P w0 S (cOps c) (cOps c).toList acc.reverse s0.tmps s0.σ := by
  have := hB [] (by rw [List.drop_of_length_le (by simp [hi])]; trivial)
  simpa using this
 have hn : ∀ n, n ∈ acc.reverse → ∀ a v b, n = .eff a v b → a = s0.σ ∧ b = s0.σ := by
  intro n hn a v b e
  subst e
  obtain ⟨j, hj, hget⟩ := List.getElem_of_mem (List.mem_reverse.1 hn)
  have q2 := congrArg (fun l => l[j]?) h2
  have q3 := congrArg (fun l => l[j]?) h3
  simp only [List.getElem?_map, List.getElem?_eq_getElem hj, hget, Option.map_some, sIn, sOut, Option.some.injEq] at q2 q3
  exact ⟨q2, q3.trans q2⟩
 have hde := DEffs.calm hst hn (ns := acc.reverse) (e := 0) (fun _ h => h) h1.2
 unfold drawB at hc
 simp only [Bool.and_eq_true] at hc
 obtain ⟨⟨⟨d1, d2⟩, d3⟩, d4⟩ := hc
 have d1 := beq_t d1
 have e1 := hC [] 0
 have e2 := hD [] 0
 simp only [List.append_nil, Nat.add_zero, tseq_zero, sseq_zero] at e1 e2
 unfold kindC at d1
 split at d1 <;> first | (exfalso; revert d1; decide) | skip
 rename_i id ops
 refine H.drawn d2 (by simp only [Bool.and_eq_true]; exact ⟨d3, d4⟩) acc.reverse hst hde (t := s.tmps) (σ' := s.σ) ?_ ?_ (by rw [hE] at hk; exact hk)
 ·rw [← e1]; congr 1; simp [hi, cOps]
 ·rw [← e2]; congr 1; simp [hi, cOps]
def lenL (t : Tm) (o : Op) : Bool :=
 match o with
 | .call ⟨.builtin .len, args, _⟩ => match ((args.map (ev t))[0]? : Option Value) with
  | some (.func _ _ _) => true
  | _ => false
 | _ => false
theorem lenL_congr {t : Tm} {o : Oper} {X : Facts} (h : lenL t o.op = true) (σ σ2 : AW) : aopT P X t o σ = aopT P X t o σ2 := by
 unfold lenL at h
 split at h
 ·rename_i args ts hop
  split at h
  ·rename_i fn f c hx
   unfold aopT aop
   rw [hop]
   simp only [callA, builtinR, hx]
   have : ∀ tt, lenA P σ tt (.func fn f c) = lenA P σ2 tt (.func fn f c) := fun tt => by
    unfold lenA
    split <;> first | rfl | (rename_i q; simp at q)
    all_goals (rename_i m _ _ _ _ _ ; rfl)
   cases ts[0]? with
   | none => rfl
   | some tt => simp only [this tt]
  ·exact absurd h (by simp)
 ·exact absurd h (by simp)
def deffA (P : Program) (bs : List Nat) (e : Nat) (σ σ' : AW) : List Oper → List Ent → Tm → Nat → List (Option ARes × Option ARes)
 | o :: ops, n :: ns, t, j =>
  (match Nat.beq e j || ahead bs e j || ahead bs j e with
   | true => deffA P bs e σ σ' ops ns (putT t o.dst n.value) (j + 1)
   | false => match n with
    | .val v => match !looks o.op || lenL t o.op with
     | true => deffA P bs e σ σ' ops ns (putT t o.dst n.value) (j + 1)
     | false => (aopT P .none t o (match Nat.blt e j with | true => σ | false => σ'), some (.val v)) :: deffA P bs e σ σ' ops ns (putT t o.dst n.value) (j + 1)
    | .skip => deffA P bs e σ σ' ops ns (putT t o.dst n.value) (j + 1)
    | .eff _ _ _ => [(none, some .recover)])
 | _, _, _, _ => []
def deffsA (P : Program) (bs : List Nat) (ops : List Oper) (ns : List Ent) (t : Tm) : List Ent → Nat → List (Option ARes × Option ARes)
 | .eff σ _ σ' :: l, e => deffA P bs e σ σ' ops ns t 0 ++ deffsA P bs ops ns t l (e + 1)
 | _ :: l, e => deffsA P bs ops ns t l (e + 1)
 | [], _ => []
theorem DEff.comp {ops : Array Oper} {bs : List Nat} {e : Nat} {σ σ' : AW} : ∀ {l : List Oper} {ns : List Ent} {t : Tm} {σc : AW} {j : Nat}, DStep P w0 S ops l ns t σc → (∀ p, p ∈ deffA P bs e σ σ' l ns t j → p.1 = p.2) → DEff P bs e σ σ' l ns t j
 | [], ns, t, σc, j, _, _ => by cases ns <;> trivial
 | o :: l, [], t, σc, j, h, _ => h.elim
 | o :: l, n :: ns, t, σc, j, h, hp => by
  have hs := h.1
  unfold deffA at hp
  unfold DEff
  split at hp
  ·rename_i hq
   exact ⟨by rw [hq]; trivial, DEff.comp h.2 hp⟩
  ·rename_i hq
   split at hp
   ·rename_i v
    split at hp
    ·rename_i hl
     refine ⟨?_, DEff.comp h.2 hp⟩
     rw [hq]
     simp only
     simp only [Bool.or_eq_true, Bool.not_eq_true'] at hl
     split
     ·trivial
     ·rename_i hlk
      rcases hl with hl | hl
      ·rw [hl] at hlk; exact absurd hlk (by simp)
      ·rw [lenL_congr hl _ σc]; exact hs.2
    ·refine ⟨?_, DEff.comp h.2 fun p hm => hp p (by simp [hm])⟩
     rw [hq]
     simp only
     split
     ·trivial
     ·exact hp _ (List.mem_cons_self)
   ·refine ⟨by rw [hq]; trivial, DEff.comp h.2 hp⟩
   ·have := hp _ (List.mem_singleton.2 rfl)
    exact absurd this (by simp)
theorem DEffs.comp {ops : Array Oper} {bs : List Nat} {L : List Oper} {all : List Ent} {t : Tm} {σc : AW} (h : DStep P w0 S ops L all t σc) : ∀ {ns : List Ent} {e : Nat}, (∀ p, p ∈ deffsA P bs L all t ns e → p.1 = p.2) → DEffs P bs L all t ns e
 | [], e, _ => trivial
 | .eff a v b :: ns, e, hp => ⟨DEff.comp h fun p hm => hp p (by simp [deffsA, hm]), DEffs.comp h fun p hm => hp p (by simp [deffsA, hm])⟩
 | .val v :: ns, e, hp => DEffs.comp h (ns := ns) (e := e + 1) hp
 | .skip :: ns, e, hp => DEffs.comp h (ns := ns) (e := e + 1) hp
theorem map_pairs : ∀ {l : List (Option ARes × Option ARes)}, l.map (·.1) = l.map (·.2) → ∀ p, p ∈ l → p.1 = p.2
 | [], _, p, h => by simp at h
 | q :: l, h, p, hm => by
  simp only [List.map_cons, List.cons.injEq] at h
  rcases List.mem_cons.1 hm with rfl | hm
  ·exact h.1
  ·exact map_pairs h.2 p hm
theorem HD.done [NoEx P S] {acc : List Ent} {i : Nat} (hc : drawB P nt c = true) (h1 : Nat.beq i (cOps c).size = true) (h2 : (deffsA P (bsets (cOps c).toList []) (cOps c).toList acc.reverse s0.tmps acc.reverse 0).map (·.1) = (deffsA P (bsets (cOps c).toList []) (cOps c).toList acc.reverse s0.tmps acc.reverse 0).map (·.2)) (hk : K .normal s) : HD P w0 S nt c s0 i acc s K := by
 intro hA hB hC hD hE hF
 have hi := beq_t h1
 have hst : DStep P w0 S (cOps c) (cOps c).toList acc.reverse s0.tmps s0.σ := by
  have := hB [] (by rw [List.drop_of_length_le (by simp [hi])]; trivial)
  simpa using this
 have hde := DEffs.comp hst (map_pairs h2)
 unfold drawB at hc
 simp only [Bool.and_eq_true] at hc
 obtain ⟨⟨⟨d1, d2⟩, d3⟩, d4⟩ := hc
 have d1 := beq_t d1
 have e1 := hC [] 0
 have e2 := hD [] 0
 simp only [List.append_nil, Nat.add_zero, tseq_zero, sseq_zero] at e1 e2
 unfold kindC at d1
 split at d1 <;> first | (exfalso; revert d1; decide) | skip
 rename_i id ops
 refine H.drawn d2 (by simp only [Bool.and_eq_true]; exact ⟨d3, d4⟩) acc.reverse hst hde (t := s.tmps) (σ' := s.σ) ?_ ?_ (by rw [hE] at hk; exact hk)
 ·rw [← e1]; congr 1; simp [hi, cOps]
 ·rw [← e2]; congr 1; simp [hi, cOps]
theorem HD.len {i : Nat} {acc : List Ent} {es : Array Value} {n : Nat} (h : (atG (cOps c) i s, lenG P (cOps c) i s) = (true, some es)) (hn : es.size = n) (hk : HD P w0 S nt c s0 (i + 1) (.val (.int .i64 (n : Int)) :: acc) (putE (cOps c) i s (.val (.int .i64 (n : Int)))) K) : HD P w0 S nt c s0 i acc s K := by
 simp only [Prod.mk.injEq] at h
 obtain ⟨h0, h⟩ := h
 refine HD.val (.int .i64 (n : Int)) h0 ?_ hk
 subst hn
 unfold lenG at h
 unfold aop
 split at h
 ·rename_i args ts hop
  rw [hop]
  simp only [callA, builtinR]
  split at h
  ·rename_i t k nm f es' ht hx
   split at h
   ·rename_i e hu
    cases h
    rw [ht, hx]
    simp only [lenA, hu]
    rfl
   ·exact absurd h (by simp)
  ·exact absurd h (by simp)
 ·exact absurd h (by simp)
end
end Vx
end Go
set_option linter.unusedVariables false
set_option linter.unusedSimpArgs false
namespace Go
namespace Vx
open Go.RowKit (Below)
def encI (k : IntKind) (n : Int) : Value := .int k n
def encB (b : Bool) : Value := .bool b
theorem encI_ok (k : IntKind) : EncOk 1 false (encI k) := ⟨fun _ => rfl, fun x c h => by simp [encI, Value.cells] at h; subst h; exact ⟨rfl, rfl⟩, fun _ => rfl⟩
theorem ne_true {b : Bool} (h : b = false) : ¬ b = true := by rw [h]; exact Bool.false_ne_true
theorem wkL_trans {ρ : Rho} : ∀ (l : List Shp) (a b : List Value), wkTo.wkL 12 l a = some b → TransL ρ ρ a b
 | [], [], b, h => by simp [wkTo.wkL] at h; subst h; trivial
 | [], _ :: _, b, h => by simp [wkTo.wkL] at h
 | _ :: _, [], b, h => by simp [wkTo.wkL] at h
 | p :: l, v :: vs, b, h => by
  simp only [wkTo.wkL] at h
  split at h
  ·rename_i v' vs' h1 h2; cases h; exact ⟨wk_trans _ _ _ _ h1, wkL_trans l vs vs' h2⟩
  ·exact absurd h (by simp)
theorem TransL.len2 {ρ ρ' : Rho} : ∀ {a b : List Value}, TransL ρ ρ' a b → a.length = b.length
 | [], [], _ => rfl
 | [], _ :: _, h => h.elim
 | _ :: _, [], h => h.elim
 | _ :: a, _ :: b, h => by simp [TransL.len2 h.2]
theorem TransL.get2 {ρ ρ' : Rho} : ∀ {a b : List Value} {i : Nat} {v : Value}, TransL ρ ρ' a b → b[i]? = some v → ∃ u, a[i]? = some u ∧ Trans ρ ρ' u v
 | [], [], i, v, _, h => by simp at h
 | [], _ :: _, _, _, h, _ => h.elim
 | _ :: _, [], _, _, h, _ => h.elim
 | x :: a, y :: b, 0, v, h, hv => by simp at hv; subst hv; exact ⟨x, rfl, h.1⟩
 | x :: a, y :: b, i + 1, v, h, hv => by
  obtain ⟨u, hu, ht⟩ := TransL.get2 h.2 (i := i) (v := v) (by simpa using hv)
  exact ⟨u, by simpa using hu, ht⟩
section
variable {P : Program} {W0 w0 : World} {S : Own} {nt n0 : Nat} {s s0 s' : St} {K K' : Cont} {c : Code}
theorem To.wk {f : FuncId} {args args2 : Array Value} {σ σ' : AW} {e : AEnd} (ps : List Shp) (hw : wkTo.wkL 12 ps args.toList = some args2.toList) (h : To P w0 S f args2 σ e σ') : To P w0 S f args σ e σ' := by
 intro ρ w args' ha hR
 refine h ρ w args' ?_ hR
 have ht := wkL_trans (ρ := ρ) ps _ _ hw
 have hl := ht.len2
 refine ⟨by rw [← ha.1]; simpa using hl.symm, fun i v v' h1 h2 => ?_⟩
 obtain ⟨u, hu, hv⟩ := ht.get2 (i := i) (v := v) (by simpa using h1)
 exact hv _ (ha.2 i u v' (by simpa using hu) h2)
def wkG (P : Program) (ops : Array Oper) (i : Nat) (s : St) (ps : List Shp) : Option (FuncId × List Value) :=
 match callG P ops i s with
 | some (f, args) => match wkTo.wkL 12 ps args.toList with
  | some l => some (f, l)
  | none => none
 | none => none
theorem wkG_spec {ops : Array Oper} {i : Nat} {ps : List Shp} {f : FuncId} {l : List Value} (h : wkG P ops i s ps = some (f, l)) : ∃ args, callG P ops i s = some (f, args) ∧ wkTo.wkL 12 ps args.toList = some l := by
 unfold wkG at h
 split at h
 ·rename_i f' args hc
  split at h
  ·rename_i l' hl; cases h; exact ⟨args, hc, hl⟩
  ·exact absurd h (by simp)
 ·exact absurd h (by simp)
theorem HO.callW [NoEx P S] (hS : Std W0 w0 S n0) {ops : Array Oper} {i : Nat} {f : FuncId} {args2 : Array Value} {v : Value} (ps : List Shp) (hc : PTo P W0 f args2 (.returned v)) (h : (wkG P ops i s ps, atG ops i s) = (some (f, args2.toList), true)) (h0 : args2.toList.all pureB = true)
  (hk : HO P w0 S nt ops (i + 1) (putG ops i s v) K) : HO P w0 S nt ops i s K := by
 simp only [Prod.mk.injEq] at h
 obtain ⟨args, hg, hw⟩ := wkG_spec h.1
 obtain ⟨h1, h2, h3⟩ := atG_spec h.2
 have ha : aopT P .none s.tmps (opG ops i) s.σ = some (.call f args) := by
  unfold aopT
  rw [h3]
  unfold callG at hg
  split at hg
  ·rename_i f' a' he
   cases hg
   exact he
  ·exact absurd hg (by simp)
 refine HO.call h1 h2 ha (To.wk ps hw (hc.to hS (PureL.of_all h0))) ?_
 exact hk
theorem HD.callW (hS : Std W0 w0 S n0) {i : Nat} {acc : List Ent} {f : FuncId} {args2 : Array Value} {v : Value} (ps : List Shp) (hc : PTo P W0 f args2 (.returned v)) (h : (wkG P (cOps c) i s ps, atG (cOps c) i s) = (some (f, args2.toList), true)) (h0 : args2.toList.all pureB = true)
  (hk : HD P w0 S nt c s0 (i + 1) (.eff s.σ v s.σ :: acc) (putE (cOps c) i s (.eff s.σ v s.σ)) K) : HD P w0 S nt c s0 i acc s K := by
 simp only [Prod.mk.injEq] at h
 obtain ⟨args, hg, hw⟩ := wkG_spec h.1
 exact HD.callTo (Prod.ext hg h.2) (To.wk ps hw (hc.to hS (PureL.of_all h0))) hk
def argG (o : Oper) (s : St) : Value :=
 match o.op with
 | .call ⟨_, args, _⟩ => ((args.map (ev s.tmps))[0]? : Option Value).getD undef
 | _ => undef
theorem app_aop {ops : Array Oper} {i : Nat} {ag : Bool} {k B n : Nat} {es es' : Array Value} {new : List Value} {tk : List Nat} (h : (atG ops i s, appG P ops i s) = (true, some (ag, k, B, es, n, new, tk)))
  (hn : n ≠ 0) (hb : (es.size + n) * B ≤ 2 ^ 46) (hp : new.all pureB = true ∧ new.any notCell = false) (he : es ++ (elemsOf ag k n new).toArray = es') : atG ops i s = true ∧ aop P .none (ev s.tmps) (opG ops i) s.σ = some (.eff (tls k s.σ.next es') (s.σ.newTok tk)) := by
 simp only [Prod.mk.injEq] at h
 obtain ⟨h0, h⟩ := h
 refine ⟨h0, ?_⟩
 unfold appG at h
 unfold aop
 split at h
 ·rename_i args ts hop
  rw [hop]
  simp only [callA, builtinR, builtinA]
  split at h
  ·rename_i sT k' nm first es0 x ht hs hx
   split at h
   ·rename_i elem hu
    split at h
    ·rename_i ti ag' hi hag
     split at h
     ·rename_i z hz
      split at h
      ·rename_i hc
       simp only [Bool.and_eq_true] at hc
       obtain ⟨⟨⟨⟨⟨⟨⟨c1, c2⟩, c3⟩, c4⟩, c5⟩, c6⟩, c7⟩, c8⟩ := hc
       have hB := ble_t c8
       have hk5 : ti.size = k' := beq_t c5
       have key : ∀ nw, elemCells s.σ ti.size x = some (n, nw) → (es0.size + n) * ti.bytes ≤ 2 ^ 46 → moreOf P s.σ ts[1]? ti z x = some (n, nw) ∧ (Nat.ble ((es0.size + n) * ti.bytes) (2 ^ 46) && Nat.ble (es0.size + n) (2 ^ 46)) = true := by
        intro nw hnw hle
        refine ⟨by unfold moreOf; rw [c4]; exact hnw, ?_⟩
        rw [Bool.and_eq_true]
        refine ⟨Nat.ble_eq_true_of_le hle, Nat.ble_eq_true_of_le (Nat.le_trans (Nat.le_mul_of_pos_right _ (by omega)) hle)⟩
       obtain ⟨m, rfl⟩ : ∃ m, n = m + 1 := ⟨n - 1, by omega⟩
       split at h
       ·rename_i n' new' τ hec hto
        split at h
        ·rename_i hcon
         cases h
         obtain ⟨q1, q2⟩ := key _ hec hb
         rw [ht, hs, hx]
         unfold appendA
         simp only [hu, hi, hz, c1, c2, c3, Bool.and_self, q1]
         simp only [lenOfA, q2, hp.2, Bool.not_false, Bool.and_self, appendTo, hk5, Nat.beq_refl, hp.1, c6, hag, hto, hcon, Bool.true_and]
         rw [hk5] at c7
         rw [c7]
         simp only [he]
        ·exact absurd h (by simp)
       ·rename_i n' new' hec hto hex
        cases h
        obtain ⟨q1, q2⟩ := key _ hec hb
        rw [ht, hs, hx]
        unfold appendA
        simp only [hu, hi, hz, c1, c2, c3, Bool.and_self, q1]
        simp only [lenOfA, q2, hp.2, Bool.not_false, Bool.and_self, appendTo, hk5, Nat.beq_refl, hp.1, c6, hag, hto, hex, Bool.true_and]
        rw [hk5] at c7
        rw [c7]
        simp only [he]
       ·exact absurd h (by simp)
      ·exact absurd h (by simp)
     ·exact absurd h (by simp)
    ·exact absurd h (by simp)
   ·exact absurd h (by simp)
  ·exact absurd h (by simp)
 ·exact absurd h (by simp)
theorem app0_aop {ops : Array Oper} {i : Nat} {ag : Bool} {k B n : Nat} {es : Array Value} {new : List Value} {tk : List Nat} (h : (atG ops i s, appG P ops i s) = (true, some (ag, k, B, es, n, new, tk)))
  (hn : n = 0) (hb : (es.size + n) * B ≤ 2 ^ 46) (hp : new.any notCell = false) : atG ops i s = true ∧ aop P .none (ev s.tmps) (opG ops i) s.σ = some (.val (argG (opG ops i) s)) := by
 simp only [Prod.mk.injEq] at h
 obtain ⟨h0, h⟩ := h
 refine ⟨h0, ?_⟩
 unfold appG at h
 unfold aop
 split at h
 ·rename_i args ts hop
  rw [hop]
  simp only [callA, builtinR, builtinA]
  split at h
  ·rename_i sT k' nm first es0 x ht hs hx
   split at h
   ·rename_i elem hu
    split at h
    ·rename_i ti ag' hi hag
     split at h
     ·rename_i z hz
      split at h
      ·rename_i hc
       simp only [Bool.and_eq_true] at hc
       obtain ⟨⟨⟨⟨⟨⟨⟨c1, c2⟩, c3⟩, c4⟩, c5⟩, c6⟩, c7⟩, c8⟩ := hc
       have hB := ble_t c8
       have hk5 : ti.size = k' := beq_t c5
       have key : ∀ nw, elemCells s.σ ti.size x = some (n, nw) → (es0.size + n) * ti.bytes ≤ 2 ^ 46 → moreOf P s.σ ts[1]? ti z x = some (n, nw) ∧ (Nat.ble ((es0.size + n) * ti.bytes) (2 ^ 46) && Nat.ble (es0.size + n) (2 ^ 46)) = true := by
        intro nw hnw hle
        refine ⟨by unfold moreOf; rw [c4]; exact hnw, ?_⟩
        rw [Bool.and_eq_true]
        refine ⟨Nat.ble_eq_true_of_le hle, Nat.ble_eq_true_of_le (Nat.le_trans (Nat.le_mul_of_pos_right _ (by omega)) hle)⟩
       subst hn
       split at h
       ·rename_i n' new' τ hec hto
        split at h
        ·rename_i hcon
         cases h
         obtain ⟨q1, q2⟩ := key _ hec hb
         unfold argG
         rw [hop]
         simp only
         rw [ht, hs, hx]
         unfold appendA
         simp only [hu, hi, hz, c1, c2, c3, Bool.and_self, q1]
         simp only [lenOfA, q2, hp, Bool.not_false, Bool.and_self, appendTo, Option.getD_some]
        ·exact absurd h (by simp)
       ·rename_i n' new' hec hto hex
        cases h
        obtain ⟨q1, q2⟩ := key _ hec hb
        unfold argG
        rw [hop]
        simp only
        rw [ht, hs, hx]
        unfold appendA
        simp only [hu, hi, hz, c1, c2, c3, Bool.and_self, q1]
        simp only [lenOfA, q2, hp, Bool.not_false, Bool.and_self, appendTo, Option.getD_some]
       ·exact absurd h (by simp)
      ·exact absurd h (by simp)
     ·exact absurd h (by simp)
    ·exact absurd h (by simp)
   ·exact absurd h (by simp)
  ·exact absurd h (by simp)
 ·exact absurd h (by simp)
section
variable {α : Type} {enc : α → Value} {ops : Array Oper} {i : Nat} {k : Nat} {l m r : List α}
theorem app1_aop {B : Nat} (ag : Bool) (n : Nat) (new : List Value) (tk : List Nat) (hr : app' B l m = some r) (h : (atG ops i s, appG P ops i s) = (true, some (ag, k, B, (l.map enc).toArray, n, new, tk)))
  (hm : (Nat.beq m.length n && Nat.blt 0 n && new.all pureB && !new.any notCell) = true) (he : elemsOf ag k n new = m.map enc) : atG ops i s = true ∧ aop P .none (ev s.tmps) (opG ops i) s.σ = some (.eff (tls k s.σ.next (r.map enc).toArray) (s.σ.newTok tk)) := by
 simp only [Bool.and_eq_true] at hm
 obtain ⟨⟨⟨m1, m2⟩, m3⟩, m4⟩ := hm
 obtain ⟨r1, rfl⟩ := app'_spec hr
 have m1 : m.length = n := beq_t m1
 have m2 := blt_t m2
 exact app_aop h (by omega) (by simpa [m1] using r1) ⟨m3, by simpa using m4⟩ (by rw [he]; simp)
theorem appL_aop {B : Nat} {ag : Bool} (tk : List Nat) (hE : EncOk k ag enc) (hr : app' B l m = some r) (hm : ¬ m.length = 0) (h : (atG ops i s, appG P ops i s) = (true, some (ag, k, B, (l.map enc).toArray, (m.map enc).toArray.size, flatL (m.map enc).toArray, tk))) :
  atG ops i s = true ∧ aop P .none (ev s.tmps) (opG ops i) s.σ = some (.eff (tls k s.σ.next (r.map enc).toArray) (s.σ.newTok tk)) := by
 obtain ⟨r1, rfl⟩ := app'_spec hr
 refine app_aop h (by simpa using hm) (by simpa using r1) (hE.flat_pure m) ?_
 have := hE.elems m
 simp only [List.size_toArray, List.length_map] at *
 rw [this]
 simp
theorem appN_aop {B : Nat} {ag : Bool} (tk : List Nat) (hE : EncOk k ag enc) (hr : app' B l m = some r) (hm : m.length = 0) (h : (atG ops i s, appG P ops i s) = (true, some (ag, k, B, (l.map enc).toArray, (m.map enc).toArray.size, flatL (m.map enc).toArray, tk))) :
  atG ops i s = true ∧ aop P .none (ev s.tmps) (opG ops i) s.σ = some (.val (argG (opG ops i) s)) := by
 obtain ⟨r1, rfl⟩ := app'_spec hr
 exact app0_aop h (by simpa using hm) (by simpa using r1) (hE.flat_pure m).2
theorem HO.effA [NoEx P S] {v : Value} {σ' : AW} (h : atG ops i s = true ∧ aop P .none (ev s.tmps) (opG ops i) s.σ = some (.eff v σ')) (hk : HO P w0 S nt ops (i + 1) (effG ops i s v σ') K) : HO P w0 S nt ops i s K := HO.eff v σ' h.1 h.2 hk
theorem HO.valA [NoEx P S] {v : Value} (h : atG ops i s = true ∧ aop P .none (ev s.tmps) (opG ops i) s.σ = some (.val v)) (hk : HO P w0 S nt ops (i + 1) (putG ops i s v) K) : HO P w0 S nt ops i s K := HO.val v h.1 h.2 hk
theorem HD.effA {acc : List Ent} {v : Value} {σ' : AW} (h : atG (cOps c) i s = true ∧ aop P .none (ev s.tmps) (opG (cOps c) i) s.σ = some (.eff v σ')) (hk : HD P w0 S nt c s0 (i + 1) (.eff s.σ v σ' :: acc) (putE (cOps c) i s (.eff s.σ v σ')) K) : HD P w0 S nt c s0 i acc s K := HD.eff v σ' h.1 h.2 hk
theorem HD.valA {acc : List Ent} {v : Value} (h : atG (cOps c) i s = true ∧ aop P .none (ev s.tmps) (opG (cOps c) i) s.σ = some (.val v)) (hk : HD P w0 S nt c s0 (i + 1) (.val v :: acc) (putE (cOps c) i s (.val v)) K) : HD P w0 S nt c s0 i acc s K := HD.val v h.1 h.2 hk
end
def frG (P : Program) (ops : Array Oper) (i : Nat) (s : St) (ps : List Shp) (g : List Nat) : Option (FuncId × List Value) :=
 match wkG P ops i s ps with
 | some (f, l) => match mapO (renN g 12) l with
  | some l' => some (f, l')
  | none => none
 | none => none
theorem To.wkL {f : FuncId} {args : Array Value} {l : List Value} {σ σ' : AW} {e : AEnd} (ps : List Shp) (hw : wkTo.wkL 12 ps args.toList = some l) (h : To P w0 S f l.toArray σ e σ') : To P w0 S f args σ e σ' :=
 To.wk ps (by simpa using hw) h
theorem frG_to (hS : Std W0 w0 S n0) {ops : Array Oper} {i : Nat} {f : FuncId} {argsS : Array Value} {vS v : Value} {p p' nx : Nat} {tkS tkS' tk : List Nat} {obS obS' ob : List (Nat × AObj)} (g : List Nat) (ps : List Shp)
  (hc : FTo P W0 f argsS (mkW p tkS obS) (.returned vS) (mkW p' tkS' obS')) (h : frG P ops i s ps g = some (f, argsS.toList)) (ha : renF (upF g s.σ.next) 12 vS = some v)
  (hF : (frOs g s.σ obS, bkOs g s.σ (mkW p' tkS' obS') ob, frB g s.σ p p' obS tkS tkS' nx tk ob) = (wantO obS, wantO ob, true)) :
  ∃ args, callG P ops i s = some (f, args) ∧ To P w0 S f args s.σ (.returned v) (mkW nx tk ob) := by
 unfold frG at h
 split at h
 ·rename_i f' l hw
  split at h
  ·rename_i l' hl
   cases h
   obtain ⟨args, h1, h2⟩ := wkG_spec hw
   refine ⟨args, h1, To.wkL ps h2 ?_⟩
   exact hc.frame hS (Framed.of hF) (by simpa using hl) (e := .returned v) ha
  ·exact absurd h (by simp)
 ·exact absurd h (by simp)
theorem HO.callFW [NoEx P S] (hS : Std W0 w0 S n0) {ops : Array Oper} {i : Nat} {f : FuncId} {argsS : Array Value} {vS : Value} {p p' : Nat} {tkS tkS' : List Nat} {obS obS' : List (Nat × AObj)} (v : Value) (nx : Nat) (tk : List Nat) (ob : List (Nat × AObj)) (g : List Nat) (ps : List Shp)
  (hc : FTo P W0 f argsS (mkW p tkS obS) (.returned vS) (mkW p' tkS' obS')) (h : (frG P ops i s ps g, atG ops i s, renF (upF g s.σ.next) 12 vS) = (some (f, argsS.toList), true, some v))
  (hF : (frOs g s.σ obS, bkOs g s.σ (mkW p' tkS' obS') ob, frB g s.σ p p' obS tkS tkS' nx tk ob) = (wantO obS, wantO ob, true))
  (hk : HO P w0 S nt ops (i + 1) (effG ops i s v (mkW nx tk ob)) K) : HO P w0 S nt ops i s K := by
 simp only [Prod.mk.injEq] at h
 obtain ⟨args, hg, hto⟩ := frG_to hS g ps hc h.1 h.2.2 hF
 obtain ⟨h1, h2, h3⟩ := atG_spec h.2.1
 have hq : aopT P .none s.tmps (opG ops i) s.σ = some (.call f args) := by
  unfold aopT
  rw [h3]
  unfold callG at hg
  split at hg
  ·rename_i f' a' he
   cases hg
   exact he
  ·exact absurd hg (by simp)
 exact HO.call h1 h2 hq hto hk
theorem HD.callFW (hS : Std W0 w0 S n0) {i : Nat} {acc : List Ent} {f : FuncId} {argsS : Array Value} {vS : Value} {p p' : Nat} {tkS tkS' : List Nat} {obS obS' : List (Nat × AObj)} (v : Value) (nx : Nat) (tk : List Nat) (ob : List (Nat × AObj)) (g : List Nat) (ps : List Shp)
  (hc : FTo P W0 f argsS (mkW p tkS obS) (.returned vS) (mkW p' tkS' obS')) (h : (frG P (cOps c) i s ps g, atG (cOps c) i s, renF (upF g s.σ.next) 12 vS) = (some (f, argsS.toList), true, some v))
  (hF : (frOs g s.σ obS, bkOs g s.σ (mkW p' tkS' obS') ob, frB g s.σ p p' obS tkS tkS' nx tk ob) = (wantO obS, wantO ob, true))
  (hk : HD P w0 S nt c s0 (i + 1) (.eff s.σ v (mkW nx tk ob) :: acc) (putE (cOps c) i s (.eff s.σ v (mkW nx tk ob))) K) : HD P w0 S nt c s0 i acc s K := by
 simp only [Prod.mk.injEq] at h
 obtain ⟨args, hg, hto⟩ := frG_to hS g ps hc h.1 h.2.2 hF
 exact HD.callTo (Prod.ext hg h.2.1) hto hk
end
def bAnd (k : IntKind) (x y : Int) : Int := k.wrap (BitVec.ofInt k.bits x &&& BitVec.ofInt k.bits y).toNat
def bOr (k : IntKind) (x y : Int) : Int := k.wrap (BitVec.ofInt k.bits x ||| BitVec.ofInt k.bits y).toNat
def bXor (k : IntKind) (x y : Int) : Int := k.wrap (BitVec.ofInt k.bits x ^^^ BitVec.ofInt k.bits y).toNat
def bAndNot (k : IntKind) (x y : Int) : Int := k.wrap (BitVec.ofInt k.bits x &&& ~~~BitVec.ofInt k.bits y).toNat
def shlI (k : IntKind) (x y : Int) : Int := k.wrap (x * 2 ^ (min y.toNat k.bits))
def shrI (k : IntKind) (x y : Int) : Int := x.fdiv (2 ^ (min y.toNat k.bits))
def quoI (k : IntKind) (x y : Int) : Int := k.wrap (x.tdiv y)
def remI (k : IntKind) (x y : Int) : Int := x.tmod y
end Vx
end Go
set_option linter.unusedVariables false
set_option linter.unusedSimpArgs false
namespace Go
namespace Vx
open Go.RowKit (Below)
section
variable {P : Program} {W0 w0 : World} {S : Own} {nt n0 : Nat} {s s0 s' : St} {K K' : Cont} {c : Code} {ops : Array Oper} {i : Nat}
def shG (ops : Array Oper) (i : Nat) (s : St) : Option (Bool × IntKind × Int × Int) :=
 match (opG ops i).op with
 | .binOp .shl _ x y _ => match ev s.tmps x, ev s.tmps y with
  | .int k a, .int _ b => some (true, k, a, b)
  | _, _ => none
 | .binOp .shr _ x y _ => match ev s.tmps x, ev s.tmps y with
  | .int k a, .int _ b => some (false, k, a, b)
  | _, _ => none
 | _ => none
def shV (l : Bool) (k : IntKind) (x y : Int) : Int := if l then shlI k x y else shrI k x y
theorem intBin_sh (op : BinOp) (h : op = .shl ∨ op = .shr) (k j : IntKind) (a b : Int) : intBin op (.int k a) (.int j b) = none := by
 rcases h with rfl | rfl <;> (unfold intBin; simp only; split <;> rfl)
theorem sh_aop {l : Bool} {k : IntKind} {x y : Int} (hy : 0 ≤ y) (h : (atG ops i s, shG ops i s) = (true, some (l, k, x, y))) : atG ops i s = true ∧ aop P .none (ev s.tmps) (opG ops i) s.σ = some (.val (.int k (shV l k x y))) := by
 simp only [Prod.mk.injEq] at h
 refine ⟨h.1, ?_⟩
 have h := h.2
 unfold shG at h
 unfold aop
 have hn : ¬ y < 0 := by omega
 split at h
 ·rename_i t a b t2 hop
  split at h
  ·rename_i k' x' j y' hx hy'
   cases h
   rw [hop]
   simp only [binA, hx, hy', intBin_sh .shl (.inl rfl), eqBin]
   rw [show (plain (.int k x) && plain (.int j y)) = true from rfl]
   simp only
   unfold pureVal execOp
   rw [hop]
   simp only [hx, hy', eqGuard, binOp, Op.shift, if_neg hn, shV, shlI]
   rfl
  ·exact absurd h (by simp)
 ·rename_i t a b t2 hop
  split at h
  ·rename_i k' x' j y' hx hy'
   cases h
   rw [hop]
   simp only [binA, hx, hy', intBin_sh .shr (.inr rfl), eqBin]
   rw [show (plain (.int k x) && plain (.int j y)) = true from rfl]
   simp only
   unfold pureVal execOp
   rw [hop]
   simp only [hx, hy', eqGuard, binOp, Op.shift, if_neg hn, shV, shrI]
   rfl
  ·exact absurd h (by simp)
 ·exact absurd h (by simp)
def shl' (k : IntKind) (x y : Int) : Option Int := if 0 ≤ y then some (shlI k x y) else none
def shr' (k : IntKind) (x y : Int) : Option Int := if 0 ≤ y then some (shrI k x y) else none
theorem shr_aop {k : IntKind} {x y z : Int} (hz : shr' k x y = some z) (h : (atG ops i s, shG ops i s) = (true, some (false, k, x, y))) : atG ops i s = true ∧ aop P .none (ev s.tmps) (opG ops i) s.σ = some (.val (.int k z)) := by
 obtain ⟨h0, h1⟩ := iteS hz
 cases h1
 exact sh_aop h0 h
def sub' {α : Type} (l : List α) (lo hi : Int) : Option (List α) := if 0 ≤ lo ∧ lo ≤ hi ∧ hi ≤ (l.length : Int) then some ((l.take hi.toNat).drop lo.toNat) else none
def slG (P : Program) (ops : Array Oper) (i : Nat) (s : St) : Option (Nat × Bool × Array Value × Option Value × Option Value × Option Value) :=
 match (opG ops i).op with
 | .slice t x lo hi mx => match P.underlying t, ev s.tmps x with
  | some (.slice elem), .func (.methodOf k nm) first es => match sizeT P elem with
   | some k' => match Nat.beq k' k && nm == "" with
    | true => some (k, isEx first, es, lo.map (ev s.tmps), hi.map (ev s.tmps), mx.map (ev s.tmps))
    | false => none
   | none => none
  | _, _ => none
 | _ => none
theorem sl_aop {k : Nat} {ex : Bool} {es : Array Value} {lo hi mx : Option Value} (h : (atG ops i s, slG P ops i s) = (true, some (k, ex, es, lo, hi, mx))) {a b : Nat} (ha : idx lo 0 = some a) (hb : idx hi es.size = some b) (hab : a ≤ b) (hbs : b ≤ es.size) (fl : Bool)
  (hfl : (mx = none ∧ fl = (ex && Nat.beq b es.size)) ∨ (∃ m, mx = some m ∧ hi.isSome = true ∧ idx (some m) 0 = some b ∧ fl = true)) : atG ops i s = true ∧ aop P .none (ev s.tmps) (opG ops i) s.σ = some (.val (lst k fl (es.extract a b))) := by
 simp only [Prod.mk.injEq] at h
 refine ⟨h.1, ?_⟩
 have h := h.2
 unfold slG at h
 unfold aop
 split at h
 ·rename_i t x lo' hi' mx' hop
  split at h
  ·rename_i elem k0 nm first es0 hu hx
   split at h
   ·rename_i k' hk
    split at h
    ·rename_i hc
     simp only [Bool.and_eq_true, beq_iff_eq] at hc
     obtain ⟨c1, rfl⟩ := hc
     have c1 := beq_t c1
     cases h
     rw [hop]
     simp only [hx, slcA, sliceA, hu, hk, ha, hb]
     subst c1
     rw [Nat.beq_refl, show Nat.ble a b = true from Nat.ble_eq_true_of_le hab, show Nat.ble b es.size = true from Nat.ble_eq_true_of_le hbs]
     simp only [Bool.and_self]
     rcases hfl with ⟨hm, rfl⟩ | ⟨m, hm, hh, hi2, rfl⟩
     ·rw [hm]; rfl
     ·rw [hm]
      simp only [hh, hi2, Nat.ble_eq_true_of_le (Nat.le_refl b), show Nat.ble b es.size = true from Nat.ble_eq_true_of_le hbs, Bool.and_self, Nat.beq_refl]
      rfl
    ·exact absurd h (by simp)
   ·exact absurd h (by simp)
  ·exact absurd h (by simp)
 ·exact absurd h (by simp)
theorem sub'_spec {α : Type} {enc : α → Value} {l r : List α} {lo hi : Int} (h : sub' l lo hi = some r) : ∃ a b : Nat, lo = a ∧ hi = b ∧ a ≤ b ∧ b ≤ (l.map enc).toArray.size ∧ (l.map enc).toArray.extract a b = (r.map enc).toArray := by
 unfold sub' at h
 obtain ⟨⟨h1, h2, h3⟩, h4⟩ := iteS h
 cases h4
 refine ⟨lo.toNat, hi.toNat, by omega, by omega, by omega, by simp; omega, ?_⟩
 rw [ls_extract]
theorem idx_nat {k : IntKind} {n d : Nat} : idx (some (.int k (n : Int))) d = some n := rfl
section
variable {α : Type} {enc : α → Value} {k : Nat} {l r : List α} {ex : Bool} {j j' : IntKind} {lo hi : Int}
theorem sl1_aop (ex : Bool) (hr : sub' l lo (l.length : Int) = some r) (h : (atG ops i s, slG P ops i s) = (true, some (k, ex, (l.map enc).toArray, some (.int j lo), none, none))) : atG ops i s = true ∧ aop P .none (ev s.tmps) (opG ops i) s.σ = some (.val (ls k ex enc r)) := by
 obtain ⟨a, b, rfl, hb, h1, h2, h3⟩ := sub'_spec (enc := enc) hr
 have hb : l.length = b := by omega
 subst hb
 have := sl_aop h (a := a) (b := l.length) idx_nat (by simp [idx]) h1 h2 ex (.inl ⟨rfl, by simp [Nat.beq_refl]⟩)
 rw [h3] at this
 exact this
theorem sl2_aop (hr : sub' l 0 hi = some r) (h : (atG ops i s, slG P ops i s) = (true, some (k, false, (l.map enc).toArray, none, some (.int j hi), none))) : atG ops i s = true ∧ aop P .none (ev s.tmps) (opG ops i) s.σ = some (.val (ls k false enc r)) := by
 obtain ⟨a, b, ha, rfl, h1, h2, h3⟩ := sub'_spec (enc := enc) hr
 have ha : a = 0 := by omega
 subst ha
 have := sl_aop h (a := 0) (b := b) rfl idx_nat h1 h2 false (.inl ⟨rfl, rfl⟩)
 rw [h3] at this
 exact this
theorem sl4_aop (ex : Bool) (hr : sub' l 0 hi = some r) (h : (atG ops i s, slG P ops i s) = (true, some (k, ex, (l.map enc).toArray, none, some (.int j hi), some (.int j' hi)))) : atG ops i s = true ∧ aop P .none (ev s.tmps) (opG ops i) s.σ = some (.val (ls k true enc r)) := by
 obtain ⟨a, b, ha, rfl, h1, h2, h3⟩ := sub'_spec (enc := enc) hr
 have ha : a = 0 := by omega
 subst ha
 have := sl_aop h (a := 0) (b := b) rfl idx_nat h1 h2 true (.inr ⟨_, rfl, rfl, idx_nat, rfl⟩)
 rw [h3] at this
 exact this
end
end
end Vx
end Go
set_option linter.unusedVariables false
set_option linter.unusedSimpArgs false
namespace Go
namespace Vx
open Go.RowKit (Below)
def frzN (id n c : Nat) (v' : Value) : Nat → Value → Value
 | 0, v => v
 | m + 1, v => match v with
  | .slice (some ⟨i, 0, none⟩) n' c' => match Nat.beq i id && Nat.beq n' n && Nat.beq c' c with
   | true => v'
   | false => v
  | .agg cs => .agg (cs.toList.map (frzN id n c v' m)).toArray
  | .tuple cs => .tuple (cs.toList.map (frzN id n c v' m)).toArray
  | v => v
theorem TransL.map {ρ ρ' : Rho} {f : Value → Value} (h : ∀ v, Trans ρ ρ' v (f v)) : ∀ l : List Value, TransL ρ ρ' l (l.map f)
 | [] => trivial
 | x :: l => ⟨h x, TransL.map h l⟩
theorem frzN_trans {ρ ρ' : Rho} (hle : ρ.le ρ') {id n c : Nat} {v' : Value} (h0 : Trans ρ ρ' (.slice (some ⟨id, 0, none⟩) n c) v') : ∀ m v, Trans ρ ρ' v (frzN id n c v' m v)
 | 0, v => Trans.le hle v
 | m + 1, v => by
  unfold frzN
  split
  ·rename_i i n2 c2
   split
   ·rename_i hc
    simp only [Bool.and_eq_true] at hc
    obtain ⟨⟨a, b⟩, d⟩ := hc
    have a := beq_t a; have b := beq_t b; have d := beq_t d
    subst a; subst b; subst d
    exact h0
   ·exact Trans.le hle _
  ·exact Trans.agg (by simpa using TransL.map (frzN_trans hle h0 m) _)
  ·exact Trans.tuple (by simpa using TransL.map (frzN_trans hle h0 m) _)
  ·exact Trans.le hle _
def frzB (σ : AW) (id n c k : Nat) (ex : Bool) (es : Array Value) : Bool := Nat.blt id σ.next && Nat.beq es.size n && es.toList.all (fun v => Nat.beq v.cells.size k) && (!ex || (Nat.beq c n && Nat.ble c (2 ^ 64))) && !Nat.beq c EMPTY && (flatL es).all pureB
section
variable {P : Program} {W0 w0 : World} {S : Own} {nt n0 : Nat} {s s0 s' : St} {K K' : Cont} {c : Code} {ops : Array Oper} {i : Nat}
theorem frz_ok {σ : AW} {ρ : Rho} {w : World} (hR : R w0 S σ ρ w) {id n c k te : Nat} {ex : Bool} {es : Array Value} {cs : List Value} (h : (σ.get id, flatL es, frzB σ id n c k ex es) = (some (.cells cs te k), cs, true)) :
  ∃ ρ', ρ.le ρ' ∧ R w0 S (σ.drop id) ρ' w ∧ Trans ρ ρ' (.slice (some ⟨id, 0, none⟩) n c) (lst k ex es) := by
 simp only [Prod.mk.injEq] at h
 obtain ⟨hg, rfl, hb⟩ := h
 simp only [frzB, Bool.and_eq_true] at hb
 obtain ⟨⟨⟨⟨⟨b1, b2⟩, b3⟩, b4⟩, b5⟩, b6⟩ := hb
 obtain ⟨L, hL, _⟩ := hR.obj id _ (blt_t b1) hg
 obtain ⟨ca, ce, fr, hh, _⟩ := cells_of hR hL hg
 obtain ⟨hle, hR2⟩ := hR.freeze hL hg hh
 refine ⟨_, hle, hR2, Trans.frz hR hL hg (beq_t b2) rfl (fun i v hv => ?_) (fun x hx => PureV.of (List.all_eq_true.1 b6 x hx)) ex (fun e => ?_) ?_ hh⟩
 ·have := List.all_eq_true.1 b3 v (by rw [Array.mem_toList_iff]; exact Array.mem_of_getElem? hv)
  exact beq_t this
 ·subst e
  simp only [Bool.not_true, Bool.false_or, Bool.and_eq_true] at b4
  exact ⟨beq_t b4.1, ble_t b4.2⟩
 ·intro e
  rw [e, Nat.beq_refl] at b5
  exact absurd b5 (by simp)
theorem tkz_ok {σ : AW} {ρ : Rho} {w : World} (hR : R w0 S σ ρ w) {id n c k te : Nat} {es : Array Value} {cs : List Value} (h : (σ.get id, flatL es, frzB σ id n c k false es, Nat.blt σ.next (2 ^ D), Nat.beq c OPEN || (Nat.ble (c * k) cs.length && Nat.ble c (2 ^ 64))) = (some (.cells cs te k), cs, true, true, true)) :
  ∃ ρ', ρ.le ρ' ∧ R w0 S ((σ.drop id).newTok σ.toks) ρ' w ∧ Trans ρ ρ' (.slice (some ⟨id, 0, none⟩) n c) (tls k σ.next es) := by
 simp only [Prod.mk.injEq] at h
 obtain ⟨hg, rfl, hb, hn, hc⟩ := h
 simp only [frzB, Bool.and_eq_true] at hb
 obtain ⟨⟨⟨⟨⟨b1, b2⟩, b3⟩, b4⟩, b5⟩, b6⟩ := hb
 refine hR.tokenize (blt_t b1) hg (blt_t hn) (beq_t b2) rfl (fun i v hv => ?_) (fun x hx => PureV.of (List.all_eq_true.1 b6 x hx)) ?_
 ·have := List.all_eq_true.1 b3 v (by rw [Array.mem_toList_iff]; exact Array.mem_of_getElem? hv)
  exact beq_t this
 ·simp only [Bool.or_eq_true, Bool.and_eq_true] at hc
  rcases hc with hc | hc
  ·exact .inl (beq_t hc)
  ·exact .inr ⟨ble_t hc.1, ble_t hc.2⟩
def turnT (f : Value → Value) (t : Tm) : List Nat → Tm
 | [] => t
 | d :: ds => .put d (f (t.get d)) (turnT f t ds)
theorem SRel.turn {cs : List Frame} {ρ ρ' : Rho} {a : Act} {w : World} {σ' : AW} (hs : SRel w0 S false nt cs ρ s a cs w) (hle : ρ.le ρ') (hR : R w0 S σ' ρ' w) (f : Value → Value) (hf : ∀ v, Trans ρ ρ' v (f v)) (ds : List Nat) (hd : ds.all s.tmps.has = true) : SRel w0 S false nt cs ρ' { s with tmps := turnT f s.tmps ds, σ := σ' } a cs w := by
 refine ⟨⟨hs.t.size, ?_⟩, hs.ds.mono hle, rfl, hR⟩
 show ∀ j, j < nt → (turnT f s.tmps ds).has j = true → VRel ρ' ((turnT f s.tmps ds).get j) _
 induction ds with
 | nil => exact fun j hj hh => (hs.t.at_ j hj hh).mono hle
 | cons d ds ih =>
  simp only [List.all_cons, Bool.and_eq_true] at hd
  intro j hj hh
  unfold turnT at hh ⊢
  by_cases e : d = j
  ·subst e
   rw [Tm.put_same]
   exact hf _ _ (hs.t.at_ d hj hd.1)
  ·have hg := Tm.gh_other (d := d) (i := j) (f (s.tmps.get d)) (turnT f s.tmps ds) e
   rw [Tm.gh_get hg]
   exact ih hd.2 j hj (by rw [← Tm.gh_has hg]; exact hh)
def frzS (s : St) (ds : List Nat) (id n c : Nat) (v : Value) : St := { s with tmps := turnT (frzN id n c v 12) s.tmps ds, σ := s.σ.drop id }
def tkzS (s : St) (ds : List Nat) (id n c k : Nat) (es : Array Value) : St := { s with tmps := turnT (frzN id n c (tls k s.σ.next es) 12) s.tmps ds, σ := (s.σ.drop id).newTok s.σ.toks }
theorem SRel.frz {cs : List Frame} {ρ : Rho} {a : Act} {w : World} (hs : SRel w0 S false nt cs ρ s a cs w) (ds : List Nat) (id n c k te : Nat) (ex : Bool) (es : Array Value) (cl : List Value) (h : (ds.all s.tmps.has, s.σ.get id, flatL es, frzB s.σ id n c k ex es) = (true, some (.cells cl te k), cl, true)) : ∃ ρ', SRel w0 S false nt cs ρ' (frzS s ds id n c (lst k ex es)) a cs w := by
 simp only [Prod.mk.injEq] at h
 obtain ⟨ρ', hle, hR, ht⟩ := frz_ok hs.r (Prod.ext h.2.1 (Prod.ext h.2.2.1 h.2.2.2))
 exact ⟨ρ', hs.turn hle hR _ (frzN_trans hle ht 12) ds h.1⟩
theorem SRel.tkz {cs : List Frame} {ρ : Rho} {a : Act} {w : World} (hs : SRel w0 S false nt cs ρ s a cs w) (ds : List Nat) (id n c k te : Nat) (es : Array Value) (cl : List Value) (h : (ds.all s.tmps.has, s.σ.get id, flatL es, frzB s.σ id n c k false es, Nat.blt s.σ.next (2 ^ D), Nat.beq c OPEN || (Nat.ble (c * k) cl.length && Nat.ble c (2 ^ 64))) = (true, some (.cells cl te k), cl, true, true, true)) : ∃ ρ', SRel w0 S false nt cs ρ' (tkzS s ds id n c k es) a cs w := by
 simp only [Prod.mk.injEq] at h
 obtain ⟨ρ', hle, hR, ht⟩ := tkz_ok hs.r (n := n) (c := c) (Prod.ext h.2.1 (Prod.ext h.2.2.1 (Prod.ext h.2.2.2.1 (Prod.ext h.2.2.2.2.1 h.2.2.2.2.2))))
 exact ⟨ρ', hs.turn hle hR _ (frzN_trans hle ht 12) ds h.1⟩
theorem H.frz (ds : List Nat) (id n c' k te : Nat) (ex : Bool) (es : Array Value) (cl : List Value) (h : (ds.all s.tmps.has, s.σ.get id, flatL es, frzB s.σ id n c' k ex es) = (true, some (.cells cl te k), cl, true)) (hk : H P w0 S nt c (frzS s ds id n c' (lst k ex es)) K) : H P w0 S nt c s K :=
 fun ρ a cs w hs => let ⟨ρ', h'⟩ := hs.frz ds id n c' k te ex es cl h; hk ρ' a cs w h'
theorem HL.frz (ds : List Nat) (id n c' k te : Nat) (ex : Bool) (es : Array Value) (cl : List Value) (h : (ds.all s.tmps.has, s.σ.get id, flatL es, frzB s.σ id n c' k ex es) = (true, some (.cells cl te k), cl, true)) (hk : HL P w0 S nt c (frzS s ds id n c' (lst k ex es)) K) : HL P w0 S nt c s K :=
 fun ρ a cs w hs => let ⟨ρ', h'⟩ := hs.frz ds id n c' k te ex es cl h; hk ρ' a cs w h'
theorem HO.frz (ds : List Nat) (id n c' k te : Nat) (ex : Bool) (es : Array Value) (cl : List Value) (h : (ds.all s.tmps.has, s.σ.get id, flatL es, frzB s.σ id n c' k ex es) = (true, some (.cells cl te k), cl, true)) (hk : HO P w0 S nt ops i (frzS s ds id n c' (lst k ex es)) K) : HO P w0 S nt ops i s K :=
 fun ho ρ a cs w hs => let ⟨ρ', h'⟩ := hs.frz ds id n c' k te ex es cl h; hk ho ρ' a cs w h'
theorem H.tkz (ds : List Nat) (id n c' k te : Nat) (es : Array Value) (cl : List Value) (h : (ds.all s.tmps.has, s.σ.get id, flatL es, frzB s.σ id n c' k false es, Nat.blt s.σ.next (2 ^ D), Nat.beq c' OPEN || (Nat.ble (c' * k) cl.length && Nat.ble c' (2 ^ 64))) = (true, some (.cells cl te k), cl, true, true, true)) (hk : H P w0 S nt c (tkzS s ds id n c' k es) K) : H P w0 S nt c s K :=
 fun ρ a cs w hs => let ⟨ρ', h'⟩ := hs.tkz ds id n c' k te es cl h; hk ρ' a cs w h'
theorem HL.tkz (ds : List Nat) (id n c' k te : Nat) (es : Array Value) (cl : List Value) (h : (ds.all s.tmps.has, s.σ.get id, flatL es, frzB s.σ id n c' k false es, Nat.blt s.σ.next (2 ^ D), Nat.beq c' OPEN || (Nat.ble (c' * k) cl.length && Nat.ble c' (2 ^ 64))) = (true, some (.cells cl te k), cl, true, true, true)) (hk : HL P w0 S nt c (tkzS s ds id n c' k es) K) : HL P w0 S nt c s K :=
 fun ρ a cs w hs => let ⟨ρ', h'⟩ := hs.tkz ds id n c' k te es cl h; hk ρ' a cs w h'
theorem HO.tkz (ds : List Nat) (id n c' k te : Nat) (es : Array Value) (cl : List Value) (h : (ds.all s.tmps.has, s.σ.get id, flatL es, frzB s.σ id n c' k false es, Nat.blt s.σ.next (2 ^ D), Nat.beq c' OPEN || (Nat.ble (c' * k) cl.length && Nat.ble c' (2 ^ 64))) = (true, some (.cells cl te k), cl, true, true, true)) (hk : HO P w0 S nt ops i (tkzS s ds id n c' k es) K) : HO P w0 S nt ops i s K :=
 fun ho ρ a cs w hs => let ⟨ρ', h'⟩ := hs.tkz ds id n c' k te es cl h; hk ho ρ' a cs w h'
theorem FEnd.frz {e : AEnd} {σ' σ1 : AW} {v : Value} (id n c' k te : Nat) (ex : Bool) (es : Array Value) (cl : List Value) (h : (σ1.get id, flatL es, frzB σ1 id n c' k ex es) = (some (.cells cl te k), cl, true)) (hk : FEnd w0 S e σ' (.returned (frzN id n c' (lst k ex es) 12 v)) (σ1.drop id)) : FEnd w0 S e σ' (.returned v) σ1 := by
 intro ρ u w he hR
 obtain ⟨ρ', hle, hR2, ht⟩ := frz_ok hR h
 cases u with
 | returned v2 => exact hk ρ' (.returned v2) w (frzN_trans hle ht 12 _ _ he) hR2
 | _ => exact he.elim
theorem PEnd.frz {e : AEnd} {σ1 : AW} {v : Value} (id n c' k te : Nat) (ex : Bool) (es : Array Value) (cl : List Value) (h : (σ1.get id, flatL es, frzB σ1 id n c' k ex es) = (some (.cells cl te k), cl, true)) (hk : PEnd w0 S e (.returned (frzN id n c' (lst k ex es) 12 v)) (σ1.drop id)) : PEnd w0 S e (.returned v) σ1 := by
 intro ρ u w he hR
 obtain ⟨ρ', hle, hR2, ht⟩ := frz_ok hR h
 cases u with
 | returned v2 => exact hk ρ' (.returned v2) w (frzN_trans hle ht 12 _ _ he) hR2
 | _ => exact he.elim
theorem PEnd.wk {e : AEnd} {σ1 : AW} {v v1 : Value} (p : Shp) (hw : wkTo 12 p v = some v1) (h : PEnd w0 S e (.returned v1) σ1) : PEnd w0 S e (.returned v) σ1 := PEnd.chg (fun ρ w hR => ⟨ρ, hR, wk_trans _ _ _ _ hw⟩) h
theorem PEnd.fin {σ1 : AW} {v : Value} (hp : pureB v = true) : PEnd w0 S (.returned v) (.returned v) σ1 := PEnd.pure (PureV.of hp)
end
def minI (x y : Int) : Int := if y < x then y else x
def maxI (x y : Int) : Int := if y > x then y else x
def strEq (x y : ByteArray) : Bool := x.toList == y.toList
def bytesU (l : List Int) : ByteArray := ⟨(l.map fun n => UInt8.ofNat n.toNat).toArray⟩
theorem bytesOf_map : ∀ l : List Int, bytesOf (l.map (encI .u8)) = some (l.map fun n => UInt8.ofNat n.toNat)
 | [] => rfl
 | n :: l => by
  show (bytesOf (l.map (encI .u8))).map _ = _
  rw [bytesOf_map l]
  rfl
section
variable {P : Program} {s : St} {ops : Array Oper} {i : Nat}
def stG (P : Program) (ops : Array Oper) (i : Nat) (s : St) : Option (Array Value) :=
 match (opG ops i).op with
 | .convert src dst x => match P.underlying src, P.underlying dst, ev s.tmps x with
  | some (.slice e), some .string, .func (.methodOf 1 _) _ es => match P.underlying e with
   | some (.int .u8) => some es
   | _ => none
  | _, _, _ => none
 | _ => none
theorem str_aop (l : List Int) (h : (atG ops i s, stG P ops i s) = (true, some (l.map (encI .u8)).toArray)) : atG ops i s = true ∧ aop P .none (ev s.tmps) (opG ops i) s.σ = some (.val (.string (bytesU l))) := by
 simp only [Prod.mk.injEq] at h
 refine ⟨h.1, ?_⟩
 have h := h.2
 unfold stG at h
 unfold aop
 split at h
 ·rename_i src dst x hop
  split at h
  ·rename_i e nm f es hs hd hx
   split at h
   ·rename_i he
    simp only [Option.some.injEq] at h
    subst h
    rw [hop]
    simp only [convA, hx, intConv, convertA, hs, hd, he, Nat.beq_refl, bytesOf_map]
    rfl
   ·exact absurd h (by simp)
  ·exact absurd h (by simp)
 ·exact absurd h (by simp)
end
end Vx
end Go
set_option linter.unusedVariables false
set_option linter.unusedSimpArgs false
namespace Go
namespace Vx
open Go.RowKit (Below)
section
variable {P : Program} {W0 w0 : World} {S : Own} {nt n0 : Nat} {s s0 s' : St} {K K' : Cont} {c : Code} {ops : Array Oper} {i : Nat}
theorem putc_get {σ : AW} {j i : Nat} {o o' : AObj} (hj : j < 2 ^ D) (hi : i < 2 ^ D) (h : (σ.put j o).get i = some o') : (i = j ∧ o' = o) ∨ (i ≠ j ∧ σ.get i = some o') := by
 unfold AW.put AW.get at h
 by_cases e : i = j
 ·subst e
  rw [Tr.get_set_same] at h
  cases h
  exact .inl ⟨rfl, rfl⟩
 ·rw [Tr.get_set_other _ _ _ _ _ hj hi (Ne.symm e)] at h
  exact .inr ⟨e, h⟩
theorem R.recell {σ : AW} {ρ : Rho} {w : World} (h : R w0 S σ ρ w) {j te k : Nat} {cs cs' : List Value} (hj : j < σ.next) (hg : σ.get j = some (.cells cs te k)) (hlen : cs'.length = cs.length) (hO : ∀ L, ρ j = some L → ORel ρ L (.cells cs' te k) w.heap[L.blk]?) : R w0 S (σ.put j (.cells cs' te k)) ρ w := by
 have lim := h.lim
 have hg' : ∀ i o, i < σ.next → (σ.put j (.cells cs' te k)).get i = some o → ∃ o0, σ.get i = some o0 := fun i o hi e => by
  rcases putc_get (by omega) (by omega) e with ⟨rfl, _⟩ | ⟨_, q⟩
  ·exact ⟨_, hg⟩
  ·exact ⟨_, q⟩
 exact
  {base := h.base, spec := h.spec, pins := h.pins, pinInj := h.pinInj, pinVal := h.pinVal
   pinApart := fun i L o j oj M e1 e2 hj ej hM => let ⟨_, y⟩ := hg' j oj hj ej; h.pinApart i L o j _ M e1 e2 hj y hM
   mem := h.mem
   memApart := fun b a j oj M e hj ej hM => let ⟨_, y⟩ := hg' j oj hj ej; h.memApart b a j _ M e hj y hM
   memNew := h.memNew, memBase := h.memBase, tok := h.tok, tokInj := h.tokInj, tokDom := h.tokDom, tokPin := h.tokPin, tokNd := h.tokNd
   os := h.os, tape := h.tape, output := h.output, size := h.size, block := h.block, own := h.own
   dom := h.dom, lim := h.lim
   obj := fun i p hi e => by
    rcases putc_get (by omega) (by have : i < σ.next := hi; omega) e with ⟨rfl, rfl⟩ | ⟨_, q⟩
    ·obtain ⟨L, e1, e2, e3⟩ := h.obj _ _ hj hg
     exact ⟨L, e1, e2, hO L e1⟩
    ·exact h.obj i p hi q
   exact := fun i ds e k' L hi ei hL he => by
    rcases putc_get (by omega) (by have : i < σ.next := hi; omega) ei with ⟨rfl, q⟩ | ⟨_, q⟩
    ·cases q
     rw [hlen]
     exact h.exact _ _ _ _ _ hj hg hL he
    ·exact h.exact _ _ _ _ _ hi q hL he
   apart := fun a b oa ob La Lb ha hb ea eb => let ⟨_, ya⟩ := hg' a oa ha ea; let ⟨_, yb⟩ := hg' b ob hb eb; h.apart a b _ _ La Lb ha hb ya yb }
def mapCell (f : Value → Value) : List Value → Nat → List Value
 | [], _ => []
 | v :: l, 0 => f v :: l
 | v :: l, m + 1 => v :: mapCell f l m
theorem mapCell_length {f : Value → Value} : ∀ {l : List Value} {m : Nat}, (mapCell f l m).length = l.length
 | [], m => by cases m <;> rfl
 | v :: l, 0 => rfl
 | v :: l, m + 1 => by simp [mapCell, mapCell_length]
theorem mapCell_get {f : Value → Value} : ∀ {l : List Value} {m i : Nat} {v : Value}, (mapCell f l m)[i]? = some v → ∃ u, l[i]? = some u ∧ (v = u ∨ (i = m ∧ v = f u))
 | [], m, i, v, h => by cases m <;> simp [mapCell] at h
 | x :: l, 0, 0, v, h => by simp [mapCell] at h; exact ⟨x, rfl, .inr ⟨rfl, h.symm⟩⟩
 | x :: l, 0, i + 1, v, h => by simp [mapCell] at h; exact ⟨v, by simpa using h, .inl rfl⟩
 | x :: l, m + 1, 0, v, h => by simp [mapCell] at h; exact ⟨x, rfl, .inl h.symm⟩
 | x :: l, m + 1, i + 1, v, h => by
  simp [mapCell] at h
  obtain ⟨u, hu, q⟩ := mapCell_get h
  refine ⟨u, by simpa using hu, ?_⟩
  rcases q with q | ⟨q1, q2⟩
  ·exact .inl q
  ·exact .inr ⟨by omega, q2⟩
theorem orel_mapCell {ρ ρ' : Rho} (hle : ρ.le ρ') {L : Loc} {cs : List Value} {te k : Nat} {o : Option Obj} {f : Value → Value} {m : Nat} (hf : ∀ v, cs[m]? = some v → Trans ρ ρ' v (f v)) (h : ORel ρ L (.cells cs te k) o) : ORel ρ' L (.cells (mapCell f cs m) te k) o := by
 cases o with
 | none => exact h.elim
 | some ob =>
  cases ob with
  | cells c2 t2 fr2 =>
   obtain ⟨a, b, c, d, e, g⟩ := h
   refine ⟨a, b, c, by rw [mapCell_length]; exact d, e, fun i v hv => ?_⟩
   obtain ⟨u, hu, q⟩ := mapCell_get hv
   obtain ⟨v', x, y⟩ := g i u hu
   refine ⟨v', x, ?_⟩
   rcases q with rfl | ⟨rfl, rfl⟩
   ·exact y.mono hle
   ·exact hf u hu v' y
  | _ => exact h.elim
def wkcS (s : St) (j te k m : Nat) (cs : List Value) (v' : Value) : St := { s with σ := s.σ.put j (.cells (mapCell (fun _ => v') cs m) te k) }
theorem SRel.wkc {cl : List Frame} {ρ : Rho} {a : Act} {w : World} (hs : SRel w0 S false nt cl ρ s a cl w) (j te k m : Nat) (cs : List Value) (v v' : Value) (p : Shp) (h : (s.σ.get j, Nat.blt j s.σ.next, cs[m]?, wkTo 12 p v) = (some (.cells cs te k), true, some v, some v')) : SRel w0 S false nt cl ρ (wkcS s j te k m cs v') a cl w := by
 simp only [Prod.mk.injEq] at h
 obtain ⟨h1, h2, h3, h4⟩ := h
 refine ⟨hs.t, hs.ds, hs.cs, hs.r.recell (blt_t h2) h1 mapCell_length fun L hL => ?_⟩
 refine orel_mapCell (Rho.le_refl _) (fun u hu => ?_) (hs.r.at hL h1).2
 rw [h3] at hu
 cases hu
 exact wk_trans _ _ _ _ h4
def frcS (s : St) (j te k m id n c : Nat) (cs : List Value) (v : Value) : St := { s with σ := (s.σ.drop id).put j (.cells (mapCell (frzN id n c v 12) cs m) te k) }
theorem SRel.frc {cl : List Frame} {ρ : Rho} {a : Act} {w : World} (hs : SRel w0 S false nt cl ρ s a cl w) (j te k m : Nat) (cs : List Value) (id n c k2 te2 : Nat) (ex : Bool) (es : Array Value) (cl2 : List Value) (h : (s.σ.get j, (s.σ.drop id).get j, Nat.blt j s.σ.next, s.σ.get id, flatL es, frzB s.σ id n c k2 ex es) = (some (.cells cs te k), some (.cells cs te k), true, some (.cells cl2 te2 k2), cl2, true)) : ∃ ρ', SRel w0 S false nt cl ρ' (frcS s j te k m id n c cs (lst k2 ex es)) a cl w := by
 simp only [Prod.mk.injEq] at h
 obtain ⟨h1, h2, h3, h4, h5, h6⟩ := h
 obtain ⟨ρ', hle, hR, ht⟩ := frz_ok hs.r (n := n) (c := c) (Prod.ext h4 (Prod.ext h5 h6))
 refine ⟨ρ', ⟨⟨hs.t.size, fun i hi hh => (hs.t.at_ i hi hh).mono hle⟩, hs.ds.mono hle, rfl, hR.recell (blt_t h3) h2 mapCell_length fun L hL => ?_⟩⟩
 obtain ⟨L0, e1, _, _⟩ := hs.r.obj j _ (blt_t h3) h1
 have : L0 = L := by
  have := hle.1 j L0 e1
  rw [hL] at this
  exact (Option.some.inj this).symm
 subst this
 exact orel_mapCell hle (fun u hu => frzN_trans hle ht 12 u) (hs.r.at e1 h1).2
theorem HO.wkc (j te k m : Nat) (cs : List Value) (v v' : Value) (p : Shp) (h : (s.σ.get j, Nat.blt j s.σ.next, cs[m]?, wkTo 12 p v) = (some (.cells cs te k), true, some v, some v')) (hk : HO P w0 S nt ops i (wkcS s j te k m cs v') K) : HO P w0 S nt ops i s K :=
 fun ho ρ a cl w hs => by
  have e := hs.cs
  exact hk ho ρ a cl w ⟨(SRel.wkc (cl := cl) hs j te k m cs v v' p h).t, hs.ds, hs.cs, (SRel.wkc (cl := cl) hs j te k m cs v v' p h).r⟩
theorem H.wkc (j te k m : Nat) (cs : List Value) (v v' : Value) (p : Shp) (h : (s.σ.get j, Nat.blt j s.σ.next, cs[m]?, wkTo 12 p v) = (some (.cells cs te k), true, some v, some v')) (hk : H P w0 S nt c (wkcS s j te k m cs v') K) : H P w0 S nt c s K :=
 fun ρ a cl w hs => hk ρ a cl w (SRel.wkc hs j te k m cs v v' p h)
theorem HL.wkc (j te k m : Nat) (cs : List Value) (v v' : Value) (p : Shp) (h : (s.σ.get j, Nat.blt j s.σ.next, cs[m]?, wkTo 12 p v) = (some (.cells cs te k), true, some v, some v')) (hk : HL P w0 S nt c (wkcS s j te k m cs v') K) : HL P w0 S nt c s K :=
 fun ρ a cl w hs => hk ρ a cl w (SRel.wkc hs j te k m cs v v' p h)
theorem HO.frc (j te k m : Nat) (cs : List Value) (id n c' k2 te2 : Nat) (ex : Bool) (es : Array Value) (cl2 : List Value) (h : (s.σ.get j, (s.σ.drop id).get j, Nat.blt j s.σ.next, s.σ.get id, flatL es, frzB s.σ id n c' k2 ex es) = (some (.cells cs te k), some (.cells cs te k), true, some (.cells cl2 te2 k2), cl2, true)) (hk : HO P w0 S nt ops i (frcS s j te k m id n c' cs (lst k2 ex es)) K) : HO P w0 S nt ops i s K :=
 fun ho ρ a cl w hs => let ⟨ρ', h'⟩ := SRel.frc hs j te k m cs id n c' k2 te2 ex es cl2 h; hk ho ρ' a cl w h'
theorem H.frc (j te k m : Nat) (cs : List Value) (id n c' k2 te2 : Nat) (ex : Bool) (es : Array Value) (cl2 : List Value) (h : (s.σ.get j, (s.σ.drop id).get j, Nat.blt j s.σ.next, s.σ.get id, flatL es, frzB s.σ id n c' k2 ex es) = (some (.cells cs te k), some (.cells cs te k), true, some (.cells cl2 te2 k2), cl2, true)) (hk : H P w0 S nt c (frcS s j te k m id n c' cs (lst k2 ex es)) K) : H P w0 S nt c s K :=
 fun ρ a cl w hs => let ⟨ρ', h'⟩ := SRel.frc hs j te k m cs id n c' k2 te2 ex es cl2 h; hk ρ' a cl w h'
def tkcS (s : St) (j te k m k2 : Nat) (cs : List Value) (es : Array Value) : St := { s with σ := (s.σ.newTok s.σ.toks).put j (.cells (mapCell (fun _ => tls k2 s.σ.next es) cs m) te k) }
theorem fullOf_trans {ρ ρ' : Rho} {τ k : Nat} {v : Value} {es : Array Value} (h : fullOf v k = some es) (h1 : Trans ρ ρ' (.slice none 0 0) (tls k τ #[])) (h2 : ∀ es, Trans ρ ρ' (lst k true es) (tls k τ es)) : Trans ρ ρ' v (tls k τ es) := by
 unfold fullOf at h
 split at h
 ·cases h; exact h1
 ·rename_i k' nm f es'
  split at h
  ·rename_i hf
   split at h
   ·rename_i hc
    cases h
    obtain ⟨rfl, rfl⟩ := hc
    have : f = #[.bool true] := by rw [← Array.toArray_toList (xs := f), hf]
    subst this
    exact h2 _
   ·exact absurd h (by simp)
  ·exact absurd h (by simp)
 ·exact absurd h (by simp)
theorem SRel.tkc {cl : List Frame} {ρ : Rho} {a : Act} {w : World} (hs : SRel w0 S false nt cl ρ s a cl w) (j te k m k2 : Nat) (cs : List Value) (v : Value) (es : Array Value) (h : (s.σ.get j, (s.σ.newTok s.σ.toks).get j, Nat.blt j s.σ.next, cs[m]?, fullOf v k2, Nat.blt s.σ.next (2 ^ D)) = (some (.cells cs te k), some (.cells cs te k), true, some v, some es, true)) : ∃ ρ', SRel w0 S false nt cl ρ' (tkcS s j te k m k2 cs es) a cl w := by
 simp only [Prod.mk.injEq] at h
 obtain ⟨h1, h2, h3, h4, h5, h6⟩ := h
 obtain ⟨ρ', hle, hR, hnil, hfull⟩ := hs.r.tokNil (blt_t h6)
 have h3' : j < (s.σ.newTok s.σ.toks).next := by have := blt_t h3; show j < s.σ.next + 1; omega
 refine ⟨ρ', ⟨⟨hs.t.size, fun i hi hh => (hs.t.at_ i hi hh).mono hle⟩, hs.ds.mono hle, rfl, hR.recell h3' h2 mapCell_length fun L hL => ?_⟩⟩
 obtain ⟨L0, e1, _, _⟩ := hs.r.obj j _ (blt_t h3) h1
 have : L0 = L := by
  have := hle.1 j L0 e1
  rw [hL] at this
  exact (Option.some.inj this).symm
 subst this
 exact orel_mapCell hle (fun u hu => by rw [h4] at hu; cases hu; exact fullOf_trans h5 (hnil k2) (fun es => hfull k2 es)) (hs.r.at e1 h1).2
def tzcS (s : St) (j te k m id n c k2 : Nat) (cs : List Value) (es : Array Value) : St := { s with σ := ((s.σ.drop id).newTok s.σ.toks).put j (.cells (mapCell (frzN id n c (tls k2 s.σ.next es) 12) cs m) te k) }
theorem H.tkc (j te k m k2 : Nat) (cs : List Value) (v : Value) (es : Array Value) (h : (s.σ.get j, (s.σ.newTok s.σ.toks).get j, Nat.blt j s.σ.next, cs[m]?, fullOf v k2, Nat.blt s.σ.next (2 ^ D)) = (some (.cells cs te k), some (.cells cs te k), true, some v, some es, true)) (hk : H P w0 S nt c (tkcS s j te k m k2 cs es) K) : H P w0 S nt c s K :=
 fun ρ a cl w hs => let ⟨ρ', h'⟩ := SRel.tkc hs j te k m k2 cs v es h; hk ρ' a cl w h'
theorem HL.tkc (j te k m k2 : Nat) (cs : List Value) (v : Value) (es : Array Value) (h : (s.σ.get j, (s.σ.newTok s.σ.toks).get j, Nat.blt j s.σ.next, cs[m]?, fullOf v k2, Nat.blt s.σ.next (2 ^ D)) = (some (.cells cs te k), some (.cells cs te k), true, some v, some es, true)) (hk : HL P w0 S nt c (tkcS s j te k m k2 cs es) K) : HL P w0 S nt c s K :=
 fun ρ a cl w hs => let ⟨ρ', h'⟩ := SRel.tkc hs j te k m k2 cs v es h; hk ρ' a cl w h'
theorem HL.frc (j te k m : Nat) (cs : List Value) (id n c' k2 te2 : Nat) (ex : Bool) (es : Array Value) (cl2 : List Value) (h : (s.σ.get j, (s.σ.drop id).get j, Nat.blt j s.σ.next, s.σ.get id, flatL es, frzB s.σ id n c' k2 ex es) = (some (.cells cs te k), some (.cells cs te k), true, some (.cells cl2 te2 k2), cl2, true)) (hk : HL P w0 S nt c (frcS s j te k m id n c' cs (lst k2 ex es)) K) : HL P w0 S nt c s K :=
 fun ρ a cl w hs => let ⟨ρ', h'⟩ := SRel.frc hs j te k m cs id n c' k2 te2 ex es cl2 h; hk ρ' a cl w h'
end
end Vx
end Go
set_option linter.unusedVariables false
set_option linter.unusedSimpArgs false
namespace Go
namespace Vx
section
variable {P : Program} {s : St} {ops : Array Oper} {i : Nat}
def dvG (ops : Array Oper) (i : Nat) (s : St) : Option (Bool × IntKind × Int × Int) :=
 match (opG ops i).op with
 | .binOp .quo _ x y _ => match ev s.tmps x, ev s.tmps y with
  | .int k a, .int j b => match decide (k = j) with
   | true => some (true, k, a, b)
   | false => none
  | _, _ => none
 | .binOp .rem _ x y _ => match ev s.tmps x, ev s.tmps y with
  | .int k a, .int j b => match decide (k = j) with
   | true => some (false, k, a, b)
   | false => none
  | _, _ => none
 | _ => none
def dvV (l : Bool) (k : IntKind) (x y : Int) : Int := if l then quoI k x y else remI k x y
def quo' (k : IntKind) (x y : Int) : Option Int := if y ≠ 0 then some (quoI k x y) else none
def rem' (k : IntKind) (x y : Int) : Option Int := if y ≠ 0 then some (remI k x y) else none
end
end Vx
end Go
set_option linter.unusedVariables false
set_option linter.unusedSimpArgs false
namespace Go
namespace Vx
theorem pureOf_bind {α β : Type} {P : Program} : ∀ {s : Sem α} {k : α → Sem β} {a : α}, pureOf P s = some a → pureOf P (s >>= k) = pureOf P (k a) := by
 intro s
 induction s with
 | pure a => intro k b h; simp [pureOf] at h; subst h; rfl
 | program k ih => intro k2 b h; simp only [pureOf] at h; exact ih P h
 | mark m k ih => intro k2 b h; simp only [pureOf] at h; exact ih h
 | _ => intro k b h; simp [pureOf] at h
theorem pureOf_prog {P : Program} : pureOf P program = some P := rfl
theorem pureOf_und {P : Program} {t : TypeId} {d : TypeDesc} (h : P.underlying t = some d) : pureOf P (underlying t) = some d := by
 unfold underlying
 rw [pureOf_bind pureOf_prog, h]
 rfl
def leafEq (P : Program) (t : TypeId) (x y : Value) : Option Bool :=
 match P.underlying t, x, y with
 | some .bool, .bool a, .bool b => some (a == b)
 | some (.int _), .int k a, .int k' b => match decide (k = k') with
  | true => some (a == b)
  | false => none
 | some .string, .string a, .string b => some (a == b)
 | _, _, _ => none
theorem leafEq_ok {P : Program} {t : TypeId} {x y : Value} {b : Bool} {d : Nat} (h : leafEq P t x y = some b) : pureOf P (Op.equalIn (d + 1) t x y) = some b := by
 unfold leafEq at h
 split at h
 ·rename_i p q hu
  cases h
  unfold Op.equalIn
  rw [pureOf_bind (pureOf_und hu)]
  rfl
 ·rename_i kk k p k' q hu
  split at h
  ·rename_i hk
   cases h
   have hk := of_decide_eq_true hk
   subst hk
   unfold Op.equalIn
   rw [pureOf_bind (pureOf_und hu)]
   simp only [if_true]
   rfl
  ·exact absurd h (by simp)
 ·rename_i p q hu
  cases h
  unfold Op.equalIn
  rw [pureOf_bind (pureOf_und hu)]
  rfl
 ·exact absurd h (by simp)
def partE (P : Program) (t : TypeId) (cs : Array Value) (off : Nat) : Option Value := pureOf P (part t cs off)
def fieldsEq (P : Program) (xs ys : Array Value) : List Field → Option Bool
 | [] => some true
 | f :: fs => match f.name == "_" with
  | true => fieldsEq P xs ys fs
  | false => match partE P f.type xs f.offset, partE P f.type ys f.offset with
   | some x, some y => match leafEq P f.type x y, fieldsEq P xs ys fs with
    | some b, some r => some (b && r)
    | _, _ => none
   | _, _ => none
section
variable {P : Program} {s : St} {ops : Array Oper} {i : Nat}
def eqG (P : Program) (ops : Array Oper) (i : Nat) (s : St) : Option (Bool × Bool) :=
 match (opG ops i).op with
 | .binOp op t x y _ => match ev s.tmps x, ev s.tmps y with
  | .agg xs, .agg ys => match P.underlying t with
   | some (.struct fs) => match P.stoodInHeld t, P.eqGuardType P.depth t, plain (.agg xs) && plain (.agg ys) with
    | false, false, true => match op with
     | .eql => (fieldsEq P xs ys fs.toList).map fun r => (false, r)
     | .neq => (fieldsEq P xs ys fs.toList).map fun r => (true, r)
     | _ => none
    | _, _, _ => none
   | _ => none
  | _, _ => none
 | _ => none
end
end Vx
end Go
set_option linter.unusedVariables false
set_option linter.unusedSimpArgs false
namespace Go
namespace Vx
section
variable {P : Program} {W0 w0 : World} {S : Own} {nt n0 : Nat} {s0 : St} {K : Cont} {c : Code} {i : Nat} {q : List Ent × St}
def HQ (P : Program) (w0 : World) (S : Own) (nt : Nat) (c : Code) (s0 : St) (i : Nat) (q : List Ent × St) (K : Cont) : Prop := HD P w0 S nt c s0 i q.1 q.2 K
def goQ (P : Program) (c : Code) (n i : Nat) (q : List Ent × St) : List Ent × St := (goD P (cOps c) n i q.1 q.2).getD q
def valQ (c : Code) (i : Nat) (v : Value) (q : List Ent × St) : List Ent × St := (.val v :: q.1, putE (cOps c) i q.2 (.val v))
def effQ (c : Code) (i : Nat) (v : Value) (σ' : AW) (q : List Ent × St) : List Ent × St := (.eff q.2.σ v σ' :: q.1, putE (cOps c) i q.2 (.eff q.2.σ v σ'))
def calQ (c : Code) (i : Nat) (v : Value) (q : List Ent × St) : List Ent × St := (.eff q.2.σ v q.2.σ :: q.1, putE (cOps c) i q.2 (.eff q.2.σ v q.2.σ))
theorem H.drawQ {s : St} (hk : HQ P w0 S nt c s 0 ([], s) K) : H P w0 S nt c s K := H.drawP hk
theorem HQ.goP (n : Nat) (h : (goD P (cOps c) n i q.1 q.2).isSome = true) (hk : HQ P w0 S nt c s0 (i + n) (goQ P c n i q) K) : HQ P w0 S nt c s0 i q K := by
 obtain ⟨r, hr⟩ := Option.isSome_iff_exists.1 h
 unfold goQ at hk
 rw [hr] at hk
 exact HD.go n hr hk
theorem HQ.boolP (b : Bool) (h0 : atG (cOps c) i q.2 = true) (h : aop P .none (ev q.2.tmps) (opG (cOps c) i) q.2.σ = some (.val (.bool b)))
  (h1 : b = true → HQ P w0 S nt c s0 (i + 1) (valQ c i (.bool true) q) K) (h2 : b = false → HQ P w0 S nt c s0 (i + 1) (valQ c i (.bool false) q) K) : HQ P w0 S nt c s0 i q K := HD.boolP b h0 h h1 h2
theorem HQ.callW (hS : Std W0 w0 S n0) {f : FuncId} {args2 : Array Value} {v : Value} (ps : List Shp) (hc : PTo P W0 f args2 (.returned v)) (h : (wkG P (cOps c) i q.2 ps, atG (cOps c) i q.2) = (some (f, args2.toList), true)) (h0 : args2.toList.all pureB = true)
  (hk : HQ P w0 S nt c s0 (i + 1) (calQ c i v q) K) : HQ P w0 S nt c s0 i q K := HD.callW hS ps hc h h0 hk
theorem HQ.callFW (hS : Std W0 w0 S n0) {f : FuncId} {argsS : Array Value} {vS : Value} {p p' : Nat} {tkS tkS' : List Nat} {obS obS' : List (Nat × AObj)} (v : Value) (nx : Nat) (tk : List Nat) (ob : List (Nat × AObj)) (g : List Nat) (ps : List Shp)
  (hc : FTo P W0 f argsS (mkW p tkS obS) (.returned vS) (mkW p' tkS' obS')) (h : (frG P (cOps c) i q.2 ps g, atG (cOps c) i q.2, renF (upF g q.2.σ.next) 12 vS) = (some (f, argsS.toList), true, some v))
  (hF : (frOs g q.2.σ obS, bkOs g q.2.σ (mkW p' tkS' obS') ob, frB g q.2.σ p p' obS tkS tkS' nx tk ob) = (wantO obS, wantO ob, true))
  (hk : HQ P w0 S nt c s0 (i + 1) (effQ c i v (mkW nx tk ob) q) K) : HQ P w0 S nt c s0 i q K := HD.callFW hS v nx tk ob g ps hc h hF hk
theorem HQ.idx {α : Type} {enc : α → Value} {l : List α} {j : Int} {x : α} (v : Value) (hx : at' l j = some x) (hv : enc x = v) (h : (atG (cOps c) i q.2, idxG P (cOps c) i q.2) = (true, some ((l.map enc).toArray, j)))
  (hk : HQ P w0 S nt c s0 (i + 1) (valQ c i (fpt 0 v.cells) q) K) : HQ P w0 S nt c s0 i q K := HD.idx v hx hv h hk
theorem HQ.len {es : Array Value} {n : Nat} (h : (atG (cOps c) i q.2, lenG P (cOps c) i q.2) = (true, some es)) (hn : es.size = n) (hk : HQ P w0 S nt c s0 (i + 1) (valQ c i (.int .i64 (n : Int)) q) K) : HQ P w0 S nt c s0 i q K := HD.len h hn hk
theorem HQ.effA {v : Value} {σ' : AW} (h : atG (cOps c) i q.2 = true ∧ aop P .none (ev q.2.tmps) (opG (cOps c) i) q.2.σ = some (.eff v σ')) (hk : HQ P w0 S nt c s0 (i + 1) (effQ c i v σ' q) K) : HQ P w0 S nt c s0 i q K := HD.effA h hk
theorem HQ.valA {v : Value} (h : atG (cOps c) i q.2 = true ∧ aop P .none (ev q.2.tmps) (opG (cOps c) i) q.2.σ = some (.val v)) (hk : HQ P w0 S nt c s0 (i + 1) (valQ c i v q) K) : HQ P w0 S nt c s0 i q K := HD.valA h hk
theorem HQ.calm [NoEx P S] (hc : drawB P nt c = true) (h1 : (Nat.beq i (cOps c).size && pairsB (bsets (cOps c).toList []) q.1.reverse q.1.reverse 0) = true) (h2 : q.1.map sIn = (q.1.map sIn).map (fun o => o.map fun _ => s0.σ)) (h3 : q.1.map sOut = (q.1.map sIn)) (hk : K .normal q.2) : HQ P w0 S nt c s0 i q K := HD.calm hc h1 h2 h3 hk
theorem HQ.done [NoEx P S] (hc : drawB P nt c = true) (h1 : Nat.beq i (cOps c).size = true) (h2 : (deffsA P (bsets (cOps c).toList []) (cOps c).toList q.1.reverse s0.tmps q.1.reverse 0).map (·.1) = (deffsA P (bsets (cOps c).toList []) (cOps c).toList q.1.reverse s0.tmps q.1.reverse 0).map (·.2)) (hk : K .normal q.2) : HQ P w0 S nt c s0 i q K := HD.done hc h1 h2 hk
end
end Vx
end Go
set_option linter.unusedVariables false
set_option linter.unusedSimpArgs false
namespace Go
namespace Vx
open Go.RowKit (Below)
def memOf (w : World) : Mem := fun b => match w.heap[b]? with
 | some (.cells c _ _) => some c
 | _ => none
theorem memOf_ok (w : World) (b : Nat) (a : Array Value) (h : memOf w b = some a) : ∃ c te fr, w.heap[b]? = some (.cells c te fr) ∧ Pre a c := by
 unfold memOf at h
 split at h
 ·rename_i c te fr hb
  cases h
  exact ⟨_, _, _, hb, Pre.refl _⟩
 ·exact absurd h (by simp)
theorem memCell_of {w : World} {a : Addr} {v : Value} (hs : a.spot = none) (h : w.cell? a = some v) : memCell (memOf w) a = some v := by
 unfold World.cell? at h
 unfold memCell memOf
 split at h
 ·rename_i c te fr hb
  rw [hb]
  simp only [hs, Option.isSome_none, Bool.false_eq_true, if_false]
  simpa [hs] using h
 ·exact absurd h (by simp)
section
variable {P : Program}
theorem PTo.calls {f : FuncId} {args args' : Array Value} {w : World} (h : PTo P w f args (.returned (.bool true))) (ha : args.size = args'.size ∧ ∀ (i : Nat) (v v' : Value), args[i]? = some v → args'[i]? = some v' → PRel (memOf w) v v') :
  Calls P f args' w fun e w' => e = .returned (.bool true) ∧ Below w.heap.size w w' := by
 refine (h (memOf w) w args' (Below.refl _ _) (memOf_ok w) ha).mono ?_
 rintro e w' ⟨hb, M', _, _, _, he⟩
 refine ⟨?_, hb⟩
 cases e with
 | returned v =>
  have he : PRel M' (.bool true) v := he
  cases he
  rfl
 | _ => exact he.elim
theorem PTo.closed {f : FuncId} {W0 : World} (h : ∀ w, Below W0.heap.size W0 w → Calls P f #[] w fun e w' => e = .returned (.bool true) ∧ Below w.heap.size w w') : PTo P W0 f #[] (.returned (.bool true)) := by
 intro M w args' hb hM ha
 have : args' = #[] := by
  have := ha.1
  cases args' with | mk l => cases l with
  | nil => rfl
  | cons => simp at this
 subst this
 refine (h w hb).mono ?_
 rintro e w' ⟨rfl, hb'⟩
 refine ⟨hb', M, fun _ _ h => h, fun _ _ h => .inl h, fun b a e => ?_, PRel.bool _⟩
 obtain ⟨c, te, fr, h1, h2⟩ := hM b a e
 refine ⟨c, te, fr, ?_, h2⟩
 rw [hb'.block b (Array.getElem?_eq_some_iff.1 h1).1]
 exact h1
end
def At (w : World) (cs : List Value) (j : Nat) (u : Value) : Prop := ∃ u', cs[j]? = some u' ∧ PRel (memOf w) u u'
def Opens (P : Program) (w : World) (t : TypeId) (k : Nat) {α : Type} (enc : α → Value) (ok : α → Prop) : Prop :=
 ∀ {H : Type} {e : TypeId × Value → H} {base fuel : Nat} {held : Bool} {cs : List Value} {x : DataW H × List MemPlace}, cs.length = k → DataW.trod e P w base (fun _ => true) held fuel t cs = some x →
  ∃ y : α, ok y ∧ ∀ (j : Nat) (u : Value), (enc y).cells[j]? = some u → At w cs j u
section
variable {P : Program} {w : World} {t : TypeId}
theorem Opens.int {k : IntKind} (ht : P.underlying t = some (.int k)) : Opens P w t 1 (encI k) (fun z => (Lit.int k z).wf = true) := by
 intro H e base fuel held cs x hn h
 obtain ⟨z, h1, _, h2⟩ := DataW.trod_int ht h
 subst h1
 refine ⟨z, h2, fun j u hj => ?_⟩
 have hj : (#[Value.int k z] : Array Value)[j]? = some u := hj
 obtain ⟨h3, h4⟩ := Array.getElem?_eq_some_iff.1 hj
 have : j = 0 := by simp at h3; omega
 subst this
 simp at h4
 subst h4
 exact ⟨_, rfl, .int _ _⟩
theorem Opens.bool (ht : P.underlying t = some .bool) : Opens P w t 1 encB (fun _ => True) := by
 intro H e base fuel held cs x hn h
 obtain ⟨z, h1, _⟩ := DataW.trod_bool ht h
 subst h1
 refine ⟨z, trivial, fun j u hj => ?_⟩
 have hj : (#[Value.bool z] : Array Value)[j]? = some u := hj
 obtain ⟨h3, h4⟩ := Array.getElem?_eq_some_iff.1 hj
 have : j = 0 := by simp at h3; omega
 subst this
 simp at h4
 subst h4
 exact ⟨_, rfl, .bool _⟩
theorem Opens.string (ht : P.underlying t = some .string) : Opens P w t 1 Value.string (fun s => s.size ≤ maxLen) := by
 intro H e base fuel held cs x hn h
 obtain ⟨s, h1, _, h2⟩ := DataW.trod_string ht h
 subst h1
 refine ⟨s, h2, fun j u hj => ?_⟩
 have hj : (#[Value.string s] : Array Value)[j]? = some u := hj
 obtain ⟨h3, h4⟩ := Array.getElem?_eq_some_iff.1 hj
 have : j = 0 := by simp at h3; omega
 subst this
 simp at h4
 subst h4
 exact ⟨_, rfl, .string _⟩
theorem add_add (a : Addr) (i j : Nat) : (a.add i).add j = a.add (i + j) := Go.Deep.add_add a i j
theorem slice_rel {α : Type} [Inhabited α] {e : TypeId} {k : Nat} {enc : α → Value} {ok : α → Prop} (ht : P.underlying t = some (.slice e)) (hk : P.cellsOf e = k) (hsz : ∀ y, (enc y).cells.size = k) (he : Opens P w e k enc ok)
  {H : Type} {en : TypeId × Value → H} {base fuel : Nat} {held : Bool} {A : Option Addr} {n c : Nat} {x : DataW H × List MemPlace} (h : DataW.trod en P w base (fun _ => true) held fuel t [.slice A n c] = some x) :
  ∃ l : List α, (l.length < 9223372036854775808 ∧ ∀ y, y ∈ l → ok y) ∧ PRel (memOf w) (ls k false enc l) (.slice A n c) := by
 rcases Go.Deep.open_slice ht h with ⟨hv, _⟩ | ⟨a, len, cap, m, n', D, Pl, hv, _, hl, hcm, hm, _, hi⟩
 ·simp only [List.cons.injEq, Value.slice.injEq, and_true] at hv
  obtain ⟨rfl, rfl, rfl⟩ := hv
  refine ⟨[], ⟨by simp, by simp⟩, ?_⟩
  exact PRel.lst (es := #[]) (c := 0) (A := none) (g := fun _ => .nilFunc) (Nat.le_refl _) (by simp) (fun _ => rfl) (by simp) (by simp) (by simp)
 ·simp only [List.cons.injEq, Value.slice.injEq, and_true] at hv
  obtain ⟨rfl, rfl, rfl⟩ := hv
  simp only [if_true] at hm
  subst hm
  rw [hk] at hi
  have hall : ∀ i, i < n → ∃ y : α, ok y ∧ ∀ (j : Nat) (u : Value), (enc y).cells[j]? = some u → ∃ u', w.cell? (a.add (i * k + j)) = some u' ∧ PRel (memOf w) u u' := by
   intro i hin
   obtain ⟨cs', hcs, ht'⟩ := hi i (by omega)
   obtain ⟨_, hcl, hat⟩ := World.cells?_some hcs
   obtain ⟨y, hok, hy⟩ := he hcl ht'
   refine ⟨y, hok, fun j u hj => ?_⟩
   obtain ⟨u', h1, h2⟩ := hy j u hj
   have hjk : j < k := by have := (Array.getElem?_eq_some_iff.1 hj).1; rw [hsz] at this; exact this
   have := hat j hjk
   rw [add_add] at this
   exact ⟨u', by rw [this]; exact h1, h2⟩
  obtain ⟨f, hf⟩ := Go.Deep.choose_lt hall
  have hl63 : n < 9223372036854775808 := by unfold maxLen at hcm; omega
  refine ⟨(List.range n).map f, ⟨by simpa using hl63, fun y hy => ?_⟩, ?_⟩
  ·obtain ⟨i, hi', rfl⟩ := List.mem_map.1 hy
   exact (hf i (by simpa using hi')).1
  have hsize : (((List.range n).map f).map enc).toArray.size = n := by simp
  have key : PRel (memOf w) (lst k false (((List.range n).map f).map enc).toArray) (.slice (some a) (((List.range n).map f).map enc).toArray.size m) := by
   refine PRel.lst (g := fun j => (w.cell? (a.add j)).getD .nilFunc) (by rw [hsize]; exact hl) (by simp) (by simp) (fun i v hv => ?_) (fun _ => ⟨a, rfl, fun j hj => ?_⟩) (fun i v j u hv hu => ?_)
   ·simp only [List.getElem?_toArray, List.getElem?_map, Option.map_eq_some_iff] at hv
    obtain ⟨y, _, rfl⟩ := hv
    exact hsz y
   ·rw [hsize] at hj
    have hk0 : 0 < k := by
     rcases Nat.eq_zero_or_pos k with h0 | h0
     ·subst h0; simp at hj
     ·exact h0
    have hq : j / k < n := (Nat.div_lt_iff_lt_mul hk0).2 hj
    have hr : j % k < k := Nat.mod_lt _ hk0
    obtain ⟨u, hu⟩ : ∃ u, (enc (f (j / k))).cells[j % k]? = some u := ⟨_, Array.getElem?_eq_getElem (by rw [hsz]; exact hr)⟩
    obtain ⟨u', h1, _⟩ := (hf (j / k) hq).2 _ _ hu
    have e1 : j / k * k + j % k = j := by rw [Nat.mul_comm]; exact Nat.div_add_mod j k
    rw [e1] at h1
    show memCell (memOf w) (a.add j) = some ((w.cell? (a.add j)).getD .nilFunc)
    rw [h1]
    have hsp : (a.add j).spot = none := by
     unfold World.cell? at h1
     split at h1
     ·rename_i cc te fr hb
      cases hs : (a.add j).spot with
      | none => rfl
      | some s => simp [hs] at h1
     ·exact absurd h1 (by simp)
    exact memCell_of hsp h1
   ·simp only [List.getElem?_toArray, List.getElem?_map, Option.map_eq_some_iff] at hv
    obtain ⟨y, ⟨i', hi', rfl⟩, rfl⟩ := hv
    have hin : i < n := by have := (List.getElem?_eq_some_iff.1 hi').1; simpa using this
    have : i' = i := by rw [List.getElem?_range hin] at hi'; simpa using hi'.symm
    subst this
    obtain ⟨u', h1, h2⟩ := (hf i' hin).2 j u hu
    show PRel (memOf w) u ((w.cell? (a.add (i' * k + j))).getD .nilFunc)
    rw [h1]
    exact h2
  rw [hsize] at key
  exact key
theorem Opens.slice {α : Type} [Inhabited α] {e : TypeId} {k : Nat} {enc : α → Value} {ok : α → Prop} (ht : P.underlying t = some (.slice e)) (hk : P.cellsOf e = k) (hsz : ∀ y, (enc y).cells.size = k) (he : Opens P w e k enc ok) :
  Opens P w t 1 (fun l : List α => ls k false enc l) (fun l => l.length < 9223372036854775808 ∧ ∀ y, y ∈ l → ok y) := by
 intro H en base fuel held cs x hn h
 have hsl : ∃ A n c, cs = [.slice A n c] := by
  rcases Go.Deep.open_slice ht h with ⟨hv, _⟩ | ⟨a, len, cap, m, n', D, Pl, hv, _⟩
  ·exact ⟨_, _, _, hv⟩
  ·exact ⟨_, _, _, hv⟩
 obtain ⟨A, n, c, rfl⟩ := hsl
 obtain ⟨l, h1, h2⟩ := slice_rel ht hk hsz he h
 refine ⟨l, h1, fun j u hj => ?_⟩
 have hj : (#[ls k false enc l] : Array Value)[j]? = some u := hj
 obtain ⟨h3, h4⟩ := Array.getElem?_eq_some_iff.1 hj
 have : j = 0 := by simp at h3; omega
 subst this
 simp at h4
 subst h4
 exact ⟨_, rfl, h2⟩
theorem Opens.field {α : Type} {k off : Nat} {enc : α → Value} {ok : α → Prop} (he : Opens P w t k enc ok) (hk : P.cellsOf t = k) {cs : List Value} (hn : off + k ≤ cs.length)
  {H : Type} {en : TypeId × Value → H} {base fuel : Nat} {held : Bool} {xs : List (DataW H × List MemPlace)} {i : Nat} (hi : i < xs.length) (h : DataW.trod en P w base (fun _ => true) held fuel t ((cs.drop off).take (P.cellsOf t)) = xs[i]?) :
  ∃ y : α, ok y ∧ ∀ (j : Nat) (u : Value), (enc y).cells[j]? = some u → At w cs (off + j) u := by
 rw [hk, List.getElem?_eq_getElem hi] at h
 obtain ⟨y, h1, h2⟩ := he (by rw [List.length_take, List.length_drop]; omega) h
 refine ⟨y, h1, fun j u hj => ?_⟩
 obtain ⟨u', h3, h4⟩ := h2 j u hj
 refine ⟨u', ?_, h4⟩
 rw [List.getElem?_take] at h3
 split at h3
 ·rw [List.getElem?_drop] at h3
  exact h3
 ·exact absurd h3 (by simp)
theorem at_nil {cs : List Value} {o : Nat} : ∀ (j : Nat) (u : Value), ([] : List Value)[j]? = some u → At w cs (o + j) u := by simp
theorem at_cons {cs : List Value} {o : Nat} {v : Value} {l : List Value} (h : At w cs o v) (hl : ∀ (j : Nat) (u : Value), l[j]? = some u → At w cs (o + 1 + j) u) : ∀ (j : Nat) (u : Value), (v :: l)[j]? = some u → At w cs (o + j) u := by
 intro j u hj
 cases j with
 | zero =>
  simp at hj
  subst hj
  exact h
 | succ j =>
  have := hl j u (by simpa using hj)
  rwa [show o + 1 + j = o + (j + 1) by omega] at this
theorem at_all {cs l : List Value} (h : ∀ (j : Nat) (u : Value), l[j]? = some u → At w cs (0 + j) u) (j : Nat) (u : Value) (hj : (Value.agg l.toArray).cells[j]? = some u) : At w cs j u := by
 have := h j u (by simpa [Value.cells] using hj)
 rwa [Nat.zero_add] at this
theorem agg_rel {cs : Array Value} {l : List Value} (hn : cs.size = l.length) (h : ∀ (j : Nat) (u : Value), l[j]? = some u → At w cs.toList j u) : PRel (memOf w) (.agg l.toArray) (.agg cs) := by
 refine .agg (by simp [hn]) fun i v v' h1 h2 => ?_
 obtain ⟨u', h3, h4⟩ := h i v (by simpa using h1)
 have : cs[i]? = some u' := by simpa using h3
 rw [h2] at this
 cases this
 exact h4
section
variable {H : Type} {en : TypeId × Value → H} {base : Nat} {held : Bool} {r : Reach} {b0 : Nat} {v : Value} {d : DataW H} {p : List MemPlace}
theorem arg_slice {α : Type} [Inhabited α] {e : TypeId} {k : Nat} {enc : α → Value} {ok : α → Prop} (ht : P.underlying t = some (.slice e)) (hk : P.cellsOf e = k) (hsz : ∀ y, (enc y).cells.size = k) (he : Opens P w e k enc ok)
  (hv : Value.okWide P w r b0 t v) (h : DataW.Trod en P w base (fun _ => true) held t v d p) : ∃ l : List α, (l.length < 9223372036854775808 ∧ ∀ y, y ∈ l → ok y) ∧ PRel (memOf w) (ls k false enc l) v := by
 obtain ⟨A, n, c, rfl⟩ := WideShapes.okWide_slice ht hv
 obtain ⟨fuel, hf⟩ := h
 exact slice_rel ht hk hsz he hf
theorem arg_array {α : Type} {n : Nat} {e : TypeId} {enc : α → Value} {ok : α → Prop} [Inhabited α] (ht : P.underlying t = some (.array n e)) (hk : P.cellsOf e = 1) (hn : P.cellsOf t = n) (h1 : ∀ y, (enc y).cells[0]? = some (enc y)) (he : Opens P w e 1 enc ok)
  (hv : Value.okWide P w r b0 t v) (h : DataW.Trod en P w base (fun _ => true) held t v d p) : ∃ f : Nat → α, (∀ i, i < n → ok (f i)) ∧ PRel (memOf w) (.agg ((List.range n).map fun i => enc (f i)).toArray) v := by
 obtain ⟨cs, rfl, hcs⟩ : ∃ cs, v = .agg cs ∧ cs.size = P.cellsOf t := by
  simp only [Value.okWide, ht] at hv
  obtain ⟨cs, h1, h2, _⟩ := hv
  exact ⟨cs, h1, h2⟩
 obtain ⟨fuel, hf⟩ := h
 have hf : DataW.trod en P w base (fun _ => true) held fuel t cs.toList = some (d, p) := hf
 obtain ⟨xs, m, _, _, _, hxl, hx⟩ := DataW.trod_array ht hf
 have hall : ∀ i, i < n → ∃ y : α, ok y ∧ At w cs.toList i (enc y) := by
  intro i hi
  have hx' := hx i hi
  rw [hk, Nat.mul_one, List.getElem?_eq_getElem (by omega)] at hx'
  obtain ⟨y, a, b⟩ := he (by rw [List.length_take, List.length_drop, Array.length_toList, hcs, hn]; omega) hx'
  obtain ⟨u', c1, c2⟩ := b 0 _ (h1 y)
  refine ⟨y, a, u', ?_, c2⟩
  rw [List.getElem?_take, if_pos (by omega), List.getElem?_drop] at c1
  exact c1
 obtain ⟨f, hf'⟩ := Go.Deep.choose_lt hall
 refine ⟨f, fun i hi => (hf' i hi).1, agg_rel (by rw [hcs, hn]; simp) fun j u hj => ?_⟩
 rw [List.getElem?_map, Option.map_eq_some_iff] at hj
 obtain ⟨i, hi, rfl⟩ := hj
 have hjn : j < n := by have := (List.getElem?_eq_some_iff.1 hi).1; simpa using this
 rw [List.getElem?_range hjn] at hi
 cases hi
 exact (hf' j hjn).2
end
theorem wf_u8 {z : Int} (h : (Lit.int .u8 z).wf = true) : 0 ≤ z ∧ z < 256 := by
 have e1 : IntKind.u8.min = 0 := by decide
 have e2 : IntKind.u8.max = 255 := by decide
 simp [Lit.wf, e1, e2] at h
 omega
theorem wf_u32 {z : Int} (h : (Lit.int .u32 z).wf = true) : 0 ≤ z ∧ z < 4294967296 := by
 have e1 : IntKind.u32.min = 0 := by decide
 have e2 : IntKind.u32.max = 4294967295 := by decide
 simp [Lit.wf, e1, e2] at h
 omega
def Rels (M : Mem) : List Value → List Value → Prop
 | [], [] => True
 | a :: l, b :: m => PRel M a b ∧ Rels M l m
 | _, _ => False
theorem Rels.arr {M : Mem} : ∀ {l m : List Value}, Rels M l m → l.toArray.size = m.toArray.size ∧ ∀ (i : Nat) (v v' : Value), l.toArray[i]? = some v → m.toArray[i]? = some v' → PRel M v v'
 | [], [], _ => ⟨rfl, by simp⟩
 | a :: l, b :: m, h => by
  obtain ⟨h1, h2⟩ := Rels.arr h.2
  refine ⟨by simpa using h1, fun i v v' e1 e2 => ?_⟩
  cases i with
  | zero => simp at e1 e2; subst e1; subst e2; exact h.1
  | succ i => exact h2 i v v' (by simpa using e1) (by simpa using e2)
 | [], _ :: _, h => h.elim
 | _ :: _, [], h => h.elim
theorem encI_cells (k : IntKind) (z : Int) : (encI k z).cells.size = 1 := rfl
end
end Vx
end Go
set_option linter.unusedVariables false
set_option linter.unusedSimpArgs false
namespace Go
namespace Vx
section
variable {P : Program} {w0 : World} {S : Own} [NoEx P S]
structure DrawnB (bad : Nat → Bool) (P : Program) (X : Facts) (call : CallR) (nt : Nat) (ops : Array Oper) (ns : List Ent) (t0 : Tm) (σ0 : AW) : Prop where
 ok : okRegion ops (bsets ops.toList []) ops.toList 0 = true
 all : ops.toList.all (okOp nt) = true
 len : ns.length = ops.toList.length
 step : ∀ i o, ops.toList[i]? = some o → bad i = false → ∃ n, ns[i]? = some n ∧ StepOk P X call ops (tseq ops.toList ns t0 i) (sseq ns σ0 i) o n
 effs : ∀ e a b c, ns[e]? = some (.eff a b c) → ∀ i o n, ops.toList[i]? = some o → ns[i]? = some n → bad i = false → e = i ∨ ahead (bsets ops.toList []) e i = true ∨ ahead (bsets ops.toList []) i e = true ∨
  (match n with | .val v => againP P X (tseq ops.toList ns t0 i) o v (if e < i then a else c) | .skip => True | .eff _ _ _ => False)
 nb : ∀ i, isEff ns i → bad i = false
variable {bad : Nat → Bool}
variable {X : Facts} {call : CallR} {nt : Nat} {ops : Array Oper} {ns : List Ent} {t0 : Tm} {σ0 : AW}
theorem DrawnB.apart_or (H : DrawnB bad P X call nt ops ns t0 σ0) {i j : Nat} {o p : Oper} (hi : ops.toList[i]? = some o) (hj : ops.toList[j]? = some p) (h : i < j) :
  ahead (bsets ops.toList []) i j = true ∨ Oper.apart ops o p = true := by
 have := (okRegion_at H.ok i o hi).2 j p h hj
 simpa using this
theorem DrawnB.slot (H : DrawnB bad P X call nt ops ns t0 σ0) {D : Nat → Bool} {i : Nat} {o : Oper} (hi : ops.toList[i]? = some o) (hr : Ready ops.toList D i) {x : Nat} (hx : x < nt) (hlook : x ∈ o.looksAt ops) :
  (TD ops.toList ns t0 D ops.toList.length).gh x = (tseq ops.toList ns t0 i).gh x := by
 have hil : i < ops.toList.length := by
  rcases Nat.lt_or_ge i ops.toList.length with g | g
  ·exact g
  ·rw [List.getElem?_eq_none g] at hi; exact absurd hi (by simp)
 have h1 := TD_seq H.len (t := t0) (i := i) (k := ops.toList.length) (Nat.le_refl _)
 rw [Nat.min_eq_left (by omega)] at h1
 rw [← h1]
 refine TD_congr H.all fun j p hj hp hpd => ?_
 rcases Nat.lt_trichotomy j i with h | h | h
 ·have ha : ahead (bsets ops.toList []) j i = true := by
   rcases H.apart_or hp hi h with a | a
   ·exact a
   ·exact absurd hlook ((Oper.apart_spec a).1 x hpd)
  rw [hr.before (by omega) ha]
  simp [h]
 ·subst h
  rw [hr.notIn]
  simp
 ·have ha : ahead (bsets ops.toList []) i j = true := by
   rcases H.apart_or hi hp h with a | a
   ·exact a
   ·exact absurd hlook ((Oper.apart_spec a).2.2 x hpd)
  rw [hr.behind ha]
  have : ¬ j < i := by omega
  simp [this]
theorem DrawnB.evs (H : DrawnB bad P X call nt ops ns t0 σ0) {D : Nat → Bool} {i : Nat} {o : Oper} (hi : ops.toList[i]? = some o) (hr : Ready ops.toList D i) {x : Operand} (hx : x ∈ o.op.operands) :
  ev (TD ops.toList ns t0 D ops.toList.length) x = ev (tseq ops.toList ns t0 i) x := by
 cases x with
 | tmp y =>
  have hok : okOp nt o = true := by
   have := H.all
   rw [List.all_eq_true] at this
   exact this o (List.mem_of_getElem? hi)
  simp only [okOp, Bool.and_eq_true, List.all_eq_true] at hok
  have hy : y < nt := blt_t (hok.1 (.tmp y) (by rw [Array.mem_toList_iff]; exact hx))
  simp only [ev]
  exact Tm.gh_get (H.slot hi hr hy (operand_looks hx))
 | const v => rfl
 | global g => rfl
 | func f => rfl
theorem DrawnB.seen (H : DrawnB bad P X call nt ops ns t0 σ0) {D : Nat → Bool} {i : Nat} {o : Oper} (hi : ops.toList[i]? = some o) (hr : Ready ops.toList D i) (h : o.op.operands.toList.all (seenO (tseq ops.toList ns t0 i)) = true) :
  o.op.operands.toList.all (seenO (TD ops.toList ns t0 D ops.toList.length)) = true := by
 rw [List.all_eq_true] at h ⊢
 intro x hx
 have h1 := h x hx
 have hx' : x ∈ o.op.operands := by rw [← Array.mem_toList_iff]; exact hx
 cases x with
 | tmp y =>
  have hok : okOp nt o = true := by
   have := H.all
   rw [List.all_eq_true] at this
   exact this o (List.mem_of_getElem? hi)
  simp only [okOp, Bool.and_eq_true, List.all_eq_true] at hok
  have hy : y < nt := blt_t (hok.1 (.tmp y) hx)
  simp only [seenO] at h1 ⊢
  rw [Tm.gh_has (H.slot hi hr hy (operand_looks hx'))]
  exact h1
 | const v => rfl
 | global g => rfl
 | func f => rfl
theorem DrawnB.wanted (H : DrawnB bad P X call nt ops ns t0 σ0) {D : Nat → Bool} {i : Nat} {o : Oper} (hi : ops.toList[i]? = some o) (hr : Ready ops.toList D i) :
  wantedA ops (TD ops.toList ns t0 D ops.toList.length) o = wantedA ops (tseq ops.toList ns t0 i) o := by
 unfold wantedA
 cases hg : o.guard with
 | none => rfl
 | some q =>
  obtain ⟨j, want⟩ := q
  simp only
  cases hd : (ops[j]?).bind (·.dst) with
  | none => rfl
  | some d =>
   have hdn : d < nt := by
    cases hj : ops[j]? with
    | none => rw [hj] at hd; simp at hd
    | some p =>
     rw [hj] at hd
     simp only [Option.bind_some] at hd
     have hokp : okOp nt p = true := by
      have := H.all
      rw [List.all_eq_true] at this
      exact this p (by rw [Array.mem_toList_iff]; exact Array.mem_of_getElem? hj)
     have := okOp_dst hokp
     rw [hd] at this
     exact blt_t this
   have hlook : d ∈ o.looksAt ops := by
    unfold Oper.looksAt
    refine List.mem_append.2 (.inr ?_)
    rw [hg]
    simp only [hd]
    simp
   simp only
   rw [Tm.gh_get (H.slot hi hr hdn hlook), Tm.gh_has (H.slot hi hr hdn hlook)]
theorem DrawnB.eff_order (H : DrawnB bad P X call nt ops ns t0 σ0) {e f : Nat} (he : isEff ns e) (hf : isEff ns f) (h : e < f) : ahead (bsets ops.toList []) e f = true := by
 obtain ⟨a, b, c, hne⟩ := he
 obtain ⟨a2, b2, c2, hnf⟩ := hf
 have hlf : f < ops.toList.length := by
  rw [← H.len]
  rcases Nat.lt_or_ge f ns.length with g | g
  ·exact g
  ·rw [List.getElem?_eq_none g] at hnf; exact absurd hnf (by simp)
 have h2 := H.effs e a b c hne f _ _ (List.getElem?_eq_getElem hlf) hnf (H.nb f ⟨_, _, _, hnf⟩)
 rcases h2 with h2 | h2 | h2 | h2
 ·omega
 ·exact h2
 ·have := ahead_lt H.ok h2; omega
 ·simp at h2
theorem DrawnB.state (H : DrawnB bad P X call nt ops ns t0 σ0) {i : Nat} {a v c} (hn : ns[i]? = some (.eff a v c)) : a = sseq ns σ0 i ∧ sseq ns σ0 (i + 1) = c := by
 have hil : i < ops.toList.length := by
  rw [← H.len]
  rcases Nat.lt_or_ge i ns.length with g | g
  ·exact g
  ·rw [List.getElem?_eq_none g] at hn; exact absurd hn (by simp)
 obtain ⟨n, hn', hs⟩ := H.step i _ (List.getElem?_eq_getElem hil) (H.nb i ⟨_, _, _, hn⟩)
 rw [hn] at hn'
 cases hn'
 refine ⟨hs.1, ?_⟩
 rw [sseq_succ hn]
 rfl
theorem DrawnB.sd_eff (H : DrawnB bad P X call nt ops ns t0 σ0) {D : Nat → Bool} {i : Nat} (he : isEff ns i) (hr : Ready ops.toList D i) (hil : i < ops.toList.length) :
  SD ns σ0 D ops.toList.length = sseq ns σ0 i ∧ ∀ c, (∃ a v, ns[i]? = some (.eff a v c)) → SD ns σ0 (addD D i) ops.toList.length = c := by
 have before : ∀ j, j < i → isEff ns j → D j = true := fun j hj hje => hr.before (by omega) (H.eff_order hje he hj)
 have after : ∀ j, i < j → isEff ns j → D j = false := fun j hj hje => hr.behind (H.eff_order he hje hj)
 constructor
 ·rw [SD_upto (k := i) (by omega) fun j a _ c => by
   rcases Nat.eq_or_lt_of_le a with e | e
   ·rw [← e]; exact hr.notIn
   ·exact after j e c]
  exact SD_seq (by rw [H.len]; omega) before
 ·rintro c ⟨a, v, hn⟩
  rw [SD_upto (k := i + 1) (by omega) fun j a _ c => by
   unfold addD
   rw [if_neg (by omega)]
   exact after j (by omega) c]
  rw [SD_seq (by rw [H.len]; omega) fun j a c => by
   unfold addD
   split
   ·rfl
   ·exact before j (by omega) c]
  exact (H.state hn).2
theorem DrawnB.sd_val (H : DrawnB bad P X call nt ops ns t0 σ0) {D : Nat → Bool} {i : Nat} {o : Oper} {v : Value} (hi : ops.toList[i]? = some o) (hn : ns[i]? = some (.val v)) (hbad : bad i = false) (hr : Ready ops.toList D i) :
  aopT P X (tseq ops.toList ns t0 i) o (SD ns σ0 D ops.toList.length) = some (.val v) := by
 have hil : i < ops.toList.length := by
  rcases Nat.lt_or_ge i ops.toList.length with g | g
  ·exact g
  ·rw [List.getElem?_eq_none g] at hi; exact absurd hi (by simp)
 obtain ⟨n', hn', hs⟩ := H.step i o hi hbad
 rw [hn] at hn'
 cases hn'
 have h0 := hs.2
 have noti : ¬ isEff ns i := by rintro ⟨a, b, c, h⟩; rw [hn] at h; simp at h
 -- the check of the effect e against i
 have chk : ∀ e a b c, ns[e]? = some (.eff a b c) → ahead (bsets ops.toList []) e i = false → ahead (bsets ops.toList []) i e = false →
   againP P X (tseq ops.toList ns t0 i) o v (if e < i then sseq ns σ0 e else sseq ns σ0 (e + 1)) := by
  intro e a b c he h1 h2
  have g := H.effs e a b c he i o _ hi hn hbad
  obtain ⟨s1, s2⟩ := H.state he
  rcases g with g | g | g | g
  ·subst g; rw [hn] at he; simp at he
  ·rw [h1] at g; simp at g
  ·rw [h2] at g; simp at g
  ·simp only at g
   rw [s1, ← s2] at g
   exact g
 -- is there an effect ahead of i that is not done?
 by_cases hA : ∃ e, e < i ∧ isEff ns e ∧ D e = false
 ·-- the least one
  have least : ∃ e, e < i ∧ isEff ns e ∧ D e = false ∧ ∀ f, f < e → isEff ns f → D f = true := by
   obtain ⟨e, h1, h2, h3⟩ := hA
   induction e using Nat.strongRecOn with
   | _ e ih =>
    by_cases hf : ∃ f, f < e ∧ isEff ns f ∧ D f = false
    ·obtain ⟨f, f1, f2, f3⟩ := hf
     exact ih f f1 (by omega) f2 f3
    ·refine ⟨e, h1, h2, h3, fun f g1 g2 => ?_⟩
     cases hfd : D f with
     | true => rfl
     | false => exact absurd ⟨f, g1, g2, hfd⟩ hf
  obtain ⟨e, e1, e2, e3, e4⟩ := least
  have after : ∀ j, e < j → isEff ns j → D j = false := by
   intro j hj hje
   cases hd : D j with
   | false => rfl
   | true =>
    have := hr.closed.ahead j hd (H.eff_order e2 hje hj)
    rw [e3] at this
    exact absurd this (by simp)
  have hsd : SD ns σ0 D ops.toList.length = sseq ns σ0 e := by
   rw [SD_upto (k := e) (by omega) fun j a _ c => by
    rcases Nat.eq_or_lt_of_le a with q | q
    ·rw [← q]; exact e3
    ·exact after j q c]
   exact SD_seq (by rw [H.len]; omega) e4
  rw [hsd]
  obtain ⟨a, b, c, he⟩ := e2
  have h1 : ahead (bsets ops.toList []) e i = false := by
   cases hh : ahead (bsets ops.toList []) e i with
   | false => rfl
   | true => have := hr.before (by omega) hh; rw [e3] at this; exact absurd this (by simp)
  have h2 : ahead (bsets ops.toList []) i e = false := by
   cases hh : ahead (bsets ops.toList []) i e with
   | false => rfl
   | true => have := ahead_lt H.ok hh; omega
  have := chk e a b c he h1 h2
  rw [if_pos e1] at this
  exact again_eq this h0
 ·have before : ∀ j, j < i → isEff ns j → D j = true := by
   intro j hj hje
   cases hd : D j with
   | true => rfl
   | false => exact absurd ⟨j, hj, hje, hd⟩ hA
  by_cases hB : ∃ e, i < e ∧ e < ops.toList.length ∧ isEff ns e ∧ D e = true
  ·-- the last one
   have last : ∃ e, i < e ∧ e < ops.toList.length ∧ isEff ns e ∧ D e = true ∧ ∀ f, e < f → f < ops.toList.length → isEff ns f → D f = false := by
    obtain ⟨e, h1, h2, h3, h4⟩ := hB
    obtain ⟨m, hm⟩ : ∃ m, m = ops.toList.length - e := ⟨_, rfl⟩
    induction m using Nat.strongRecOn generalizing e with
    | _ m ih =>
     by_cases hf : ∃ f, e < f ∧ f < ops.toList.length ∧ isEff ns f ∧ D f = true
     ·obtain ⟨f, f1, f2, f3, f4⟩ := hf
      exact ih (ops.toList.length - f) (by omega) f (by omega) f2 f3 f4 rfl
     ·refine ⟨e, h1, h2, h3, h4, fun f g1 g2 g3 => ?_⟩
      cases hfd : D f with
      | false => rfl
      | true => exact absurd ⟨f, g1, g2, g3, hfd⟩ hf
   obtain ⟨e, e1, e2, e3, e4, e5⟩ := last
   have upto : ∀ j, j < e + 1 → isEff ns j → D j = true := by
    intro j hj hje
    rcases Nat.eq_or_lt_of_le (Nat.le_of_lt_succ hj) with q | q
    ·rw [q]; exact e4
    ·exact hr.closed.ahead e e4 (H.eff_order hje e3 q)
   have hsd : SD ns σ0 D ops.toList.length = sseq ns σ0 (e + 1) := by
    rw [SD_upto (k := e + 1) (by omega) fun j a b c => e5 j (by omega) b c]
    exact SD_seq (by rw [H.len]; omega) upto
   rw [hsd]
   obtain ⟨a, b, c, he⟩ := e3
   have h1 : ahead (bsets ops.toList []) e i = false := by
    cases hh : ahead (bsets ops.toList []) e i with
    | false => rfl
    | true => have := ahead_lt H.ok hh; omega
   have h2 : ahead (bsets ops.toList []) i e = false := by
    cases hh : ahead (bsets ops.toList []) i e with
    | false => rfl
    | true => have := hr.behind hh; rw [e4] at this; exact absurd this (by simp)
   have := chk e a b c he h1 h2
   rw [if_neg (by omega)] at this
   exact again_eq this h0
  ·have hsd : SD ns σ0 D ops.toList.length = sseq ns σ0 i := by
    rw [SD_upto (k := i) (by omega) fun j a b c => by
     rcases Nat.eq_or_lt_of_le a with q | q
     ·rw [← q]; exact hr.notIn
     ·cases hd : D j with
      | false => rfl
      | true => exact absurd ⟨j, q, b, c, hd⟩ hB]
    exact SD_seq (by rw [H.len]; omega) before
   rw [hsd]
   exact h0
theorem DrawnB.hlast (H : DrawnB bad P X call nt ops ns t0 σ0) {D : Nat → Bool} {i : Nat} {o : Oper} (hi : ops.toList[i]? = some o) (hr : Ready ops.toList D i) :
  ∀ j p d, i < j → ops.toList[j]? = some p → o.dst = some d → p.dst = some d → D j = false := by
 intro j p d hj hp hd hpd
 rcases H.apart_or hi hp hj with a | a
 ·exact hr.behind a
 ·exact absurd hpd ((Oper.apart_spec a).2.1 d hd)
theorem DrawnB.one (H : DrawnB bad P X call nt ops ns t0 σ0) (hc : CallsOkR P w0 S call) (hX : FactsOk P X S) {s : St} {ρ : Rho} {D : Nat → Bool} {a : Act} {w : World} (hI : Inv w0 S nt ops ns t0 σ0 s ρ D a w) {i : Nat} (hil : i < ops.toList.length)
  (hr : Ready ops.toList D i) (hbad : bad i = false) {K : Act → World → Prop} {Q : Exit → Act → World → Prop} (hK : ∀ a w, Inv w0 S nt ops ns t0 σ0 s ρ (addD D i) a w → K a w) : wpOp P ops Q i K a w := by
 have hi : ops.toList[i]? = some ops.toList[i] := List.getElem?_eq_getElem hil
 generalize ops.toList[i] = o at hi
 have hi' : ops[i]? = some o := by rw [← Array.getElem?_toList]; exact hi
 obtain ⟨n, hn, hs⟩ := H.step i o hi hbad
 obtain ⟨_, ρ', hle, hR, hT, hD⟩ := hI
 have hok : okOp nt o = true := by
  have := H.all
  rw [List.all_eq_true] at this
  exact this o (List.mem_of_getElem? hi)
 have hdst := okOp_dst hok
 have hwant : ∀ b, wantedA ops (tseq ops.toList ns t0 i) o = some b → Region.wanted o (yielded ops a.tmps) = b := fun b hb => wanted_eq hT H.all ((H.wanted hi hr).trans hb)
 have hev : o.op.operands.toList.all (seenO (tseq ops.toList ns t0 i)) = true → ∀ x ∈ o.op.operands, VRel ρ' (ev (tseq ops.toList ns t0 i) x) (a.eval x) := by
  intro hseen x hx
  rw [← H.evs hi hr hx]
  exact ev_rels hT hok (H.seen hi hr hseen) x hx
 -- the slots behind it
 have slots : ∀ {ρ2 : Rho} {v' : Value}, ρ'.le ρ2 → VRel ρ2 n.value v' → TRel ρ2 nt (TD ops.toList ns t0 (addD D i) ops.toList.length) (a.put o.dst v').tmps := by
  intro ρ2 v' hle2 hv
  have h1 := put_rel (hT.mono hle2) hdst hv
  refine ⟨h1.size, fun x hx hh => ?_⟩
  have hg := TD_add (t := t0) (D := D) (x := x) H.all hi hn (H.hlast hi hr) hil
  rw [Tm.gh_get hg]
  rw [Tm.gh_has hg] at hh
  exact h1.at_ x hx hh
 have mk : ∀ {ρ2 : Rho} {v' : Value} {w' : World}, ρ'.le ρ2 → VRel ρ2 n.value v' → R w0 S (SD ns σ0 (addD D i) ops.toList.length) ρ2 w' → K (a.put o.dst v') w' := by
  intro ρ2 v' w' hle2 hv hR2
  exact hK _ _ ⟨hr.closed', ρ2, Rho.le_trans hle hle2, hR2, slots hle2 hv, by rw [put_defers]; exact hD.mono hle2⟩
 unfold wpOp
 rw [hi']
 simp only
 cases n with
 | skip =>
  rw [hwant false hs]
  simp only [Bool.false_eq_true, if_false]
  refine mk ρ'.le_refl (undef_rel _) ?_
  rw [SD_congr (D' := D) fun j hj he => by
   unfold addD
   split
   ·rename_i e; subst e; obtain ⟨x, y, z, h⟩ := he; rw [hn] at h; simp at h
   ·rfl]
  exact hR
 | val v =>
  obtain ⟨hw1, hop1⟩ := hs
  rw [hwant true hw1]
  simp only [if_true]
  refine .inl ?_
  unfold Oper.wp
  have hsd := H.sd_val hi hn hbad hr
  have hout := aop_sound hR hX (aopT_eq hsd).2 (e' := a.eval) (hev (aopT_eq hop1).1)
  generalize (execOp a.eval o).run P w = res at hout
  cases hout with
  | val hle2 hv hR2 =>
   refine mk hle2 hv ?_
   rw [SD_congr (D' := D) fun j hj he => by
    unfold addD
    split
    ·rename_i e; subst e; obtain ⟨x, y, z, h⟩ := he; rw [hn] at h; simp at h
    ·rfl]
   exact hR2
 | eff σ1 v σ2 =>
  obtain ⟨rfl, hw1, hop⟩ := hs
  rw [hwant true hw1]
  simp only [if_true]
  refine .inl ?_
  unfold Oper.wp
  obtain ⟨hsd1, hsd2⟩ := H.sd_eff ⟨_, _, _, hn⟩ hr hil
  have hsd2 := hsd2 σ2 ⟨_, _, hn⟩
  rw [hsd1] at hR
  rcases hop with hop | ⟨f, args, hop, hcall⟩
  ·have hout := aop_sound hR hX (aopT_eq hop).2 (e' := a.eval) (hev (aopT_eq hop).1)
   generalize (execOp a.eval o).run P w = res at hout
   cases hout with
   | eff hle2 hv hR2 => exact mk hle2 hv (by rw [hsd2]; exact hR2)
   | skip hle2 hR2 => exact mk hle2 (undef_rel _) (by rw [hsd2]; exact hR2)
  ·have hout := aop_sound hR hX (aopT_eq hop).2 (e' := a.eval) (hev (aopT_eq hop).1)
   generalize (execOp a.eval o).run P w = res at hout
   cases hout with
   | call ha hR2 =>
    refine Calls.mono (hc _ _ _ _ _ hcall _ _ _ ha hR2) ?_
    rintro e w' ⟨ρ2, hle2, he, hR3⟩
    cases e with
    | returned v' => exact mk hle2 he (by rw [hsd2]; exact hR3)
    | panicked ch => exact he.elim
    | outgrown => exact he.elim
theorem DrawnB.pan (H : DrawnB bad P X call nt ops ns t0 σ0) (hc : CallsOkR P w0 S call) (hX : FactsOk P X S) {j : Nat} (hbj : bad j = true) (hj : ∀ e, isEff ns e → ahead (bsets ops.toList []) e j = true) {o : Oper} (ho : ops.toList[j]? = some o)
  {f : FuncId} {args : Array Value} {ch : List PanicEntry} {σ' : AW} (hw : wantedA ops (tseq ops.toList ns t0 j) o = some true) (hop : aopT P X (tseq ops.toList ns t0 j) o (sseq ns σ0 ops.toList.length) = some (.call f args)) (hcall : call f args (sseq ns σ0 ops.toList.length) (.panicked ch) σ')
  {s : St} {ρ : Rho} {D : Nat → Bool} {a : Act} {w : World} (hI : Inv w0 S nt ops ns t0 σ0 s ρ D a w) (hr : Ready ops.toList D j) {K : Act → World → Prop} {Q : Exit → Act → World → Prop}
  (hQ : ∀ a w ch' ρ', ρ.le ρ' → R w0 S σ' ρ' w → TRel ρ' nt (TD ops.toList ns t0 D ops.toList.length) a.tmps → DsRel ρ' s.defers a.defers → ERel ρ' (.panicked ch) (.panicked ch') → Q (.panic ch') a w) : wpOp P ops Q j K a w := by
 have hi' : ops[j]? = some o := by rw [← Array.getElem?_toList]; exact ho
 obtain ⟨_, ρ', hle, hR, hT, hD⟩ := hI
 have hok : okOp nt o = true := by
  have := H.all
  rw [List.all_eq_true] at this
  exact this o (List.mem_of_getElem? ho)
 have hsd : SD ns σ0 D ops.toList.length = sseq ns σ0 ops.toList.length := SD_seq (by rw [H.len]; omega) fun e he hef => hr.before (fun q => by
  subst q
  have := H.nb _ hef
  rw [hbj] at this
  exact absurd this (by simp)) (hj e hef)
 rw [hsd] at hR
 unfold wpOp
 rw [hi']
 simp only
 have hwant : Region.wanted o (yielded ops a.tmps) = true := wanted_eq hT H.all ((H.wanted ho hr).trans hw)
 rw [hwant]
 simp only [if_true]
 refine .inl ?_
 unfold Oper.wp
 have hev : ∀ x ∈ o.op.operands, VRel ρ' (ev (tseq ops.toList ns t0 j) x) (a.eval x) := by
  intro x hx
  rw [← H.evs ho hr hx]
  exact ev_rels hT hok (H.seen ho hr (aopT_eq hop).1) x hx
 have hout := aop_sound hR hX (aopT_eq hop).2 (e' := a.eval) hev
 generalize (execOp a.eval o).run P w = res at hout
 cases hout with
 | call ha hR2 =>
  refine Calls.mono (hc _ _ _ _ _ hcall _ _ _ ha hR2) ?_
  rintro e w' ⟨ρ2, hle2, he, hR3⟩
  cases e with
  | returned v' => exact he.elim
  | panicked ch' => exact hQ _ _ _ ρ2 (Rho.le_trans hle hle2) hR3 (hT.mono hle2) (hD.mono hle2) he
  | outgrown => exact he.elim
theorem DrawnB.any (H : DrawnB bad P X call nt ops ns t0 σ0) (hc : CallsOkR P w0 S call) (hX : FactsOk P X S) {s : St} {ρ : Rho} {Q : Exit → Act → World → Prop} {j : Nat} (hjl : j < ops.toList.length) (hbj : bad j = true) (hbad : ∀ i, bad i = true → i ≠ j → ahead (bsets ops.toList []) j i = true)
  (hP : ∀ D a w K, Inv w0 S nt ops ns t0 σ0 s ρ D a w → Ready ops.toList D j → wpOp P ops Q j K a w) :
  ∀ (fuel : Nat) (listed : Array Bool) (a : Act) (w : World), listed.size = ops.size → undone listed = fuel → Inv w0 S nt ops ns t0 σ0 s ρ (ofArr listed) a w → (∀ i, bad i = true → ofArr listed i = false) → wpAny P .any ops Q fuel listed a w := by
 intro fuel
 induction fuel with
 | zero =>
  intro listed a w hsz hu hI hn
  have hf := hn j hbj
  have := undone_set (listed := listed) (i := j) (by rw [hsz]; simpa using hjl) hf
  omega
 | succ fuel ih =>
  intro listed a w hsz hu hI hn
  refine ⟨fun h => ?_, fun i hi => ?_⟩
  ·have := none_ready H.ok hsz h j hjl
   rw [hn j hbj] at this
   exact absurd this (by simp)
  ·obtain ⟨h1, h2, h3⟩ := mem_ready hsz hi
   have hil : i < listed.size := by rw [hsz]; simpa using h1
   have hr : Ready ops.toList (ofArr listed) i := ⟨hI.closed, h2, h3⟩
   cases hb : bad i with
   | true =>
    by_cases e : i = j
    ·subst e
     exact hP _ _ _ _ hI hr
    ·have := hr.before (Ne.symm e) (hbad i hb e)
     rw [hn j hbj] at this
     exact absurd this (by simp)
   | false =>
    refine H.one hc hX hI h1 hr hb fun a' w' hI' => ?_
    refine ih (listed.setIfInBounds i true) a' w' (by simpa using hsz) (by have := undone_set hil h2; omega) (by rw [ofArr_set hil]; exact hI') fun k hk => ?_
    rw [ofArr_set hil]
    unfold addD
    rw [if_neg (fun e => by subst e; rw [hb] at hk; exact absurd hk (by simp))]
    exact hn k hk
end
section
variable {P : Program} {W0 w0 : World} {S : Own} {nt n0 : Nat} {s s0 s' : St} {K K' : Cont} {c : Code}
def restD (P : Program) (ops : Array Oper) (bs : List Nat) (j : Nat) : Nat → Nat → St → Option (List Ent)
 | 0, _, _ => some []
 | n + 1, i, s => match ahead bs j i with
  | true => (restD P ops bs j n (i + 1) (putE ops i s .skip)).map (.skip :: ·)
  | false => match stepD P ops i s with
   | some (.val v) => (restD P ops bs j n (i + 1) (putE ops i s (.val v))).map (.val v :: ·)
   | some .skip => (restD P ops bs j n (i + 1) (putE ops i s .skip)).map (.skip :: ·)
   | _ => none
theorem restD_spec {ops : Array Oper} {bs : List Nat} {j : Nat} : ∀ {n i : Nat} {s : St} {l : List Ent}, restD P ops bs j n i s = some l → i + n = ops.size → l.length = n ∧ (∀ e, e ∈ l → isE e = false) ∧
  ∀ m o, ops.toList[i + m]? = some o → ahead bs j (i + m) = false → ∃ e, l[m]? = some e ∧ StepOk P .none (To P w0 S) ops (tseq (ops.toList.drop i) l s.tmps m) (sseq l s.σ m) o e
 | 0, i, s, l, h, hn => by
  simp only [restD, Option.some.injEq] at h
  subst h
  refine ⟨rfl, by simp, fun m o ho _ => ?_⟩
  rw [List.getElem?_eq_none (by simp; omega)] at ho
  exact absurd ho (by simp)
 | n + 1, i, s, l, h, hn => by
  have hlt : i < ops.toList.length := by simp; omega
  have hd : ops.toList.drop i = ops.toList[i] :: ops.toList.drop (i + 1) := List.drop_eq_getElem_cons hlt
  have ho : ops[i]? = some ops.toList[i] := by rw [← Array.getElem?_toList]; exact List.getElem?_eq_getElem hlt
  have step : ∀ (e : Ent) (l' : List Ent), isE e = false → restD P ops bs j n (i + 1) (putE ops i s e) = some l' → l = e :: l' → (ahead bs j i = false → StepOk P .none (To P w0 S) ops s.tmps s.σ ops.toList[i] e) →
    l.length = n + 1 ∧ (∀ e, e ∈ l → isE e = false) ∧ ∀ m o, ops.toList[i + m]? = some o → ahead bs j (i + m) = false → ∃ e, l[m]? = some e ∧ StepOk P .none (To P w0 S) ops (tseq (ops.toList.drop i) l s.tmps m) (sseq l s.σ m) o e := by
   intro e l' he hl' hl hs
   subst hl
   obtain ⟨h1, h2, h3⟩ := restD_spec hl' (by omega)
   refine ⟨by simp [h1], fun x hx => ?_, fun m o hm hb => ?_⟩
   ·rcases List.mem_cons.1 hx with rfl | hx
    ·exact he
    ·exact h2 x hx
   ·cases m with
    | zero =>
     rw [Nat.add_zero, List.getElem?_eq_getElem hlt] at hm
     cases hm
     exact ⟨e, rfl, by rw [tseq_zero, sseq_zero]; exact hs (by simpa using hb)⟩
    | succ m =>
     obtain ⟨x, q1, q2⟩ := h3 m o (by rw [show i + 1 + m = i + (m + 1) by omega]; exact hm) (by rw [show i + 1 + m = i + (m + 1) by omega]; exact hb)
     refine ⟨x, by simpa using q1, ?_⟩
     rw [hd]
     simp only [tseq, sseq]
     have hp : putE ops i s e = { s with tmps := putT s.tmps ops.toList[i].dst e.value, σ := e.behind s.σ } := by
      unfold putE
      rw [opG_eq ho]
     rw [hp] at q2
     exact q2
  simp only [restD] at h
  split at h
  ·rename_i hb
   obtain ⟨l', h1, h2⟩ := Option.map_eq_some_iff.1 h
   exact step .skip l' rfl h1 h2.symm (fun hf => by rw [hb] at hf; exact absurd hf (by simp))
  ·rename_i hb
   split at h
   ·rename_i v hv
    obtain ⟨l', h1, h2⟩ := Option.map_eq_some_iff.1 h
    refine step (.val v) l' rfl h1 h2.symm (fun _ => ?_)
    obtain ⟨o, q1, q2⟩ := stepD_ok (w0 := w0) (S := S) hv
    rw [ho] at q1
    cases q1
    exact q2
   ·rename_i hv
    obtain ⟨l', h1, h2⟩ := Option.map_eq_some_iff.1 h
    refine step .skip l' rfl h1 h2.symm (fun _ => ?_)
    obtain ⟨o, q1, q2⟩ := stepD_ok (w0 := w0) (S := S) hv
    rw [ho] at q1
    cases q1
    exact q2
   ·exact absurd h (by simp)
theorem deffA_at {bs : List Nat} {e : Nat} {σ σ' : AW} : ∀ {l : List Oper} {ns : List Ent} {t : Tm} {j0 : Nat}, (∀ p, p ∈ deffA P bs e σ σ' l ns t j0 → p.1 = p.2) → ∀ i o n, l[i]? = some o → ns[i]? = some n →
  (∀ v, n = .val v → ∃ σc, aopT P .none (tseq l ns t i) o σc = some (.val v)) →
  e = j0 + i ∨ ahead bs e (j0 + i) = true ∨ ahead bs (j0 + i) e = true ∨ (match n with | .val v => againP P .none (tseq l ns t i) o v (if e < j0 + i then σ else σ') | .skip => True | .eff _ _ _ => False)
 | [], ns, t, j0, _, i, o, n, h, _, _ => by simp at h
 | _ :: _, [], t, j0, _, i, o, n, _, h, _ => by simp at h
 | p :: l, m :: ns, t, j0, h, i, o, n, ho, hn, hv => by
  cases i with
  | zero =>
   simp at ho hn
   subst ho; subst hn
   rw [tseq_zero, Nat.add_zero]
   rw [tseq_zero] at hv
   unfold deffA at h
   split at h
   ·rename_i hb
    simp only [Bool.or_eq_true] at hb
    rcases hb with (a | a) | a
    ·exact .inl (beq_t a)
    ·exact .inr (.inl a)
    ·exact .inr (.inr (.inl a))
   ·refine .inr (.inr (.inr ?_))
    split at h
    ·rename_i v
     try simp only
     obtain ⟨σc, hc⟩ := hv v rfl
     split at h
     ·rename_i hl
      simp only [Bool.or_eq_true, Bool.not_eq_true'] at hl
      rcases hl with hl | hl
      ·exact .inl hl
      ·exact .inr (by rw [lenL_congr hl _ σc]; exact hc)
     ·have := h _ (List.mem_cons_self)
      simp only at this
      refine .inr ?_
      rw [← this]
      split
      ·rename_i hlt
       have : Nat.blt e j0 = true := Nat.ble_eq_true_of_le hlt
       rw [this]
      ·rename_i hlt
       have : Nat.blt e j0 = false := by
        cases hb : Nat.blt e j0 with
        | false => rfl
        | true => exact absurd (blt_t hb) hlt
       rw [this]
    ·trivial
    ·have := h _ (List.mem_singleton.2 rfl)
     exact absurd this (by simp)
  | succ i =>
   have h' : ∀ q, q ∈ deffA P bs e σ σ' l ns (putT t p.dst m.value) (j0 + 1) → q.1 = q.2 := by
    intro q hq
    unfold deffA at h
    split at h
    ·exact h q hq
    ·split at h
     ·split at h
      ·exact h q hq
      ·exact h q (List.mem_cons_of_mem _ hq)
     ·exact h q hq
     ·have := h _ (List.mem_singleton.2 rfl)
      exact absurd this (by simp)
   have := deffA_at h' i o n (by simpa using ho) (by simpa using hn) hv
   rw [show j0 + (i + 1) = j0 + 1 + i by omega]
   exact this
theorem deffsA_at {bs : List Nat} {L : List Oper} {ns : List Ent} {t : Tm} : ∀ {l : List Ent} {e0 : Nat}, (∀ p, p ∈ deffsA P bs L ns t l e0 → p.1 = p.2) → ∀ i σ v σ', l[i]? = some (.eff σ v σ') → ∀ p, p ∈ deffA P bs (e0 + i) σ σ' L ns t 0 → p.1 = p.2
 | [], e0, _, i, σ, v, σ', h => by simp at h
 | m :: l, e0, h, i, σ, v, σ', hi => by
  cases i with
  | zero =>
   simp at hi
   subst hi
   exact fun p hp => h p (by rw [Nat.add_zero] at hp; simp [deffsA, hp])
  | succ i =>
   have h2 : ∀ p, p ∈ deffsA P bs L ns t l (e0 + 1) → p.1 = p.2 := by
    intro p hp
    cases m with
    | val v => exact h p hp
    | skip => exact h p hp
    | eff a b c => exact h p (by simp [deffsA, hp])
   rw [show e0 + (i + 1) = e0 + 1 + i by omega]
   exact deffsA_at h2 i σ v σ' (by simpa using hi)
def effB (bs : List Nat) (j : Nat) : List Ent → Nat → Bool
 | [], _ => true
 | n :: ns, e => (!isE n || ahead bs e j) && effB bs j ns (e + 1)
theorem effB_at {bs : List Nat} {j : Nat} : ∀ {ns : List Ent} {e0 : Nat}, effB bs j ns e0 = true → ∀ i a v b, ns[i]? = some (.eff a v b) → ahead bs (e0 + i) j = true
 | [], _, _, i, a, v, b, h => by simp at h
 | n :: ns, e0, h, i, a, v, b, hi => by
  simp only [effB, Bool.and_eq_true] at h
  cases i with
  | zero =>
   simp at hi
   subst hi
   have := h.1
   simpa [isE] using this
  | succ i =>
   rw [show e0 + (i + 1) = e0 + 1 + i by omega]
   exact effB_at h.2 i a v b (by simpa using hi)
def keepT (t : Tm) : List Nat → Tm
 | [] => .nil
 | d :: l => .put d (t.get d) (keepT t l)
def keepB (ops : Array Oper) (t : Tm) (l : List Nat) : Bool := l.all fun d => t.has d && ops.toList.all fun o => match o.dst with | some e => !(Nat.beq e d) | none => true
theorem keepT_get {t : Tm} {l : List Nat} {x : Nat} : ∀ {l : List Nat}, (keepT t l).has x = true → x ∈ l ∧ (keepT t l).get x = t.get x
 | [], h => by simp [keepT, Tm.has] at h
 | d :: l, h => by
  simp only [keepT, Tm.has] at h
  simp only [keepT, Tm.get]
  split at h
  ·rename_i hb
   have := beq_t hb
   subst this
   exact ⟨by simp, rfl⟩
  ·rename_i hb
   obtain ⟨h1, h2⟩ := keepT_get (l := l) h
   exact ⟨by simp [h1], h2⟩
theorem kind6 {c : Code} (h : kindC c = 6) : ∃ id ops, c = .region id ops true := by
 unfold kindC at h
 split at h <;> first | (exfalso; revert h; decide) | exact ⟨_, _, rfl⟩
theorem HD.panTo [NoEx P S] {i : Nat} {acc : List Ent} {f : FuncId} {args : Array Value} {ch : List PanicEntry} {σ' : AW} (hc : drawB P nt c = true) (rest : List Ent) (keep : List Nat) (h : (callG P (cOps c) i s, atG (cOps c) i s) = (some (f, args), true)) (hcall : To P w0 S f args s.σ (.panicked ch) σ')
  (hrest : restD P (cOps c) (bsets (cOps c).toList []) i ((cOps c).size - (i + 1)) (i + 1) (putE (cOps c) i s .skip) = some rest) (heff : (effB (bsets (cOps c).toList []) i acc.reverse 0, keepB (cOps c) s0.tmps keep) = (true, true))
  (hE2 : (deffsA P (bsets (cOps c).toList []) (cOps c).toList (acc.reverse ++ .skip :: rest) s0.tmps (acc.reverse ++ .skip :: rest) 0).map (·.1) = (deffsA P (bsets (cOps c).toList []) (cOps c).toList (acc.reverse ++ .skip :: rest) s0.tmps (acc.reverse ++ .skip :: rest) 0).map (·.2))
  (hk : K (.panic ch) { s0 with tmps := keepT s0.tmps keep, σ := σ' }) : HD P w0 S nt c s0 i acc s K := by
 intro hA hB hC hD hE hF
 simp only [Prod.mk.injEq] at h heff
 obtain ⟨g1, g2, g3⟩ := atG_spec h.2
 unfold drawB at hc
 simp only [Bool.and_eq_true] at hc
 obtain ⟨⟨⟨d1, d2⟩, d3⟩, d4⟩ := hc
 have d1 := beq_t d1
 have hil : i < (cOps c).toList.length := by
  have := (Array.getElem?_eq_some_iff.1 g1).1
  simpa using this
 have hsz : i + 1 + ((cOps c).size - (i + 1)) = (cOps c).size := by simp at hil; omega
 obtain ⟨r1, r2, r3⟩ := restD_spec (w0 := w0) (S := S) hrest hsz
 obtain ⟨bs, hbs⟩ : ∃ bs, bs = bsets (cOps c).toList [] := ⟨_, rfl⟩
 obtain ⟨ns, hns⟩ : ∃ ns, ns = acc.reverse ++ .skip :: rest := ⟨_, rfl⟩
 have hal : acc.reverse.length = i := by simpa using hA
 have hlen : ns.length = (cOps c).toList.length := by
  rw [hns, List.length_append, List.length_cons, hal, r1]
  simp at hil ⊢
  omega
 have tAt : ∀ m, tseq (cOps c).toList ns s0.tmps (i + 1 + m) = tseq ((cOps c).toList.drop (i + 1)) rest (putE (cOps c) i s .skip).tmps m := by
  intro m
  have e1 := hC (.skip :: rest) (m + 1)
  rw [drop_at g1] at e1
  rw [hns, show i + 1 + m = i + (m + 1) by omega, e1]
  rfl
 have sAt : ∀ m, sseq ns s0.σ (i + 1 + m) = sseq rest s.σ m := by
  intro m
  have e1 := hD (.skip :: rest) (m + 1)
  rw [hns, show i + 1 + m = i + (m + 1) by omega, e1]
  rfl
 have tI : tseq (cOps c).toList ns s0.tmps i = s.tmps := by
  have e1 := hC (.skip :: rest) 0
  rw [Nat.add_zero, tseq_zero] at e1
  rw [hns]; exact e1
 have sRest : ∀ m, sseq rest s.σ m = s.σ := sseq_calm (σ := s.σ) (fun n hn a v b e => by
  subst e
  have := r2 _ hn
  simp [isE] at this)
 have hnlt : ∀ i', i' < i → ns[i']? = acc.reverse[i']? := fun i' hi' => by rw [hns, List.getElem?_append_left (by omega)]
 have hneq : ns[i]? = some .skip := by rw [hns, List.getElem?_append_right (by omega), hal]; simp
 have hngt : ∀ m, ns[i + 1 + m]? = rest[m]? := fun m => by
  rw [hns, List.getElem?_append_right (by omega), hal, show i + 1 + m - i = m + 1 by omega]
  simp
 let bad : Nat → Bool := fun k => Nat.beq k i || ahead bs i k
 have stepAll : ∀ k o, (cOps c).toList[k]? = some o → bad k = false → ∃ n, ns[k]? = some n ∧ StepOk P .none (To P w0 S) (cOps c) (tseq (cOps c).toList ns s0.tmps k) (sseq ns s0.σ k) o n := by
  intro k o hk0 hb
  rcases Nat.lt_trichotomy k i with q | q | q
  ·obtain ⟨n, n1, n2⟩ := hF k o q hk0
   refine ⟨n, by rw [hnlt k q]; exact n1, ?_⟩
   rw [hns, tseq_app (by omega), sseq_app (by omega)]
   exact n2
  ·subst q
   simp [bad] at hb
  ·obtain ⟨m, rfl⟩ : ∃ m, k = i + 1 + m := ⟨k - (i + 1), by omega⟩
   simp only [bad, Bool.or_eq_false_iff] at hb
   obtain ⟨e, e1, e2⟩ := r3 m o hk0 (by rw [← hbs]; exact hb.2)
   refine ⟨e, by rw [hngt]; exact e1, ?_⟩
   rw [tAt, sAt]
   exact e2
 have hnb : ∀ k, isEff ns k → bad k = false := by
  rintro k ⟨a, v, b, hkn⟩
  rcases Nat.lt_trichotomy k i with q | q | q
  ·simp only [bad, Bool.or_eq_false_iff]
   refine ⟨?_, ?_⟩
   ·cases hb : Nat.beq k i with
    | false => rfl
    | true => have := beq_t hb; omega
   ·cases hb : ahead bs i k with
    | false => rfl
    | true =>
     rw [hbs] at hb
     have := ahead_lt d3 hb
     omega
  ·subst q; rw [hneq] at hkn; exact absurd hkn (by simp)
  ·obtain ⟨m, rfl⟩ : ∃ m, k = i + 1 + m := ⟨k - (i + 1), by omega⟩
   rw [hngt] at hkn
   have := r2 _ (List.mem_of_getElem? hkn)
   simp [isE] at this
 have heffs := map_pairs hE2
 rw [← hns, ← hbs] at heffs
 have HB : DrawnB bad P .none (To P w0 S) nt (cOps c) ns s0.tmps s0.σ :=
  {ok := d3, all := d2, len := hlen, step := stepAll, nb := hnb
   effs := fun e a b cc he k o n hk0 hn hb => by
    have := deffA_at (j0 := 0) (fun p hp => deffsA_at (e0 := 0) heffs e a b cc he p (by rw [Nat.zero_add]; exact hp)) k o n hk0 hn (fun v hv => by
     obtain ⟨n', n1, n2⟩ := stepAll k o hk0 hb
     rw [hn] at n1
     cases n1
     subst hv
     exact ⟨_, n2.2⟩)
    rw [Nat.zero_add, hbs] at this
    exact this }
 have hsF : sseq ns s0.σ (cOps c).toList.length = s.σ := by
  have e1 := sAt (rest.length)
  rw [sRest] at e1
  rw [show (cOps c).toList.length = i + 1 + rest.length by rw [r1]; simp at hil ⊢; omega]
  exact e1
 have hcR : CallsOkR P w0 S (To P w0 S) := fun _ _ _ _ _ h => h
 have hq : aopT P .none s.tmps (opG (cOps c) i) s.σ = some (.call f args) := by
  unfold aopT
  rw [g3]
  have h := h.1
  unfold callG at h
  split at h
  ·rename_i f' a' he
   cases h
   exact he
  ·exact absurd h (by simp)
 obtain ⟨id, ops, rfl⟩ := kind6 d1
 intro ρ a cs w hs
 refine W.of_wp (wp_region_any d4 ?_)
 have g1' : (cOps (.region id ops true)).toList[i]? = some (opG ops i) := by rw [Array.getElem?_toList]; exact g1
 refine HB.any hcR (FactsOk.none P S) (s := s0) (ρ := ρ) (j := i) hil (by simp [bad]) (fun k hk1 hk2 => ?_) (fun D a' w' K' hI hr => ?_) _ _ _ _ (by simp [cOps]) (by
   unfold undone
   rw [Array.toList_replicate, List.filter_replicate]
   simp) ?_ (fun k hk => ?_)
 ·simp only [bad, Bool.or_eq_true] at hk1
  rcases hk1 with q | q
  ·exact absurd (beq_t q) hk2
  ·rw [← hbs]; exact q
 ·refine HB.pan hcR (FactsOk.none P S) (by simp [bad]) (fun e ⟨x, y, z, he⟩ => ?_) g1' (by rw [tI]; exact g2) (by rw [tI, hsF]; exact hq) (by rw [hsF]; exact hcall) hI hr ?_
  ·have hlt : e < i := by
    rcases Nat.lt_trichotomy e i with q | q | q
    ·exact q
    ·subst q; rw [hneq] at he; exact absurd he (by simp)
    ·obtain ⟨m, rfl⟩ : ∃ m, e = i + 1 + m := ⟨e - (i + 1), by omega⟩
     rw [hngt] at he
     have := r2 _ (List.mem_of_getElem? he)
     simp [isE] at this
   rw [hnlt e hlt] at he
   have := effB_at heff.1 e x y z he
   rw [Nat.zero_add] at this
   exact this
  ·intro a2 w2 ch' ρ' hle hR hT hD2 he
   refine ⟨.panic ch, _, ρ', hk, he, ⟨⟨hT.size, fun x hx hh => ?_⟩, hD2, rfl, hR⟩⟩
   obtain ⟨k1, k2⟩ := keepT_get (l := keep) (t := s0.tmps) hh
   have kb := heff.2
   unfold keepB at kb
   rw [List.all_eq_true] at kb
   have kb := kb x k1
   simp only [Bool.and_eq_true, List.all_eq_true] at kb
   have hgh : (TD (cOps (.region id ops true)).toList ns s0.tmps D (cOps (.region id ops true)).toList.length).gh x = s0.tmps.gh x := by
    have e2 : ∀ k, TD (cOps (.region id ops true)).toList ns s0.tmps (fun _ => false) k = s0.tmps := by
     intro k
     induction k with
     | zero => rfl
     | succ k ih => simp only [TD]; exact ih
    have h5 := TD_congr (t := s0.tmps) (ns := ns) (D := D) (D' := fun _ => false) (x := x) (k := (cOps (.region id ops true)).toList.length) d2 fun q p _ hp hpd => by
     have := kb.2 p (List.mem_of_getElem? hp)
     rw [hpd] at this
     simp at this
    rw [e2] at h5
    exact h5
   have := hT.at_ x hx (by rw [Tm.gh_has hgh]; exact kb.1)
   rw [Tm.gh_get hgh] at this
   rw [k2]
   exact this
 ·have hempty : ofArr (Array.replicate ops.size false) = fun _ => false := by
   funext j
   unfold ofArr
   rw [Array.getD_eq_getD_getElem?, Array.getElem?_replicate]
   split <;> rfl
  have e1 : SD ns s0.σ (fun _ => false) ops.toList.length = s0.σ := SD_upto (k := 0) (by omega) fun j _ _ _ => rfl
  have e2 : ∀ k, TD ops.toList ns s0.tmps (fun _ => false) k = s0.tmps := by
   intro k
   induction k with
   | zero => rfl
   | succ k ih => simp only [TD]; exact ih
  show Inv w0 S nt ops ns s0.tmps s0.σ s0 ρ (ofArr (Array.replicate ops.size false)) a w.drew
  rw [hempty]
  refine ⟨fun j o hj => by simp at hj, ρ, ρ.le_refl, ?_, ?_, hs.ds⟩
  ·rw [e1]; exact hs.r.drew
  ·rw [e2]; exact hs.t
 ·unfold ofArr
  rw [Array.getD_eq_getD_getElem?, Array.getElem?_replicate]
  split <;> rfl
end
section
variable {P : Program} {W0 w0 : World} {S : Own} {nt n0 : Nat} {s s0 s' : St} {K K' : Cont} {c : Code}
def panE (v : Value) : AEnd := .panicked [{ v, recovered := false }]
theorem HO.pan1 [NoEx P S] {ops : Array Oper} {i : Nat} (v : Value) (h : (atG ops i s, aop P .none (ev s.tmps) (opG ops i) s.σ) = (true, some (.pan v))) (hk : K (.panic [{ v, recovered := false }]) s) : HO P w0 S nt ops i s K := by
 simp only [Prod.mk.injEq] at h
 obtain ⟨h1, h2, h3⟩ := atG_spec h.1
 exact HO.told h1 h2 (by unfold aopT; rw [h3]; exact h.2) hk
theorem callG_aopT {ops : Array Oper} {i : Nat} {f : FuncId} {args : Array Value} (hg : callG P ops i s = some (f, args)) (h3 : (opG ops i).op.operands.toList.all (seenO s.tmps) = true) : aopT P .none s.tmps (opG ops i) s.σ = some (.call f args) := by
 unfold aopT
 rw [h3]
 unfold callG at hg
 split at hg
 ·rename_i f' a' he
  cases hg
  exact he
 ·exact absurd hg (by simp)
theorem HO.panW [NoEx P S] (hS : Std W0 w0 S n0) {ops : Array Oper} {i : Nat} {f : FuncId} {args2 : Array Value} {ch : List PanicEntry} (ps : List Shp) (hc : PTo P W0 f args2 (.panicked ch)) (h : (wkG P ops i s ps, atG ops i s) = (some (f, args2.toList), true)) (h0 : args2.toList.all pureB = true)
  (hk : K (.panic ch) s) : HO P w0 S nt ops i s K := by
 simp only [Prod.mk.injEq] at h
 obtain ⟨args, hg, hw⟩ := wkG_spec h.1
 obtain ⟨h1, h2, h3⟩ := atG_spec h.2
 exact HO.call h1 h2 (callG_aopT hg h3) (To.wk ps hw (hc.to hS (PureL.of_all h0))) hk
theorem frG_toP (hS : Std W0 w0 S n0) {ops : Array Oper} {i : Nat} {f : FuncId} {argsS : Array Value} {ch : List PanicEntry} {p p' nx : Nat} {tkS tkS' tk : List Nat} {obS obS' ob : List (Nat × AObj)} (g : List Nat) (ps : List Shp)
  (hc : FTo P W0 f argsS (mkW p tkS obS) (.panicked ch) (mkW p' tkS' obS')) (h : frG P ops i s ps g = some (f, argsS.toList)) (ha : ch.all (fun x => pureB x.v) = true)
  (hF : (frOs g s.σ obS, bkOs g s.σ (mkW p' tkS' obS') ob, frB g s.σ p p' obS tkS tkS' nx tk ob) = (wantO obS, wantO ob, true)) :
  ∃ args, callG P ops i s = some (f, args) ∧ To P w0 S f args s.σ (.panicked ch) (mkW nx tk ob) := by
 unfold frG at h
 split at h
 ·rename_i f' l hw
  split at h
  ·rename_i l' hl
   cases h
   obtain ⟨args, h1, h2⟩ := wkG_spec hw
   refine ⟨args, h1, To.wkL ps h2 ?_⟩
   exact hc.frame hS (Framed.of hF) (by simpa using hl) (e := .panicked ch) ⟨rfl, ha⟩
  ·exact absurd h (by simp)
 ·exact absurd h (by simp)
theorem HO.panFW [NoEx P S] (hS : Std W0 w0 S n0) {ops : Array Oper} {i : Nat} {f : FuncId} {argsS : Array Value} {ch : List PanicEntry} {p p' : Nat} {tkS tkS' : List Nat} {obS obS' : List (Nat × AObj)} (nx : Nat) (tk : List Nat) (ob : List (Nat × AObj)) (g : List Nat) (ps : List Shp)
  (hc : FTo P W0 f argsS (mkW p tkS obS) (.panicked ch) (mkW p' tkS' obS')) (h : (frG P ops i s ps g, atG ops i s, ch.all (fun x => pureB x.v)) = (some (f, argsS.toList), true, true))
  (hF : (frOs g s.σ obS, bkOs g s.σ (mkW p' tkS' obS') ob, frB g s.σ p p' obS tkS tkS' nx tk ob) = (wantO obS, wantO ob, true))
  (hk : K (.panic ch) { s with σ := mkW nx tk ob }) : HO P w0 S nt ops i s K := by
 simp only [Prod.mk.injEq] at h
 obtain ⟨args, hg, hto⟩ := frG_toP hS g ps hc h.1 h.2.2 hF
 obtain ⟨h1, h2, h3⟩ := atG_spec h.2.1
 exact HO.call h1 h2 (callG_aopT hg h3) hto hk
def restQ (P : Program) (c : Code) (i : Nat) (q : List Ent × St) : Option (List Ent) := restD P (cOps c) (bsets (cOps c).toList []) i ((cOps c).size - (i + 1)) (i + 1) (putE (cOps c) i q.2 .skip)
def allQ (P : Program) (c : Code) (i : Nat) (q : List Ent × St) : List Ent := q.1.reverse ++ .skip :: (restQ P c i q).getD []
def pcB (P : Program) (nt : Nat) (c : Code) (i : Nat) (q : List Ent × St) (s0 : St) (keep : List Nat) : Bool := drawB P nt c && (restQ P c i q).isSome && effB (bsets (cOps c).toList []) i q.1.reverse 0 && keepB (cOps c) s0.tmps keep
theorem HQ.panTo [NoEx P S] {q : List Ent × St} {i : Nat} {f : FuncId} {args : Array Value} {ch : List PanicEntry} {σ' : AW} (keep : List Nat) (h : (callG P (cOps c) i q.2, atG (cOps c) i q.2) = (some (f, args), true)) (hcall : To P w0 S f args q.2.σ (.panicked ch) σ') (hB : pcB P nt c i q s0 keep = true)
  (hE : (deffsA P (bsets (cOps c).toList []) (cOps c).toList (allQ P c i q) s0.tmps (allQ P c i q) 0).map (·.1) = (deffsA P (bsets (cOps c).toList []) (cOps c).toList (allQ P c i q) s0.tmps (allQ P c i q) 0).map (·.2))
  (hk : K (.panic ch) { s0 with tmps := keepT s0.tmps keep, σ := σ' }) : HQ P w0 S nt c s0 i q K := by
 unfold pcB at hB
 simp only [Bool.and_eq_true] at hB
 obtain ⟨⟨⟨b1, b2⟩, b3⟩, b4⟩ := hB
 obtain ⟨rest, hr⟩ := Option.isSome_iff_exists.1 b2
 unfold allQ at hE
 rw [hr] at hE
 exact HD.panTo b1 rest keep h hcall hr (Prod.ext b3 b4) hE hk
theorem HQ.panW [NoEx P S] (hS : Std W0 w0 S n0) {q : List Ent × St} {i : Nat} {f : FuncId} {args2 : Array Value} {ch : List PanicEntry} (keep : List Nat) (ps : List Shp) (hc : PTo P W0 f args2 (.panicked ch)) (h : (wkG P (cOps c) i q.2 ps, atG (cOps c) i q.2) = (some (f, args2.toList), true)) (h0 : args2.toList.all pureB = true) (hB : pcB P nt c i q s0 keep = true)
  (hE : (deffsA P (bsets (cOps c).toList []) (cOps c).toList (allQ P c i q) s0.tmps (allQ P c i q) 0).map (·.1) = (deffsA P (bsets (cOps c).toList []) (cOps c).toList (allQ P c i q) s0.tmps (allQ P c i q) 0).map (·.2))
  (hk : K (.panic ch) { s0 with tmps := keepT s0.tmps keep, σ := q.2.σ }) : HQ P w0 S nt c s0 i q K := by
 simp only [Prod.mk.injEq] at h
 obtain ⟨args, hg, hw⟩ := wkG_spec h.1
 exact HQ.panTo keep (Prod.ext hg h.2) (To.wk ps hw (hc.to hS (PureL.of_all h0))) hB hE hk
theorem HQ.panFW [NoEx P S] (hS : Std W0 w0 S n0) {q : List Ent × St} {i : Nat} {f : FuncId} {argsS : Array Value} {ch : List PanicEntry} {p p' : Nat} {tkS tkS' : List Nat} {obS obS' : List (Nat × AObj)} (keep : List Nat) (nx : Nat) (tk : List Nat) (ob : List (Nat × AObj)) (g : List Nat) (ps : List Shp)
  (hc : FTo P W0 f argsS (mkW p tkS obS) (.panicked ch) (mkW p' tkS' obS')) (h : (frG P (cOps c) i q.2 ps g, atG (cOps c) i q.2, ch.all (fun x => pureB x.v)) = (some (f, argsS.toList), true, true))
  (hF : (frOs g q.2.σ obS, bkOs g q.2.σ (mkW p' tkS' obS') ob, frB g q.2.σ p p' obS tkS tkS' nx tk ob) = (wantO obS, wantO ob, true)) (hB : pcB P nt c i q s0 keep = true)
  (hE : (deffsA P (bsets (cOps c).toList []) (cOps c).toList (allQ P c i q) s0.tmps (allQ P c i q) 0).map (·.1) = (deffsA P (bsets (cOps c).toList []) (cOps c).toList (allQ P c i q) s0.tmps (allQ P c i q) 0).map (·.2))
  (hk : K (.panic ch) { s0 with tmps := keepT s0.tmps keep, σ := mkW nx tk ob }) : HQ P w0 S nt c s0 i q K := by
 simp only [Prod.mk.injEq] at h
 obtain ⟨args, hg, hto⟩ := frG_toP hS g ps hc h.1 h.2.2 hF
 exact HQ.panTo keep (Prod.ext hg h.2.1) hto hB hE hk
def endE (P : Program) (fn : Func) (u : FrameMode) (s : St) : Option AEnd := match leaves P (exec P .none Ext.none 60 true) fn s.tmps s.defers u s.σ with
 | .ok (e, _) => some e
 | _ => none
def endS (P : Program) (fn : Func) (u : FrameMode) (s : St) : AW := match leaves P (exec P .none Ext.none 60 true) fn s.tmps s.defers u s.σ with
 | .ok (_, σ) => σ
 | _ => s.σ
theorem endE_eq {fn : Func} {u : FrameMode} {e : AEnd} (h : endE P fn u s = some e) : leaves P (exec P .none Ext.none 60 true) fn s.tmps s.defers u s.σ = .ok (e, endS P fn u s) := by
 unfold endE at h
 unfold endS
 split at h
 ·rename_i e' σ he
  cases h
  rw [he]
 ·exact absurd h (by simp)
theorem KEnd.genR {fn : Func} {Q : AEnd → AW → Prop} {x : AExit} {e : AEnd} (hx : (match x with | .normal => true | .ret => true | _ => false) = true) (h : endE P fn .returning s = some e) (hQ : Q e (endS P fn .returning s)) : KEnd P fn Q x s := by
 refine ⟨.returning, 60, e, _, .inl ⟨?_, rfl⟩, endE_eq h, hQ⟩
 cases x <;> simp at hx <;> simp
theorem KEnd.genP {fn : Func} {Q : AEnd → AW → Prop} {ch : List PanicEntry} {e : AEnd} (h : endE P fn (.panicking ch) s = some e) (hQ : Q e (endS P fn (.panicking ch) s)) : KEnd P fn Q (.panic ch) s :=
 ⟨.panicking ch, 60, e, _, .inr ⟨ch, rfl, rfl⟩, endE_eq h, hQ⟩
def capG (P : Program) (ops : Array Oper) (i : Nat) (s : St) : Option (Array Value) :=
 match (opG ops i).op with
 | .call ⟨.builtin .cap, args, ts⟩ => match ts[0]?, ((args.map (ev s.tmps))[0]? : Option Value) with
  | some t, some (.func (.methodOf k nm) f es) => match P.underlying t, isEx f with
   | some (.slice _), true => some es
   | _, _ => none
  | _, _ => none
 | _ => none
theorem cap_aop {ops : Array Oper} {i : Nat} {es : Array Value} {n : Nat} (h : (atG ops i s, capG P ops i s) = (true, some es)) (hn : es.size = n) : atG ops i s = true ∧ aop P .none (ev s.tmps) (opG ops i) s.σ = some (.val (.int .i64 (n : Int))) := by
 simp only [Prod.mk.injEq] at h
 obtain ⟨h0, h⟩ := h
 refine ⟨h0, ?_⟩
 subst hn
 unfold capG at h
 unfold aop
 split at h
 ·rename_i args ts hop
  rw [hop]
  simp only [callA, builtinR, builtinA]
  split at h
  ·rename_i t k nm f es' ht hx
   split at h
   ·rename_i e hu hex
    cases h
    rw [ht, hx]
    simp only [capA, hu, hex, if_true]
    rfl
   ·exact absurd h (by simp)
  ·exact absurd h (by simp)
 ·exact absurd h (by simp)
def nilG (P : Program) (ops : Array Oper) (i : Nat) (s : St) : Option (Bool × Array Value) :=
 match (opG ops i).op with
 | .binOp op t x y _ => match op, P.underlying t, ev s.tmps x, y with
  | .eql, some (.slice _), .func (.methodOf _ _) _ es, .const (.slice none 0 0) => some (true, es)
  | .neq, some (.slice _), .func (.methodOf _ _) _ es, .const (.slice none 0 0) => some (false, es)
  | _, _, _, _ => none
 | _ => none
theorem list_inv {ρ : Rho} {k : Nat} {nm : String} {f es : Array Value} {v : Value} (h : VRel ρ (.func (.methodOf k nm) f es) v) : ∃ A n c, v = .slice A n c ∧ (A = none → es.size = 0) := by
 have key : ∀ {es : Array Value} {A : Option Addr} {n c : Nat} {ex : Bool}, PRel ρ.mem (.func (.methodOf k nm) #[.bool ex] es) (.slice A n c) → A = none → es.size = 0 := by
  intro es A n c ex h e
  cases h with
  | lst hc hx hN hs hA hm => have := hN e; omega
 cases h with
 | pure h hp =>
  cases h with
  | lst hc hx hN hs hA hm => exact ⟨_, _, _, rfl, fun e => by have := hN e; omega⟩
  | func hf => simp [isFn] at hf
 | tok h hT ha => exact ⟨_, _, _, rfl, key h⟩
 | func hf => simp [isFn] at hf
theorem eq_nil_run {P : Program} (w : World) {t e : TypeId} (A : Option Addr) (n c : Nat) (x y : Operand) (op : BinOp) (hop : op = .eql ∨ op = .neq) (ht : P.underlying t = some (.slice e)) :
  (do eqGuard op t x y (.slice A n c) (.slice none 0 0); binOp op t (.slice A n c) (.slice none 0 0) : Sem Value).run P w = .ok (.bool (A.isNone == (op == .eql))) w := by
 have h : ∀ d : Nat, (Op.equalIn (d + 1) t (.slice A n c) (.slice none 0 0)).run P w = .ok A.isNone w := fun d => by
  cases A <;> simp [Op.equalIn, run_underlying ht]
 rcases hop with rfl | rfl
 ·cases A <;> simp [eqGuard, binOp, Op.equal, Op.maxDepth, h 9999]
 ·cases A <;> simp [eqGuard, binOp, Op.equal, Op.maxDepth, h 9999]
theorem HO.nilB [NoEx P S] {ops : Array Oper} {i : Nat} {eq : Bool} {es : Array Value} (h : (atG ops i s, nilG P ops i s) = (true, some (eq, es)))
  (hk : ∀ b : Bool, (b = true → es.size = 0) → HO P w0 S nt ops (i + 1) (putG ops i s (.bool (b == eq))) K) : HO P w0 S nt ops i s K := by
 simp only [Prod.mk.injEq] at h
 obtain ⟨h1, h2, h3⟩ := atG_spec h.1
 have hg := h.2
 intro hops ρ a cs w hs
 refine wpOps_at h1 ?_
 have hok := okOp_at hops h1
 simp only [wpOps, h1]
 have hw := wanted_eq hs.t hops h2
 rw [if_pos hw]
 refine .inl ?_
 unfold Oper.wp
 have hev := ev_rels hs.t hok h3
 generalize hopg : opG ops i = o at hg hev hok h1 hk
 obtain ⟨dst, op0, type, pos, after, guard⟩ := o
 have key : ∀ (bop : BinOp) (t e : TypeId) (x : Operand) (yt : TypeId) (k : Nat) (nm : String) (f : Array Value), (bop = .eql ∨ bop = .neq) → (bop == .eql) = eq → op0 = .binOp bop t x (.const (.slice none 0 0)) yt → P.underlying t = some (.slice e) → ev s.tmps x = .func (.methodOf k nm) f es →
   (match (execOp a.eval ⟨dst, op0, type, pos, after, guard⟩).run P w with
    | .ok (.value v) w' => (HO P w0 S nt ops (i + 1) (putG ops i s v) K → wpOps P ops (fun e a' w' => PostK w0 S nt cs K e a' cs w') (List.range' (i + 1) (ops.size - (i + 1))) (a.put dst v) w') ∧ ∃ b : Bool, (b = true → es.size = 0) ∧ v = .bool (b == eq)
    | _ => False) := by
  intro bop t e x yt k nm f hb hbe ho hu hx
  subst ho
  have hr := hev x (by simp [Op.operands])
  rw [hx] at hr
  obtain ⟨A, n, c, hv, hN⟩ := list_inv hr
  have hrun := eq_nil_run (P := P) w A n c x (.const (.slice none 0 0)) bop hb hu
  have hrun' : (execOp a.eval ⟨dst, .binOp bop t x (.const (.slice none 0 0)) yt, type, pos, after, guard⟩).run P w = .ok (.value (.bool (A.isNone == (bop == .eql)))) w := by
   have e0 : a.eval (.const (.slice none 0 0)) = .slice none 0 0 := rfl
   have e1 : execOp a.eval ⟨dst, .binOp bop t x (.const (.slice none 0 0)) yt, type, pos, after, guard⟩ = ((do eqGuard bop t x (.const (.slice none 0 0)) (.slice A n c) (.slice none 0 0); binOp bop t (.slice A n c) (.slice none 0 0) : Sem Value) >>= fun z => pure (.value z)) := by
    simp only [execOp, hv, e0]
   rw [e1, Sem.run_bind, hrun]
   rfl
  rw [hrun']
  refine ⟨fun hko => ?_, A.isNone, fun hA => hN (by cases A <;> simp_all), by rw [hbe]⟩
  exact hko hops _ _ _ _ (by
   have := hs.put ρ.le_refl hok (v := .bool (A.isNone == (bop == .eql))) (plain_rel ρ rfl) hs.r
   unfold putG
   rw [hopg]
   exact this)
 have hg' : ∃ (bop : BinOp) (t e : TypeId) (x : Operand) (yt : TypeId) (k : Nat) (nm : String) (f : Array Value), (bop = .eql ∨ bop = .neq) ∧ (bop == .eql) = eq ∧ op0 = .binOp bop t x (.const (.slice none 0 0)) yt ∧ P.underlying t = some (.slice e) ∧ ev s.tmps x = .func (.methodOf k nm) f es := by
  unfold nilG at hg
  rw [hopg] at hg
  simp only at hg
  split at hg
  ·split at hg
   ·rename_i hu hx
    cases hg
    exact ⟨_, _, _, _, _, _, _, _, .inl rfl, rfl, rfl, hu, hx⟩
   ·rename_i hu hx
    cases hg
    exact ⟨_, _, _, _, _, _, _, _, .inr rfl, rfl, rfl, hu, hx⟩
   ·exact absurd hg (by simp)
  ·exact absurd hg (by simp)
 obtain ⟨bop, t, e, x, yt, k, nm, f, q1, q2, q3, q4, q5⟩ := hg'
 have := key bop t e x yt k nm f q1 q2 q3 q4 q5
 generalize (execOp a.eval ⟨dst, op0, type, pos, after, guard⟩).run P w = res at this
 split at this
 ·obtain ⟨h1, b, hb, rfl⟩ := this
  exact h1 (hk b hb)
 ·exact this.elim
end
section
variable {P : Program} {W0 w0 : World} {S : Own} {nt n0 : Nat} {s s0 s' : St} {K K' : Cont} {c : Code} {ops : Array Oper} {i : Nat}
theorem H.frzE (ds : List Nat) (id n c' k te : Nat) (ex : Bool) (es es0 : Array Value) (cl : List Value) (he : es = es0) (h : (ds.all s.tmps.has, s.σ.get id, flatL es0, frzB s.σ id n c' k ex es0) = (true, some (.cells cl te k), cl, true)) (hk : H P w0 S nt c (frzS s ds id n c' (lst k ex es)) K) : H P w0 S nt c s K := by
 subst he
 exact H.frz ds id n c' k te ex es cl h hk
theorem HL.frzE (ds : List Nat) (id n c' k te : Nat) (ex : Bool) (es es0 : Array Value) (cl : List Value) (he : es = es0) (h : (ds.all s.tmps.has, s.σ.get id, flatL es0, frzB s.σ id n c' k ex es0) = (true, some (.cells cl te k), cl, true)) (hk : HL P w0 S nt c (frzS s ds id n c' (lst k ex es)) K) : HL P w0 S nt c s K := by
 subst he
 exact HL.frz ds id n c' k te ex es cl h hk
theorem HO.frzE (ds : List Nat) (id n c' k te : Nat) (ex : Bool) (es es0 : Array Value) (cl : List Value) (he : es = es0) (h : (ds.all s.tmps.has, s.σ.get id, flatL es0, frzB s.σ id n c' k ex es0) = (true, some (.cells cl te k), cl, true)) (hk : HO P w0 S nt ops i (frzS s ds id n c' (lst k ex es)) K) : HO P w0 S nt ops i s K := by
 subst he
 exact HO.frz ds id n c' k te ex es cl h hk
theorem H.tkzE (ds : List Nat) (id n c' k te : Nat) (es es0 : Array Value) (cl : List Value) (he : es = es0) (h : (ds.all s.tmps.has, s.σ.get id, flatL es0, frzB s.σ id n c' k false es0, Nat.blt s.σ.next (2 ^ D), Nat.beq c' OPEN || (Nat.ble (c' * k) cl.length && Nat.ble c' (2 ^ 64))) = (true, some (.cells cl te k), cl, true, true, true)) (hk : H P w0 S nt c (tkzS s ds id n c' k es) K) : H P w0 S nt c s K := by
 subst he
 exact H.tkz ds id n c' k te es cl h hk
theorem HL.tkzE (ds : List Nat) (id n c' k te : Nat) (es es0 : Array Value) (cl : List Value) (he : es = es0) (h : (ds.all s.tmps.has, s.σ.get id, flatL es0, frzB s.σ id n c' k false es0, Nat.blt s.σ.next (2 ^ D), Nat.beq c' OPEN || (Nat.ble (c' * k) cl.length && Nat.ble c' (2 ^ 64))) = (true, some (.cells cl te k), cl, true, true, true)) (hk : HL P w0 S nt c (tkzS s ds id n c' k es) K) : HL P w0 S nt c s K := by
 subst he
 exact HL.tkz ds id n c' k te es cl h hk
theorem HO.tkzE (ds : List Nat) (id n c' k te : Nat) (es es0 : Array Value) (cl : List Value) (he : es = es0) (h : (ds.all s.tmps.has, s.σ.get id, flatL es0, frzB s.σ id n c' k false es0, Nat.blt s.σ.next (2 ^ D), Nat.beq c' OPEN || (Nat.ble (c' * k) cl.length && Nat.ble c' (2 ^ 64))) = (true, some (.cells cl te k), cl, true, true, true)) (hk : HO P w0 S nt ops i (tkzS s ds id n c' k es) K) : HO P w0 S nt ops i s K := by
 subst he
 exact HO.tkz ds id n c' k te es cl h hk
theorem FEnd.frzE {e : AEnd} {σ' σ1 : AW} {v : Value} (id n c' k te : Nat) (ex : Bool) (es es0 : Array Value) (cl : List Value) (he : es = es0) (h : (σ1.get id, flatL es0, frzB σ1 id n c' k ex es0) = (some (.cells cl te k), cl, true)) (hk : FEnd w0 S e σ' (.returned (frzN id n c' (lst k ex es) 12 v)) (σ1.drop id)) : FEnd w0 S e σ' (.returned v) σ1 := by
 subst he
 exact FEnd.frz id n c' k te ex es cl h hk
theorem PEnd.frzE {e : AEnd} {σ1 : AW} {v : Value} (id n c' k te : Nat) (ex : Bool) (es es0 : Array Value) (cl : List Value) (he : es = es0) (h : (σ1.get id, flatL es0, frzB σ1 id n c' k ex es0) = (some (.cells cl te k), cl, true)) (hk : PEnd w0 S e (.returned (frzN id n c' (lst k ex es) 12 v)) (σ1.drop id)) : PEnd w0 S e (.returned v) σ1 := by
 subst he
 exact PEnd.frz id n c' k te ex es cl h hk
theorem HO.frcE (j te k m : Nat) (cs : List Value) (id n c' k2 te2 : Nat) (ex : Bool) (es es0 : Array Value) (cl2 : List Value) (he : es = es0) (h : (s.σ.get j, (s.σ.drop id).get j, Nat.blt j s.σ.next, s.σ.get id, flatL es0, frzB s.σ id n c' k2 ex es0) = (some (.cells cs te k), some (.cells cs te k), true, some (.cells cl2 te2 k2), cl2, true)) (hk : HO P w0 S nt ops i (frcS s j te k m id n c' cs (lst k2 ex es)) K) : HO P w0 S nt ops i s K := by
 subst he
 exact HO.frc j te k m cs id n c' k2 te2 ex es cl2 h hk
theorem H.frcE (j te k m : Nat) (cs : List Value) (id n c' k2 te2 : Nat) (ex : Bool) (es es0 : Array Value) (cl2 : List Value) (he : es = es0) (h : (s.σ.get j, (s.σ.drop id).get j, Nat.blt j s.σ.next, s.σ.get id, flatL es0, frzB s.σ id n c' k2 ex es0) = (some (.cells cs te k), some (.cells cs te k), true, some (.cells cl2 te2 k2), cl2, true)) (hk : H P w0 S nt c (frcS s j te k m id n c' cs (lst k2 ex es)) K) : H P w0 S nt c s K := by
 subst he
 exact H.frc j te k m cs id n c' k2 te2 ex es cl2 h hk
theorem HL.frcE (j te k m : Nat) (cs : List Value) (id n c' k2 te2 : Nat) (ex : Bool) (es es0 : Array Value) (cl2 : List Value) (he : es = es0) (h : (s.σ.get j, (s.σ.drop id).get j, Nat.blt j s.σ.next, s.σ.get id, flatL es0, frzB s.σ id n c' k2 ex es0) = (some (.cells cs te k), some (.cells cs te k), true, some (.cells cl2 te2 k2), cl2, true)) (hk : HL P w0 S nt c (frcS s j te k m id n c' cs (lst k2 ex es)) K) : HL P w0 S nt c s K := by
 subst he
 exact HL.frc j te k m cs id n c' k2 te2 ex es cl2 h hk
end
section
variable {P : Program} {W0 w0 : World} {S : Own} {nt n0 : Nat} {s s0 s' : St} {K K' : Cont} {c q : Code} {ops : Array Oper} {i : Nat}
theorem H.sg (h : (Nat.beq (kindC c) 1 && (Nat.beq (kindC (cL c)) 5 && (cOps (cL c)).toList.all (okOp nt))) = true) (hk : HO P w0 S nt (cOps (cL c)) 0 s (Kseq P w0 S nt (cR c) K)) : H P w0 S nt c s K := by
 rw [Bool.and_eq_true] at h
 exact H.seqP (beq_t h.1) (H.regP h.2 hk)
theorem HO.fin [NoEx P S] (n : Nat) (h : ((goA P ops n i s).isSome && Nat.beq (i + n) ops.size) = true) (hk : H P w0 S nt q (goS P ops n i s) K) : HO P w0 S nt ops i s (Kseq P w0 S nt q K) := by
 rw [Bool.and_eq_true] at h
 exact HO.goP n h.1 (HO.done h.2 (Kseq_norm hk))
theorem H.sr [NoEx P S] (n : Nat) (h : (Nat.beq (kindC c) 1 && (Nat.beq (kindC (cL c)) 5 && (cOps (cL c)).toList.all (okOp nt)) && ((goA P (cOps (cL c)) n 0 s).isSome && Nat.beq (0 + n) (cOps (cL c)).size)) = true) (hk : H P w0 S nt (cR c) (goS P (cOps (cL c)) n 0 s) K) : H P w0 S nt c s K := by
 rw [Bool.and_eq_true] at h
 exact H.sg h.1 (HO.fin n h.2 hk)
end
end Vx
end Go
set_option linter.unusedVariables false
set_option linter.unusedSimpArgs false
namespace Go
namespace Vx
def partsEq (P : Program) (t : TypeId) (n : Nat) (xs ys : Array Value) : List Nat → Option Bool
 | [] => some true
 | i :: is => match partE P t xs (i * n), partE P t ys (i * n) with
  | some x, some y => match leafEq P t x y, partsEq P t n xs ys is with
   | some b, some r => some (b && r)
   | _, _ => none
  | _, _ => none
theorem arr_loop {P : Program} {xs ys : Array Value} {t : TypeId} {n d : Nat} {k : Option Bool × Unit → Sem Bool} (hk1 : ∀ b, k (some b, ()) = pure b) (hk2 : k (none, ()) = pure true) : ∀ {is : List Nat} {r : Bool}, partsEq P t n xs ys is = some r →
  pureOf P ((forIn is ((none, ()) : Option Bool × Unit) fun i __s => (do
         let __do_lift ← part t xs (i * n)
         let __do_lift_1 ← part t ys (i * n)
         let __do_lift ← Op.equalIn (d + 1) t __do_lift __do_lift_1
         if (!__do_lift) = true then pure (ForInStep.done (some false, ()))
          else pure (ForInStep.yield (none, ())) : Sem (ForInStep (Option Bool × Unit)))) >>= k) = some r := by
 intro is
 induction is with
 | nil =>
  intro r h
  simp only [partsEq, Option.some.injEq] at h
  subst h
  rw [List.forIn_nil]
  show pureOf P (k (none, ())) = _
  rw [hk2]
  rfl
 | cons i is ih =>
  intro r h
  rw [List.forIn_cons]
  simp only [partsEq] at h
  split at h
  ·rename_i x y hx hy
   split at h
   ·rename_i b r' hb hr
    cases h
    have h3 := leafEq_ok (d := d) hb
    simp only [bind_assoc]
    rw [pureOf_bind hx, pureOf_bind hy, pureOf_bind h3]
    cases b with
    | true => exact ih hr
    | false =>
     show pureOf P (k (some false, ())) = _
     rw [hk1]
     rfl
   ·exact absurd h (by simp)
  ·exact absurd h (by simp)
theorem arrayEq_ok {P : Program} {t e : TypeId} {len n : Nat} {xs ys : Array Value} {r : Bool} (hu : P.underlying t = some (.array len e)) (hn : pureOf P (sizeOf e) = some n) (h : partsEq P e n xs ys (List.range' 0 len) = some r) {d : Nat} : pureOf P (Op.equalIn (d + 2) t (.agg xs) (.agg ys)) = some r := by
 unfold Op.equalIn
 rw [pureOf_bind (pureOf_und hu)]
 simp only
 rw [pureOf_bind hn]
 rw [Std.Legacy.Range.forIn_eq_forIn_range']
 have e1 : List.range' 0 [0:len].size 1 = List.range' 0 len := by
  congr 1
  simp [Std.Legacy.Range.size]
 show pureOf P ((forIn (List.range' 0 [0:len].size 1) _ _) >>= _) = _
 rw [e1]
 exact arr_loop (fun b => rfl) rfl h
section
variable {P : Program} {s : St} {ops : Array Oper} {i : Nat}
def eqAG (P : Program) (ops : Array Oper) (i : Nat) (s : St) : Option (Bool × Bool) :=
 match (opG ops i).op with
 | .binOp op t x y _ => match ev s.tmps x, ev s.tmps y with
  | .agg xs, .agg ys => match P.underlying t with
   | some (.array len e) => match P.eqGuardType P.depth t, plain (.agg xs) && plain (.agg ys), pureOf P (sizeOf e) with
    | false, true, some n => match op with
     | .eql => (partsEq P e n xs ys (List.range' 0 len)).map fun r => (false, r)
     | .neq => (partsEq P e n xs ys (List.range' 0 len)).map fun r => (true, r)
     | _ => none
    | _, _, _ => none
   | _ => none
  | _, _ => none
 | _ => none
theorem eqA_aop {r : Bool} (neg : Bool) (h : (atG ops i s, eqAG P ops i s) = (true, some (neg, r))) : atG ops i s = true ∧ aop P .none (ev s.tmps) (opG ops i) s.σ = some (.val (.bool (if neg then !r else r))) := by
 simp only [Prod.mk.injEq] at h
 refine ⟨h.1, ?_⟩
 have h := h.2
 unfold eqAG at h
 unfold aop
 split at h
 ·rename_i op t x y t2 hop
  split at h
  ·rename_i xs ys hx hy
   split at h
   ·rename_i len e hu
    split at h
    ·rename_i n hgd hpl hn
     have hguard : ∀ o2, o2 = .eql ∨ o2 = .neq → pureOf P (eqGuard o2 t x y (.agg xs) (.agg ys)) = some () := by
      intro o2 ho2
      unfold eqGuard
      rw [if_neg (by rcases ho2 with rfl | rfl <;> simp)]
      simp only
      rw [pureOf_bind pureOf_prog, pureOf_bind pureOf_prog]
      rw [if_pos (by simp [hgd])]
      rfl
     rw [hop]
     simp only
     have key : ∀ r0, partsEq P e n xs ys (List.range' 0 len) = some r0 → pureOf P (Op.equal t (.agg xs) (.agg ys)) = some r0 := fun r0 h0 => arrayEq_ok (d := 9998) hu hn h0
     have hnil : eqNil P t (.agg xs) (.agg ys) = none := by
      unfold eqNil
      rw [hu]
     split at h
     ·cases hf : partsEq P e n xs ys (List.range' 0 len) with
      | none => rw [hf] at h; simp at h
      | some r0 =>
       rw [hf] at h
       simp only [Option.map_some, Option.some.injEq, Prod.mk.injEq] at h
       obtain ⟨rfl, rfl⟩ := h
       simp only [binA, hx, hy, intBin, eqBin, hnil, hpl]
       unfold pureVal execOp
       rw [hop]
       simp only [hx, hy, bind_assoc]
       rw [pureOf_bind (hguard _ (by simp))]
       unfold binOp
       simp only [bind_assoc]
       rw [pureOf_bind (key _ hf)]
       rfl
     ·cases hf : partsEq P e n xs ys (List.range' 0 len) with
      | none => rw [hf] at h; simp at h
      | some r0 =>
       rw [hf] at h
       simp only [Option.map_some, Option.some.injEq, Prod.mk.injEq] at h
       obtain ⟨rfl, rfl⟩ := h
       simp only [binA, hx, hy, intBin, eqBin, hnil, hpl]
       unfold pureVal execOp
       rw [hop]
       simp only [hx, hy, bind_assoc]
       rw [pureOf_bind (hguard _ (by simp))]
       unfold binOp
       simp only [bind_assoc]
       rw [pureOf_bind (key _ hf)]
       rfl
     ·exact absurd h (by simp)
    ·exact absurd h (by simp)
   ·exact absurd h (by simp)
  ·exact absurd h (by simp)
 ·exact absurd h (by simp)
end
section
variable {P : Program} {w0 : World} {S : Own}
theorem To.wkR {f : FuncId} {args : Array Value} {σ σ' : AW} {v v' : Value} (p : Shp) (hw : wkTo 12 p v = some v') (h : To P w0 S f args σ (.returned v) σ') : To P w0 S f args σ (.returned v') σ' := by
 intro ρ w args' ha hR
 refine (h ρ w args' ha hR).mono ?_
 rintro e' w' ⟨ρ', hle, he, hR'⟩
 refine ⟨ρ', hle, ?_, hR'⟩
 cases e' with
 | returned u => exact wk_trans _ _ _ _ hw u he
 | panicked _ => exact he.elim
 | _ => exact he.elim
end
section
variable {P : Program} {w0 : World} {S : Own} {W0 : World} {nt n0 i : Nat} {c : Code} {s0 : St} {K : Cont}
theorem HQ.callV (hS : Std W0 w0 S n0) {q : List Ent × St} {f : FuncId} {args2 : Array Value} {v v' : Value} (ps : List Shp) (p : Shp) (hc : PTo P W0 f args2 (.returned v)) (hr : wkTo 12 p v = some v') (h : (wkG P (cOps c) i q.2 ps, atG (cOps c) i q.2) = (some (f, args2.toList), true)) (h0 : args2.toList.all pureB = true)
  (hk : HQ P w0 S nt c s0 (i + 1) (calQ c i v' q) K) : HQ P w0 S nt c s0 i q K := by
 simp only [Prod.mk.injEq] at h
 obtain ⟨args, hg, hw⟩ := wkG_spec h.1
 exact HD.callTo (Prod.ext hg h.2) (To.wkR p hr (To.wk ps hw (hc.to hS (PureL.of_all h0)))) hk
end
section
variable {P : Program} {w0 : World} {S : Own} {nt : Nat} {s : St} {K : Cont}
theorem HO.outE [NoEx P S] {ops : Array Oper} {i : Nat} (v : Value) (σ' : AW) (h0 : atG ops i s = true)
  (hout : ∀ ρ w (e' : Operand → Value), R w0 S s.σ ρ w → (∀ x ∈ (opG ops i).op.operands, VRel ρ (ev s.tmps x) (e' x)) → Out w0 S s.σ ρ (.eff v σ') ((execOp e' (opG ops i)).run P w))
  (hk : HO P w0 S nt ops (i + 1) (effG ops i s v σ') K) : HO P w0 S nt ops i s K := by
 obtain ⟨ho, hw, hsn⟩ := atG_spec h0
 intro hops ρ a cs w hs
 refine wpOps_at ho ?_
 have hok := okOp_at hops ho
 simp only [wpOps, ho]
 have hw := wanted_eq hs.t hops hw
 rw [if_pos hw]
 refine .inl ?_
 unfold Oper.wp
 have hout := hout ρ w a.eval hs.r (ev_rels hs.t hok hsn)
 generalize (execOp a.eval (opG ops i)).run P w = res at hout
 cases hout with
 | eff hle hv hR => exact hk hops _ _ _ _ (hs.put hle hok hv hR)
 | skip hle hR => exact hk hops _ _ _ _ (hs.put hle hok (undef_rel _) hR)
def mk' (B : Nat) (c : Int) : Option Unit := if 0 ≤ c ∧ c * B ≤ 70368744177664 ∧ c ≤ 70368744177664 then some () else none
def mkTG (P : Program) (ops : Array Oper) (i : Nat) (s : St) : Option (Nat × Nat × Int) :=
 match (opG ops i).op with
 | .makeSlice t l c => match P.underlying t, ev s.tmps l, ev s.tmps c with
  | some (.slice elem), .int _ (.ofNat 0), .int _ c => match P.info? elem, zeroT P elem with
   | some i, some z => match Nat.beq z.cells.size i.size && Nat.ble 1 i.size && Nat.blt s.σ.next (2 ^ D) with
    | true => some (i.size, i.bytes, c)
    | false => none
   | _, _ => none
  | _, _, _ => none
 | _ => none
theorem mkT_out [NoEx P S] {ops : Array Oper} {i : Nat} {k B : Nat} {c : Int} (h : mkTG P ops i s = some (k, B, c)) (h0 : 0 ≤ c) (h1 : c * B ≤ 70368744177664) (h2 : c ≤ 70368744177664) {ρ : Rho} {w : World} {e' : Operand → Value} (hR : R w0 S s.σ ρ w)
  (hev : ∀ x ∈ (opG ops i).op.operands, VRel ρ (ev s.tmps x) (e' x)) : Out w0 S s.σ ρ (.eff (tls k s.σ.next #[]) (s.σ.newTok s.σ.toks)) ((execOp e' (opG ops i)).run P w) := by
 unfold mkTG at h
 generalize opG ops i = o at h hev
 obtain ⟨dst, op, type, pos, after, guard⟩ := o
 split at h
 ·rename_i t l cc hop
  cases hop
  simp only [Op.operands] at hev
  split at h
  ·rename_i elem kl kc c' hu hl hc
   split at h
   ·rename_i i z hi hz
    split at h
    ·rename_i hb
     cases h
     simp only [Bool.and_eq_true] at hb
     obtain ⟨⟨b1, b2⟩, b3⟩ := hb
     have b1 := beq_t b1; have b2 := ble_t b2; have b3 := blt_t b3
     have e1 : e' _ = _ := (hl ▸ hev _ (by simp)).int_inv
     have e2 : e' _ = _ := (hc ▸ hev _ (by simp)).int_inv
     obtain ⟨n, rfl⟩ := Int.eq_ofNat_of_zero_le h0
     have hzr : i.zero = some z := by
      unfold zeroT at hz
      rw [hi] at hz
      simp only [Option.bind_some] at hz
      split at hz
      ·rename_i z' hz'
       split at hz
       ·cases hz; exact hz'
       ·exact absurd hz (by simp)
      ·exact absurd hz (by simp)
     have hm := run_make (P := P) w t elem i z hu hi hzr kl kc (Int.ofNat 0) (n : Int) (by decide) (Int.natCast_nonneg _)
      (by rw [Int.mul_comm]; omega) (by omega)
     simp only [execOp, Sem.run_bind, e1, e2, hm, Result.andThen_ok, Sem.run_pure]
     have hst := hR.tokStep (w' := w.alloc (.cells (madeRow z.cells (n * i.size)) elem)) (B := w.heap.size) (pfx := #[]) (row := madeRow z.cells (n * i.size)) (te := elem) (fr := (0, 0)) (size := (madeRow z.cells (n * i.size)).size) (toks := s.σ.toks) rfl rfl rfl (by show _ ≤ (w.heap.push _).size; rw [Array.size_push]; omega)
      (fun b _ hlt => heap_alloc_old _ _ _ hlt) (fun b hb hge => by
       apply Array.getElem?_eq_none
       show (w.heap.push _).size ≤ b
       rw [Array.size_push]
       omega) (heap_alloc_new _ _) (fun j v hv => by simp at hv) rfl (.inl rfl) (hR.own _ hR.size) (fun a e => by
       obtain ⟨_, _, _, q, _⟩ := hR.mem _ _ e
       rw [Array.getElem?_eq_none (Nat.le_refl _)] at q
       exact absurd q (by simp)) (fun j o M hj ej hM e => by
       have := hR.blk_lt hM ej
       omega) (fun j M p e1 e2 e => by
       have := hR.pins j M p e1 e2
       rw [e, Array.getElem?_eq_none (Nat.le_refl _)] at this
       exact absurd this (by simp)) (fun _ h => h) hR.tokNd (fun τ U ht hU e => by
       obtain ⟨_, T2, q2, q3⟩ := hR.tok τ ht
       rw [hU] at q2
       cases q2
       obtain ⟨_, a2, c2, fr2, _, _, q4, _⟩ := q3 U rfl
       have := heap_lt q4
       omega) b3
     obtain ⟨hle, hR2⟩ := hst
     have hsz : (madeRow z.cells (n * i.size)).size = n * i.size := by simp [madeRow]
     refine .eff hle ?_ hR2
     refine .tok (n := 0) (c := n) (A := some ⟨w.heap.size, 0, none⟩) (T := some ⟨w.heap.size, 0, (madeRow z.cells (n * i.size)).size, elem⟩) ?_ (by simp [Rho.grown]) ⟨0, rfl, by simp, by simp only [hsz]; omega⟩
     exact .lst (es := #[]) (g := fun _ => .nilFunc) (Nat.zero_le _) (fun h => by cases h) (fun h => by cases h) (fun i v h => by simp at h) (fun h => by simp at h) (fun i v j u h => by simp at h)
    ·exact absurd h (by simp)
   ·exact absurd h (by simp)
  ·exact absurd h (by simp)
 ·exact absurd h (by simp)
theorem HO.mkT [NoEx P S] {ops : Array Oper} {i : Nat} {k B : Nat} {c : Int} {u : Unit} (hy : mk' B c = some u) (h : (atG ops i s, mkTG P ops i s) = (true, some (k, B, c))) (hk : HO P w0 S nt ops (i + 1) (effG ops i s (tls k s.σ.next #[]) (s.σ.newTok s.σ.toks)) K) : HO P w0 S nt ops i s K := by
 simp only [Prod.mk.injEq] at h
 unfold mk' at hy
 split at hy
 ·rename_i hc
  exact HO.outE _ _ h.1 (fun ρ w e' hR hev => mkT_out h.2 hc.1 hc.2.1 hc.2.2 hR hev) hk
 ·exact absurd hy (by simp)
end
end Vx
end Go
set_option linter.unusedVariables false
set_option linter.unusedSimpArgs false
namespace Go
namespace Vx
def tailZ (z : List Value) : Nat → List Value
 | 0 => []
 | n + 1 => z ++ tailZ z n
def flatE {α : Type} (enc : α → Value) (l : List α) : List Value := l.flatMap fun x => (enc x).cells.toList
def rowL {α : Type} (enc : α → Value) (z : List Value) (l : List α) (c : Nat) : List Value := flatE enc l ++ tailZ z (c - l.length)
theorem flatE_len {α : Type} {enc : α → Value} {k : Nat} (hk : ∀ x, (enc x).cells.size = k) : ∀ l : List α, (flatE enc l).length = l.length * k
 | [] => by simp [flatE]
 | x :: l => by
  have := flatE_len hk l
  unfold flatE at this ⊢
  rw [List.flatMap_cons, List.length_append, this, Array.length_toList, hk, List.length_cons, Nat.add_mul]
  omega
theorem putCells_nil : ∀ (cs : List Value) (n : Nat), putCells cs n [] = cs
 | [], _ => rfl
 | c :: cs, 0 => rfl
 | c :: cs, n + 1 => by rw [putCells, putCells_nil cs n]
section
variable {P : Program} {w0 : World} {S : Own} {nt : Nat} {s : St} {K : Cont}
def rowG (P : Program) (ops : Array Oper) (i : Nat) (s : St) : Option (Nat × Nat × Nat × Nat × Nat × List Value × Nat × Nat × List Value) :=
 match (opG ops i).op with
 | .call ⟨.builtin .append, args, ts⟩ => match ts[0]?, ((args.map (ev s.tmps))[0]? : Option Value), ((args.map (ev s.tmps))[1]? : Option Value) with
  | some sT, some (Value.slice (some ⟨id, 0, none⟩) len cap), some x => match P.underlying sT with
   | some (.slice elem) => match P.info? elem with
    | some ti => match ti.zero with
     | some z => match Nat.ble 1 ti.size && Nat.beq z.cells.size ti.size && Nat.blt sT TB && notZeros P ts[1]? && Nat.ble 1 ti.bytes with
      | true => match elemCells s.σ ti.size x, s.σ.get id with
       | some (n, new), some (.cells cs ce k) => match Nat.beq ti.size k && Nat.beq ce elem with
        | true => some (id, len, cap, k, ti.bytes, cs, elem, n, new)
        | false => none
       | _, _ => none
      | false => none
     | none => none
    | none => none
   | _ => none
  | _, _, _ => none
 | _ => none
def appR {α : Type} (B c : Nat) (l : List α) (x : α) : Option (List α) := if l.length + 1 ≤ c ∧ c ≤ 70368744177664 ∧ (l.length + 1) * B ≤ 70368744177664 then some (l ++ [x]) else none
def newR (σ : AW) (o : AObj) : AW := { σ with objs := σ.objs.set D σ.next (some o), next := σ.next + 1 }
def mkR (B : Nat) (c : Int) : Option Unit := if 0 ≤ c ∧ B * c ≤ 1099511627776 ∧ c ≤ 1099511627776 then some () else none
def mkRG (P : Program) (ops : Array Oper) (i : Nat) (s : St) : Option (Nat × Nat × Nat × List Value × Int) :=
 match (opG ops i).op with
 | .makeSlice t l c => match P.underlying t, ev s.tmps l, ev s.tmps c with
  | some (.slice elem), .int _ (.ofNat 0), .int _ c => match P.info? elem, zeroT P elem, sizeT P elem with
   | some i, some z, some k => match Nat.beq z.cells.size i.size && Nat.ble 1 i.size && Nat.blt s.σ.next (2 ^ D) && Nat.beq k i.size with
    | true => some (k, i.bytes, elem, z.cells.toList, c)
    | false => none
   | _, _, _ => none
  | _, _, _ => none
 | _ => none
theorem SRel.putSlot {cs : List Frame} {ρ ρ' : Rho} {a : Act} {w : World} (hs : SRel w0 S false nt cs ρ s a cs w) (hle : ρ.le ρ') {σ' : AW} (hR : R w0 S σ' ρ' w) (d : Nat) {v' : Value} (hd : s.tmps.has d = true) (ht : Trans ρ ρ' (s.tmps.get d) v') :
  SRel w0 S false nt cs ρ' { s with tmps := .put d v' s.tmps, σ := σ' } a cs w := by
 refine ⟨⟨hs.t.size, fun j hj hh => ?_⟩, hs.ds.mono hle, rfl, hR⟩
 by_cases e : d = j
 ·subst e
  rw [Tm.put_same]
  exact ht _ (hs.t.at_ d hj hd)
 ·have hg := Tm.gh_other (d := d) (i := j) v' s.tmps e
  show VRel ρ' ((Tm.put d v' s.tmps).get j) _
  rw [Tm.gh_get hg]
  exact (hs.t.at_ j hj (by rw [← Tm.gh_has hg]; exact hh)).mono hle
def fullR {α : Type} (c : Nat) (l : List α) : Option (List α) := if l.length = c ∧ c ≤ 70368744177664 then some l else none
theorem flatE_eq {α : Type} (enc : α → Value) (l : List α) : flatL (l.map enc).toArray = flatE enc l := by
 unfold flatL flatE
 simp [List.flatMap_map]
theorem mapO_app {f : Value → Option Value} : ∀ {a b : List Value}, mapO f a = some a → mapO f b = some b → mapO f (a ++ b) = some (a ++ b)
 | [], b, _, h => h
 | x :: a, b, h, hb => by
  simp only [mapO] at h
  split at h
  ·rename_i y ys hx hxs
   cases h
   rw [List.cons_append]
   simp only [mapO, hx, mapO_app hxs hb]
  ·exact absurd h (by simp)
theorem row_ren {α : Type} {enc : α → Value} {z : List Value} {te k : Nat} {m : List Nat} (hE : ∀ f x, mapO (renF f 12) (enc x).cells.toList = some (enc x).cells.toList) (hz : ∀ f, mapO (renF f 12) z = some z) (l : List α) (c : Nat) : renO m (.cells (rowL enc z l c) te k) = some (.cells (rowL enc z l c) te k) := by
 have h1 : ∀ l : List α, mapO (renF (invM m) 12) (flatE enc l) = some (flatE enc l) := by
  intro l
  induction l with
  | nil => rfl
  | cons x l ih =>
   unfold flatE at ih ⊢
   rw [List.flatMap_cons]
   exact mapO_app (hE _ x) ih
 have h2 : ∀ n, mapO (renF (invM m) 12) (tailZ z n) = some (tailZ z n) := by
  intro n
  induction n with
  | zero => rfl
  | succ n ih => rw [tailZ]; exact mapO_app (hz _) ih
 unfold renO renOF rowL
 simp only [mapO_app (h1 l) (h2 (c - l.length))]
def renOsR (rid : Nat) (m : List Nat) (σ : AW) : List (Nat × AObj) → List (Option AObj)
 | [] => []
 | p :: l => (match Nat.beq p.1 rid with
  | true => (m[p.1]?).bind σ.get
  | false => ((m[p.1]?).bind σ.get).bind (renO m)) :: renOsR rid m σ l
theorem renOsR_eq {rid : Nat} {m : List Nat} {σ : AW} : ∀ {ob : List (Nat × AObj)}, (∀ p, p ∈ ob → p.1 = rid → renO m p.2 = some p.2) → renOsR rid m σ ob = wantO ob → renOs m σ ob = wantO ob
 | [], _, _ => rfl
 | p :: ob, hp, h => by
  simp only [renOsR, wantO, List.cons.injEq] at h
  simp only [renOs, wantO, List.cons.injEq]
  refine ⟨?_, renOsR_eq (fun q hq => hp q (by simp [hq])) h.2⟩
  have h1 := h.1
  split at h1
  ·rename_i hb
   rw [h1]
   exact hp p (by simp) (beq_t hb)
  ·exact h1
section
variable {W0 : World} {n0 : Nat} {cd : Code}
theorem H.renR (hS : Std W0 w0 S n0) (rid : Nat) (m : List Nat) (sl : List (Nat × Value)) (ob : List (Nat × AObj)) (tk : List Nat) (hp : ∀ p, p ∈ ob → p.1 = rid → renO m p.2 = some p.2) (h : (renT m s.tmps sl, renOsR rid m s.σ ob, s.defers.isEmpty, renB n0 m s.σ ob tk) = (renTw sl, wantO ob, true, true))
  (hk : H P w0 S nt cd (mkS sl ob m.length tk) K) : H P w0 S nt cd s K := by
 simp only [Prod.mk.injEq] at h
 exact H.ren hS m sl ob tk (Prod.ext h.1 (Prod.ext (renOsR_eq hp h.2.1) (Prod.ext h.2.2.1 h.2.2.2))) hk
theorem HL.renR (hS : Std W0 w0 S n0) (rid : Nat) (m : List Nat) (sl : List (Nat × Value)) (ob : List (Nat × AObj)) (tk : List Nat) (hp : ∀ p, p ∈ ob → p.1 = rid → renO m p.2 = some p.2) (h : (renT m s.tmps sl, renOsR rid m s.σ ob, s.defers.isEmpty, renB n0 m s.σ ob tk) = (renTw sl, wantO ob, true, true))
  (hk : HL P w0 S nt cd (mkS sl ob m.length tk) K) : HL P w0 S nt cd s K := by
 simp only [Prod.mk.injEq] at h
 exact HL.ren hS m sl ob tk (Prod.ext h.1 (Prod.ext (renOsR_eq hp h.2.1) (Prod.ext h.2.2.1 h.2.2.2))) hk
end
end
end Vx
end Go
set_option linter.unusedVariables false
namespace Go
namespace Vx
section
variable {P : Program} {W0 w0 : World} {S : Own} {nt n0 : Nat} {s s0 : St} {K : Cont} {c q : Code} {ops : Array Oper} {i : Nat}
theorem H.seq' (hk : H P w0 S nt (cL c) s (Kseq P w0 S nt (cR c) K)) (h : kindC c = 1 := by kernel_rfl) : H P w0 S nt c s K := H.seqP h hk
theorem H.skp' (hk : K .normal s) (h : kindC c = 9 := by kernel_rfl) : H P w0 S nt c s K := H.skipP h hk
theorem H.ret' (hk : K .ret s) (h : kindC c = 7 := by kernel_rfl) : H P w0 S nt c s K := H.retP h hk
theorem H.lop' (hk : HL P w0 S nt (cL c) s K) (h : kindC c = 4 := by kernel_rfl) : H P w0 S nt c s K := H.loopP h hk
theorem H.blk' (j : Nat) (hk : H P w0 S nt (cL c) s (Kblock j K)) (h : (kindC c, idC c) = (3, j) := by kernel_rfl) : H P w0 S nt c s K := H.blockI j h hk
theorem H.ext' (j : Nat) (hk : K (.exit j) s) (h : (kindC c, idC c) = (8, j) := by kernel_rfl) : H P w0 S nt c s K := H.exitI j h hk
theorem H.reg' (hk : HO P w0 S nt (cOps c) 0 s K) (h : (Nat.beq (kindC c) 5 && (cOps c).toList.all (okOp nt)) = true := by kernel_rfl) : H P w0 S nt c s K := H.regP h hk
theorem H.sg' (hk : HO P w0 S nt (cOps (cL c)) 0 s (Kseq P w0 S nt (cR c) K)) (h : (Nat.beq (kindC c) 1 && (Nat.beq (kindC (cL c)) 5 && (cOps (cL c)).toList.all (okOp nt))) = true := by kernel_rfl) : H P w0 S nt c s K := H.sg h hk
theorem H.sr' [NoEx P S] (n : Nat) (hk : H P w0 S nt (cR c) (goS P (cOps (cL c)) n 0 s) K) (h : (Nat.beq (kindC c) 1 && (Nat.beq (kindC (cL c)) 5 && (cOps (cL c)).toList.all (okOp nt)) && ((goA P (cOps (cL c)) n 0 s).isSome && Nat.beq (0 + n) (cOps (cL c)).size)) = true := by kernel_rfl) : H P w0 S nt c s K := H.sr n h hk
theorem HO.fin' [NoEx P S] (n : Nat) (hk : H P w0 S nt q (goS P ops n i s) K) (h : ((goA P ops n i s).isSome && Nat.beq (i + n) ops.size) = true := by kernel_rfl) : HO P w0 S nt ops i s (Kseq P w0 S nt q K) := HO.fin n h hk
theorem HO.go' [NoEx P S] (n : Nat) (hk : HO P w0 S nt ops (i + n) (goS P ops n i s) K) (h : (goA P ops n i s).isSome = true := by kernel_rfl) : HO P w0 S nt ops i s K := HO.goP n h hk
theorem HO.end' (hk : K .normal s) (h : Nat.beq i ops.size = true := by kernel_rfl) : HO P w0 S nt ops i s K := HO.done h hk
theorem HQ.go' {q : List Ent × St} (n : Nat) (hk : HQ P w0 S nt c s0 (i + n) (goQ P c n i q) K) (h : (goD P (cOps c) n i q.1 q.2).isSome = true := by kernel_rfl) : HQ P w0 S nt c s0 i q K := HQ.goP n h hk
theorem H.cT' (hk : H P w0 S nt (cL c) s K) (hc : kindC c = 2 := by kernel_rfl) (hb : (okOperand nt (conC c) && seenO s.tmps (conC c), ev s.tmps (conC c)) = (true, .bool true) := by kernel_rfl) : H P w0 S nt c s K := H.condT hc hb hk
theorem H.cF' (hk : H P w0 S nt (cR c) s K) (hc : kindC c = 2 := by kernel_rfl) (hb : (okOperand nt (conC c) && seenO s.tmps (conC c), ev s.tmps (conC c)) = (true, .bool false) := by kernel_rfl) : H P w0 S nt c s K := H.condF hc hb hk
theorem H.cS' (b : Bool) (h1 : b = true → H P w0 S nt (cL c) s K) (h2 : b = false → H P w0 S nt (cR c) s K) (hc : kindC c = 2 := by kernel_rfl) (hb : (okOperand nt (conC c) && seenO s.tmps (conC c), ev s.tmps (conC c)) = (true, .bool b) := by kernel_rfl) : H P w0 S nt c s K := H.condS hc hb h1 h2
theorem HO.bo' [NoEx P S] (b : Bool) (h1 : b = true → HO P w0 S nt ops (i + 1) (putG ops i s (.bool true)) K) (h2 : b = false → HO P w0 S nt ops (i + 1) (putG ops i s (.bool false)) K) (h0 : atG ops i s = true := by kernel_rfl) (h : aop P .none (ev s.tmps) (opG ops i) s.σ = some (.val (.bool b)) := by kernel_rfl) : HO P w0 S nt ops i s K := HO.boolP b h0 h h1 h2
theorem H.ren' (hS : Std W0 w0 S n0) (m : List Nat) {sl : List (Nat × Value)} {ob : List (Nat × AObj)} {tk : List Nat} (hk : H P w0 S nt c (mkS sl ob m.length tk) K) (h : (renT m s.tmps sl, renOs m s.σ ob, s.defers.isEmpty, renB n0 m s.σ ob tk) = (renTw sl, wantO ob, true, true) := by kernel_rfl) : H P w0 S nt c s K := H.ren hS m sl ob tk h hk
theorem HL.ren' (hS : Std W0 w0 S n0) (m : List Nat) {sl : List (Nat × Value)} {ob : List (Nat × AObj)} {tk : List Nat} (hk : HL P w0 S nt c (mkS sl ob m.length tk) K) (h : (renT m s.tmps sl, renOs m s.σ ob, s.defers.isEmpty, renB n0 m s.σ ob tk) = (renTw sl, wantO ob, true, true) := by kernel_rfl) : HL P w0 S nt c s K := HL.ren hS m sl ob tk h hk
theorem KEnd.r' {fn : Func} {x : AExit} {v : Value} (hx : (match x with | .normal => true | .ret => true | _ => false) = true := by kernel_rfl) (h : leaves P (exec P .none Ext.none 60 true) fn s.tmps s.defers .returning s.σ = .ok (.returned v, s.σ) := by kernel_rfl) (hp : pureB v = true := by kernel_rfl) :
  KEnd P fn (PEnd w0 S (.returned v)) x s := KEnd.ret hx h hp
end
end Vx
end Go
set_option linter.unusedVariables false
set_option linter.unusedSimpArgs false
namespace Go
namespace Vx
theorem flatE_app {α : Type} (enc : α → Value) (a b : List α) : flatE enc (a ++ b) = flatE enc a ++ flatE enc b := by
 unfold flatE
 exact List.flatMap_append
theorem flatE_at {α : Type} {enc : α → Value} {l : List α} {j : Nat} {x : α} (h : l[j]? = some x) : flatE enc l = flatE enc (l.take j) ++ ((enc x).cells.toList ++ flatE enc (l.drop (j + 1))) := by
 obtain ⟨hj, rfl⟩ := List.getElem?_eq_some_iff.1 h
 have e : l = l.take j ++ (l[j] :: l.drop (j + 1)) := by
  rw [← List.drop_eq_getElem_cons hj, List.take_append_drop]
 conv => lhs; rw [e]
 rw [flatE_app]
 congr 1
theorem putCells_in : ∀ (a b vs : List Value) (o : Nat), o + vs.length ≤ a.length → putCells (a ++ b) o vs = putCells a o vs ++ b
 | [], b, vs, o, h => by
  have h' : o + vs.length ≤ 0 := h
  have : vs = [] := List.eq_nil_of_length_eq_zero (by omega)
  subst this
  rw [putCells_nil, putCells_nil]
 | x :: a, b, [], o, h => by rw [putCells_nil, putCells_nil]
 | x :: a, b, v :: vs, 0, h => by
  simp only [List.cons_append, putCells]
  rw [putCells_in a b vs 0 (by simp at h ⊢; omega)]
 | x :: a, b, v :: vs, o + 1, h => by
  simp only [List.cons_append, putCells]
  rw [putCells_in a b (v :: vs) o (by simp at h ⊢; omega)]
theorem putCells_mid : ∀ (p a vs : List Value) (o : Nat), putCells (p ++ a) (p.length + o) vs = p ++ putCells a o vs
 | [], a, vs, o => by simp
 | x :: p, a, vs, o => by
  rw [List.cons_append, List.length_cons, show p.length + 1 + o = (p.length + o) + 1 by omega]
  cases vs with
  | nil => simp [putCells_nil]
  | cons v vs =>
   simp only [putCells]
   rw [putCells_mid p a (v :: vs) o]
   rfl
theorem row_wr {α : Type} {enc : α → Value} {k : Nat} (hk : ∀ x, (enc x).cells.size = k) {z : List Value} {l : List α} {c j o : Nat} {x x' : α} {vs : List Value} (h : l[j]? = some x) (hv : o + vs.length ≤ k) (he : putCells (enc x).cells.toList o vs = (enc x').cells.toList) :
  putCells (rowL enc z l c) (j * k + o) vs = rowL enc z (l.set j x') c := by
 have hj := (List.getElem?_eq_some_iff.1 h).1
 have hp : (flatE enc (l.take j)).length = j * k := by rw [flatE_len hk, List.length_take, Nat.min_eq_left (by omega)]
 have hx : (enc x).cells.toList.length = k := by rw [Array.length_toList, hk]
 have h2 : (l.set j x')[j]? = some x' := by rw [List.getElem?_set_self hj]
 unfold rowL
 rw [List.length_set, flatE_at h, flatE_at h2, List.append_assoc, List.append_assoc, List.append_assoc, List.append_assoc, ← hp, putCells_mid, putCells_in _ _ _ _ (by rw [hx]; exact hv), he, List.take_set_of_le (Nat.le_refl j), List.drop_set_of_lt (by omega)]
section
variable {P : Program} {w0 : World} {S : Own} {nt : Nat} {s : St} {K : Cont}
def rowIG (P : Program) (ops : Array Oper) (i : Nat) (s : St) : Option (Nat × Nat × Nat × Int) :=
 match (opG ops i).op with
 | .indexAddr t x j => match P.underlying t, ev s.tmps x, ev s.tmps j with
  | some (.slice elem), .slice (some ⟨id, 0, none⟩) len _, .int _ n => match sizeT P elem with
   | some k => some (id, len, k, n)
   | none => none
  | _, _, _ => none
 | _ => none
theorem rowIdx_aop {ops : Array Oper} {i id k : Nat} {α : Type} {l : List α} {j : Int} {x : α} (hx : at' l j = some x) (h : (atG ops i s, rowIG P ops i s) = (true, some (id, l.length, k, j))) :
  atG ops i s = true ∧ aop P .none (ev s.tmps) (opG ops i) s.σ = some (.val (.pointer (some ⟨id, j.toNat * k, none⟩))) := by
 simp only [Prod.mk.injEq] at h
 obtain ⟨h0, h⟩ := h
 refine ⟨h0, ?_⟩
 have hj := at'_spec hx
 unfold at' at hx
 split at hx
 case isFalse => exact absurd hx (by simp)
 rename_i hj0
 obtain ⟨n, rfl⟩ := Int.eq_ofNat_of_zero_le hj0
 have hlt : n < l.length := (List.getElem?_eq_some_iff.1 hx).1
 unfold rowIG at h
 unfold aop
 split at h
 ·rename_i t a b hop
  rw [hop]
  simp only
  split at h
  ·rename_i elem id' len cap kk n' hu hl hn
   split at h
   ·rename_i k' hs
    cases h
    unfold indexAddrA
    rw [hu, hl, hn]
    simp only [hs]
    have hb : Nat.blt n l.length = true := by unfold Nat.blt; exact Nat.ble_eq_true_of_le hlt
    show valOf (if Nat.blt n l.length = true then some (Value.pointer (some ⟨id, 0 + n * k, none⟩)) else none) = _
    rw [hb, Nat.zero_add]
    rfl
   ·exact absurd h (by simp)
  ·exact absurd h (by simp)
 ·exact absurd h (by simp)
def rowLG (P : Program) (ops : Array Oper) (i : Nat) (s : St) : Option (Nat × Nat × Nat × List Value × Nat) :=
 match (opG ops i).op with
 | .load t a => match ev s.tmps a, isAggT P t, sizeT P t with
  | .pointer (some ⟨id, off, none⟩), some true, some k => match s.σ.get id with
   | some (.cells cs te _) => some (id, off, k, cs, te)
   | _ => none
  | _, _, _ => none
 | _ => none
def rowSG (P : Program) (ops : Array Oper) (i : Nat) (s : St) : Option (Nat × Nat × List Value × Nat × Nat × List Value) :=
 match (opG ops i).op with
 | .store t a x => match ev s.tmps a, sizeT P t with
  | .pointer (some ⟨id, off, none⟩), some n => match s.σ.get id, Nat.beq (ev s.tmps x).cells.size n && !((ev s.tmps x).cells.toList.any notCell) with
   | some (.cells cs te k), true => some (id, off, cs, k, te, (ev s.tmps x).cells.toList)
   | _, _ => none
  | _, _ => none
 | _ => none
theorem rowStore_aop {ops : Array Oper} {i id k te c o : Nat} {α : Type} {enc : α → Value} {z vs : List Value} {l : List α} {j : Int} {x : α} (x' : α) (hk : ∀ x, (enc x).cells.size = k) (hx : at' l j = some x)
  (h : (atG ops i s, rowSG P ops i s) = (true, some (id, j.toNat * k + o, rowL enc z l c, k, te, vs))) (hv : o + vs.length ≤ k) (he : putCells (enc x).cells.toList o vs = (enc x').cells.toList) :
  atG ops i s = true ∧ aop P .none (ev s.tmps) (opG ops i) s.σ = some (.eff undef (s.σ.put id (.cells (rowL enc z (l.set j.toNat x') c) te k))) := by
 simp only [Prod.mk.injEq] at h
 obtain ⟨h0, h⟩ := h
 refine ⟨h0, ?_⟩
 unfold at' at hx
 split at hx
 case isFalse => exact absurd hx (by simp)
 have hw := row_wr (k := k) hk (z := z) (c := c) (vs := vs) hx hv he
 have hj := (List.getElem?_eq_some_iff.1 hx).1
 have hlen : j.toNat * k + o + vs.length ≤ (rowL enc z l c).length := by
  unfold rowL
  rw [List.length_append, flatE_len hk]
  have := Nat.mul_le_mul_right k (show j.toNat + 1 ≤ l.length from hj)
  rw [Nat.add_mul] at this
  omega
 unfold rowSG at h
 unfold aop
 split at h
 ·rename_i t a b hop
  rw [hop]
  simp only
  split at h
  ·rename_i id' off' n' ha hs
   split at h
   ·rename_i cs te' k2 hg hb
    cases h
    unfold storeA
    rw [ha]
    simp only [hs, hb]
    unfold wrCells
    rw [hg]
    simp only [Nat.ble_eq_true_of_le hlen, hw]
    rfl
   ·exact absurd h (by simp)
  ·exact absurd h (by simp)
 ·exact absurd h (by simp)
theorem rowO_aop {ops : Array Oper} {i id len k B elem n : Nat} {cs new : List Value} (h : (atG ops i s, rowG P ops i s) = (true, some (id, len, OPEN, k, B, cs, elem, n, new)))
  (hn : n ≠ 0) (hk0 : 0 < k) (hsz : (sizeT P elem, Nat.blt (s.σ.drop id).next (2 ^ D)) = (some k, true)) (h3 : (len + n) * B ≤ 2 ^ 46) (h4 : cs.length = len * k) (h5 : new.any notCell = false) :
  atG ops i s = true ∧ aop P .none (ev s.tmps) (opG ops i) s.σ = some (.eff (.slice (some ⟨(s.σ.drop id).next, 0, none⟩) (len + n) OPEN) (newR (s.σ.drop id) (.cells (cs ++ new) elem k))) := by
 simp only [Prod.mk.injEq] at h
 obtain ⟨h0, h⟩ := h
 refine ⟨h0, ?_⟩
 unfold rowG at h
 unfold aop
 split at h
 ·rename_i args ts hop
  rw [hop]
  simp only [callA, builtinR, builtinA]
  split at h
  ·rename_i sT id' len' cap' x ht hs hx
   split at h
   ·rename_i el hu
    split at h
    ·rename_i ti hi
     split at h
     ·rename_i z hz
      split at h
      ·rename_i hc
       simp only [Bool.and_eq_true] at hc
       obtain ⟨⟨⟨⟨c1, c2⟩, c3⟩, c4⟩, c8⟩ := hc
       have hB := ble_t c8
       split at h
       ·rename_i n' new' cs' ce k' hec hg
        split at h
        ·rename_i hke
         cases h
         simp only [Bool.and_eq_true] at hke
         obtain ⟨hk1, hk2⟩ := hke
         have e1 := beq_t hk1
         have e2 := beq_t hk2
         subst e1
         subst e2
         obtain ⟨m, rfl⟩ : ∃ m, n = m + 1 := ⟨n - 1, by omega⟩
         have q1 : moreOf P s.σ ts[1]? ti z x = some (m + 1, new) := by unfold moreOf; rw [c4]; exact hec
         have q2 : (Nat.ble ((len + (m + 1)) * ti.bytes) (2 ^ 46) && Nat.ble (len + (m + 1)) (2 ^ 46)) = true := by
          rw [Bool.and_eq_true]
          exact ⟨Nat.ble_eq_true_of_le h3, Nat.ble_eq_true_of_le (Nat.le_trans (Nat.le_mul_of_pos_right _ (by omega)) h3)⟩
         rw [ht, hs, hx]
         unfold appendA
         simp only [hu, hi, hz, c1, c2, c3, Bool.and_self, q1]
         simp only [Prod.mk.injEq] at hsz
         have hroom : Nat.ble ((len + (m + 1)) * ti.size) cs.length = false := by
          cases hq : Nat.ble ((len + (m + 1)) * ti.size) cs.length with
          | false => rfl
          | true =>
           have := ble_t hq
           rw [h4, Nat.add_mul, Nat.add_mul] at this
           omega
         have hopen : Nat.ble OPEN (2 ^ 64) = false := by decide
         have hrd : rdCells s.σ id 0 (len * ti.size) = some cs := by
          unfold rdCells
          rw [hg]
          unfold pieces
          simp only [Nat.zero_add, ← h4, Nat.ble_eq_true_of_le (Nat.le_refl _), List.drop_zero, List.take_length]
         simp only [lenOfA, q2, h5, Bool.not_false, Bool.and_self, appendTo, hg, Nat.beq_refl, hopen, Nat.zero_add, hroom, hrd]
         unfold newCells AW.new
         simp only [hsz.1, hsz.2]
         rfl
        ·exact absurd h (by simp)
       ·exact absurd h (by simp)
      ·exact absurd h (by simp)
     ·exact absurd h (by simp)
    ·exact absurd h (by simp)
   ·exact absurd h (by simp)
  ·exact absurd h (by simp)
 ·exact absurd h (by simp)
end
end Vx
end Go
set_option linter.unusedVariables false
set_option linter.unusedSimpArgs false
namespace Go
namespace Vx
section
variable {P : Program} {W0 w0 : World} {S : Own} {nt n0 : Nat} {s : St} {K : Cont}
def InQ (P : Program) (w0 : World) (S : Own) (nt : Nat) (ops : Array Oper) (i : Nat) (s : St) (K : Cont) : AEnd → AW → Prop
 | .returned v, σ' => HO P w0 S nt ops (i + 1) (effG ops i s v σ') K
 | .panicked ch, σ' => K (.panic ch) { s with σ := σ' }
theorem KEnd.inl {fn : Func} {ops : Array Oper} {i : Nat} {x : AExit} {s1 : St} {v : Value} (hx : (match x with | .normal => true | .ret => true | _ => false) = true)
  (h : leaves P (exec P .none Ext.none 60 true) fn s1.tmps s1.defers .returning s1.σ = .ok (.returned v, s1.σ)) (hk : HO P w0 S nt ops (i + 1) (effG ops i s v s1.σ) K) : KEnd P fn (InQ P w0 S nt ops i s K) x s1 := KEnd.of hx h hk
theorem HO.inl [NoEx P S] (hS : Std W0 w0 S n0) {ops : Array Oper} {i : Nat} {f : FuncId} {fn : Func} {code : Code} {args : Array Value} (hf : P.funcs[f]? = some fn) (hcode : fn.body = some code) (hsz : Nat.ble args.size fn.ntmps = true)
  (h : (callG P ops i s, atG ops i s) = (some (f, args), true))
  (hk : ∀ S1, Std W0 w0 S1 s.σ.next → H P w0 S1 fn.ntmps code ⟨Tm.fill args.toList 0, [], .run, s.σ⟩ (KEnd P fn (InQ P w0 S nt ops i s K))) : HO P w0 S nt ops i s K := by
 simp only [Prod.mk.injEq] at h
 obtain ⟨ho, hw, h3⟩ := atG_spec h.2
 have hq : aopT P .none s.tmps (opG ops i) s.σ = some (.call f args) := by
  unfold aopT
  rw [h3]
  have h := h.1
  unfold callG at h
  split at h
  ·rename_i f' a' he
   cases h
   exact he
  ·exact absurd h (by simp)
 intro hops ρ a cs w hs
 refine wpOps_at ho ?_
 have hok := okOp_at hops ho
 simp only [wpOps, ho]
 have hw := wanted_eq hs.t hops hw
 rw [if_pos hw]
 refine .inl ?_
 unfold Oper.wp
 have hout := aop_sound hs.r (FactsOk.none P S) (aopT_eq hq).2 (e' := a.eval) (ev_rels hs.t hok (aopT_eq hq).1)
 generalize (execOp a.eval (opG ops i)).run P w = res at hout
 cases hout with
 | call ha hR =>
  let S1 : Own := { S with base := ρ }
  have hS1 : Std W0 w0 S1 s.σ.next := ⟨hS.ex, hS.sp, fun i L e => hR.lt e, fun i T e => by
   rcases Nat.lt_or_ge i s.σ.next with q | q
   ·exact q
   ·have e : ρ.tok i = some T := e
    rw [hR.tokDom i q] at e
    exact absurd e (by simp), hS.own, hS.below⟩
  haveI := hS1.noEx P
  have hR1 : R w0 S1 s.σ ρ _ := { hR with base := Rho.le_refl _, memNew := fun b o e => .inl ⟨o, e⟩, memBase := fun b o e _ => e }
  refine Calls.mono (calls_of_H hf hcode hsz (hk S1 hS1) ha hR1) ?_
  rintro e' w' ⟨e1, σ1, ρ1, hQ, he, hR3⟩
  have hR4 : R w0 S σ1 ρ1 w' := { hR3 with
   base := Rho.le_trans hR.base hR3.base
   memNew := fun b o e => by
    rcases hR3.memNew b o e with ⟨o', q⟩ | q
    ·exact hR.memNew b o' q
    ·exact .inr q
   memBase := fun b o e hn => hR3.memBase b o (hR.memBase b o e hn) hn }
  have hle := hR3.base
  cases e1 with
  | returned v =>
   cases e' with
   | returned v' => exact hQ hops _ _ _ _ (hs.put hle hok he hR4)
   | panicked ch => exact he.elim
   | outgrown => exact he.elim
  | panicked ch =>
   cases e' with
   | returned v' => exact he.elim
   | panicked ch' => exact SRel.postK (s := { s with σ := σ1 }) (x := .panic _) (e := .panic _) ⟨hs.t.mono hle, hs.ds.mono hle, rfl, hR4⟩ hQ he
   | outgrown => exact he.elim
end
end Vx
end Go
set_option linter.unusedVariables false
set_option linter.unusedSimpArgs false
namespace Go
namespace Vx
theorem rowL_full {α : Type} (enc : α → Value) (z : List Value) (l : List α) : rowL enc z l l.length = flatE enc l := by simp [rowL, tailZ]
section
variable {P : Program} {w0 : World} {S : Own} {nt : Nat} {s : St} {K : Cont} {ops : Array Oper} {i : Nat} {cd : Code}
theorem rowApp_aop {α : Type} {enc : α → Value} {z new : List Value} {l l' : List α} {x : α} {id k B elem : Nat} (hk : ∀ x, (enc x).cells.size = k) (hk0 : 0 < k) (hy : app' B l [x] = some l')
  (h : (atG ops i s, rowG P ops i s) = (true, some (id, l.length, OPEN, k, B, rowL enc z l l.length, elem, 1, new))) (hsz : (sizeT P elem, Nat.blt (s.σ.drop id).next (2 ^ D)) = (some k, true)) (hnew : (enc x).cells.toList = new) (h5 : new.any notCell = false) :
  atG ops i s = true ∧ aop P .none (ev s.tmps) (opG ops i) s.σ = some (.eff (.slice (some ⟨(s.σ.drop id).next, 0, none⟩) l'.length OPEN) (newR (s.σ.drop id) (.cells (rowL enc z l' l'.length) elem k))) := by
 unfold app' at hy
 split at hy
 ·rename_i hc
  cases hy
  have hr := rowO_aop h (by decide) hk0 hsz (by simpa using hc) (by rw [rowL_full, flatE_len hk]) h5
  rw [rowL_full] at hr
  rw [rowL_full, flatE_app]
  have e : flatE enc [x] = new := by rw [← hnew]; simp [flatE]
  rw [e, List.length_append]
  exact hr
 ·exact absurd hy (by simp)
def putO (s : St) (id : Nat) (o : AObj) : St := { s with σ := s.σ.put id o }
theorem SRel.toRow {cs : List Frame} {ρ : Rho} {a : Act} {w : World} (hs : SRel w0 S false nt cs ρ s a cs w) {id te k : Nat} {cl cl' : List Value} (he : cl = cl') (h : (s.σ.get id, Nat.blt id s.σ.next) = (some (.cells cl te k), true)) : SRel w0 S false nt cs ρ (putO s id (.cells cl' te k)) a cs w := by
 simp only [Prod.mk.injEq] at h
 subst he
 refine ⟨hs.t, hs.ds, hs.cs, hs.r.recell (blt_t h.2) h.1 rfl fun L hL => (hs.r.at hL h.1).2⟩
theorem H.toRow (id te k : Nat) (cl cl' : List Value) (he : cl = cl') (h : (s.σ.get id, Nat.blt id s.σ.next) = (some (.cells cl te k), true)) (hk : H P w0 S nt cd (putO s id (.cells cl' te k)) K) : H P w0 S nt cd s K := fun ρ a cs w hs => hk ρ a cs w (hs.toRow he h)
theorem HL.toRow (id te k : Nat) (cl cl' : List Value) (he : cl = cl') (h : (s.σ.get id, Nat.blt id s.σ.next) = (some (.cells cl te k), true)) (hk : HL P w0 S nt cd (putO s id (.cells cl' te k)) K) : HL P w0 S nt cd s K := fun ρ a cs w hs => hk ρ a cs w (hs.toRow he h)
theorem HO.toRow (id te k : Nat) (cl cl' : List Value) (he : cl = cl') (h : (s.σ.get id, Nat.blt id s.σ.next) = (some (.cells cl te k), true)) (hk : HO P w0 S nt ops i (putO s id (.cells cl' te k)) K) : HO P w0 S nt ops i s K := fun ho ρ a cs w hs => by
 have e := hs.cs
 exact hk ho ρ a cs w (hs.toRow he h)
theorem frzB_row {α : Type} {enc : α → Value} {k id : Nat} {ag : Bool} {l : List α} (hE : EncOk k ag enc) {σ : AW} (h : Nat.blt id σ.next = true) : frzB σ id l.length OPEN k false (l.map enc).toArray = true := by
 unfold frzB
 have h2 : Nat.beq OPEN EMPTY = false := by decide
 rw [h, (hE.flat_pure l).1]
 simp [hE.size, h2]
theorem row_frzO {α : Type} {enc : α → Value} {k id te : Nat} {ag : Bool} {z : List Value} {l : List α} (hE : EncOk k ag enc) {σ : AW} (h : (σ.get id, Nat.blt id σ.next) = (some (.cells (rowL enc z l l.length) te k), true)) {ρ : Rho} {w : World} (hR : R w0 S σ ρ w) :
  ∃ ρ', ρ.le ρ' ∧ R w0 S (σ.drop id) ρ' w ∧ Trans ρ ρ' (.slice (some ⟨id, 0, none⟩) l.length OPEN) (lst k false (l.map enc).toArray) := by
 simp only [Prod.mk.injEq] at h
 exact frz_ok (te := te) hR (Prod.ext h.1 (Prod.ext (by rw [rowL_full]; exact flatE_eq enc l) (frzB_row hE h.2)))
def frzOS (s : St) (d id : Nat) (v : Value) : St := { s with tmps := .put d v s.tmps, σ := s.σ.drop id }
theorem HO.frzO {α : Type} {enc : α → Value} {k id te : Nat} {ag : Bool} {z : List Value} {l : List α} (hE : EncOk k ag enc) (d : Nat)
  (h : (s.tmps.has d, s.tmps.get d, s.σ.get id, Nat.blt id s.σ.next) = (true, .slice (some ⟨id, 0, none⟩) l.length OPEN, some (.cells (rowL enc z l l.length) te k), true))
  (hk : HO P w0 S nt ops i (frzOS s d id (ls k false enc l)) K) : HO P w0 S nt ops i s K := by
 simp only [Prod.mk.injEq] at h
 intro ho ρ a cs w hs
 have e := hs.cs
 obtain ⟨ρ', hle, hR, ht⟩ := row_frzO hE (Prod.ext h.2.2.1 h.2.2.2) hs.r
 exact hk ho ρ' a cs w (hs.putSlot hle hR d h.1 (by rw [h.2.1]; exact ht))
theorem H.frzO {α : Type} {enc : α → Value} {k id te : Nat} {ag : Bool} {z : List Value} {l : List α} (hE : EncOk k ag enc) (d : Nat)
  (h : (s.tmps.has d, s.tmps.get d, s.σ.get id, Nat.blt id s.σ.next) = (true, .slice (some ⟨id, 0, none⟩) l.length OPEN, some (.cells (rowL enc z l l.length) te k), true))
  (hk : H P w0 S nt cd (frzOS s d id (ls k false enc l)) K) : H P w0 S nt cd s K := by
 simp only [Prod.mk.injEq] at h
 intro ρ a cs w hs
 have e := hs.cs
 obtain ⟨ρ', hle, hR, ht⟩ := row_frzO hE (Prod.ext h.2.2.1 h.2.2.2) hs.r
 exact hk ρ' a cs w (hs.putSlot hle hR d h.1 (by rw [h.2.1]; exact ht))
def frcOS (s : St) (j te k m id : Nat) (cs : List Value) (v : Value) : St := { s with σ := (s.σ.drop id).put j (.cells (mapCell (fun _ => v) cs m) te k) }
theorem SRel.frcO {cl : List Frame} {ρ : Rho} {a : Act} {w : World} (hs : SRel w0 S false nt cl ρ s a cl w) {α : Type} {enc : α → Value} {k2 te2 : Nat} {ag : Bool} {z : List Value} {l : List α} (hE : EncOk k2 ag enc) (j te k m id : Nat) (cs : List Value)
  (h : (s.σ.get j, (s.σ.drop id).get j, Nat.blt j s.σ.next, cs[m]?, s.σ.get id, Nat.blt id s.σ.next) = (some (.cells cs te k), some (.cells cs te k), true, some (.slice (some ⟨id, 0, none⟩) l.length OPEN), some (.cells (rowL enc z l l.length) te2 k2), true)) : ∃ ρ', SRel w0 S false nt cl ρ' (frcOS s j te k m id cs (ls k2 false enc l)) a cl w := by
 simp only [Prod.mk.injEq] at h
 obtain ⟨h1, h2, h3, h4, h5, h6⟩ := h
 obtain ⟨ρ', hle, hR, ht⟩ := row_frzO hE (Prod.ext h5 h6) hs.r
 refine ⟨ρ', ⟨⟨hs.t.size, fun i hi hh => (hs.t.at_ i hi hh).mono hle⟩, hs.ds.mono hle, rfl, hR.recell (blt_t h3) h2 mapCell_length fun L hL => ?_⟩⟩
 obtain ⟨L0, e1, _, _⟩ := hs.r.obj j _ (blt_t h3) h1
 have : L0 = L := by
  have := hle.1 j L0 e1
  rw [hL] at this
  exact (Option.some.inj this).symm
 subst this
 exact orel_mapCell hle (fun u hu => by rw [h4] at hu; cases hu; exact ht) (hs.r.at e1 h1).2
theorem H.frcO {α : Type} {enc : α → Value} {k2 te2 : Nat} {ag : Bool} {z : List Value} {l : List α} (hE : EncOk k2 ag enc) (j te k m id : Nat) (cs : List Value)
  (h : (s.σ.get j, (s.σ.drop id).get j, Nat.blt j s.σ.next, cs[m]?, s.σ.get id, Nat.blt id s.σ.next) = (some (.cells cs te k), some (.cells cs te k), true, some (.slice (some ⟨id, 0, none⟩) l.length OPEN), some (.cells (rowL enc z l l.length) te2 k2), true)) (hk : H P w0 S nt cd (frcOS s j te k m id cs (ls k2 false enc l)) K) : H P w0 S nt cd s K :=
 fun ρ a cl w hs => let ⟨ρ', h'⟩ := hs.frcO hE j te k m id cs h; hk ρ' a cl w h'
theorem HL.frcO {α : Type} {enc : α → Value} {k2 te2 : Nat} {ag : Bool} {z : List Value} {l : List α} (hE : EncOk k2 ag enc) (j te k m id : Nat) (cs : List Value)
  (h : (s.σ.get j, (s.σ.drop id).get j, Nat.blt j s.σ.next, cs[m]?, s.σ.get id, Nat.blt id s.σ.next) = (some (.cells cs te k), some (.cells cs te k), true, some (.slice (some ⟨id, 0, none⟩) l.length OPEN), some (.cells (rowL enc z l l.length) te2 k2), true)) (hk : HL P w0 S nt cd (frcOS s j te k m id cs (ls k2 false enc l)) K) : HL P w0 S nt cd s K :=
 fun ρ a cl w hs => let ⟨ρ', h'⟩ := hs.frcO hE j te k m id cs h; hk ρ' a cl w h'
theorem HO.frcO {α : Type} {enc : α → Value} {k2 te2 : Nat} {ag : Bool} {z : List Value} {l : List α} (hE : EncOk k2 ag enc) (j te k m id : Nat) (cs : List Value)
  (h : (s.σ.get j, (s.σ.drop id).get j, Nat.blt j s.σ.next, cs[m]?, s.σ.get id, Nat.blt id s.σ.next) = (some (.cells cs te k), some (.cells cs te k), true, some (.slice (some ⟨id, 0, none⟩) l.length OPEN), some (.cells (rowL enc z l l.length) te2 k2), true)) (hk : HO P w0 S nt ops i (frcOS s j te k m id cs (ls k2 false enc l)) K) : HO P w0 S nt ops i s K :=
 fun ho ρ a cl w hs => by
  have e := hs.cs
  obtain ⟨ρ', h'⟩ := hs.frcO hE j te k m id cs h
  exact hk ho ρ' a cl w h'
theorem SRel.eqc {cl : List Frame} {ρ : Rho} {a : Act} {w : World} (hs : SRel w0 S false nt cl ρ s a cl w) (j te k m : Nat) (cs : List Value) (v v' : Value) (he : v = v') (h : (s.σ.get j, Nat.blt j s.σ.next, cs[m]?) = (some (.cells cs te k), true, some v)) : SRel w0 S false nt cl ρ (wkcS s j te k m cs v') a cl w := by
 simp only [Prod.mk.injEq] at h
 obtain ⟨h1, h2, h3⟩ := h
 subst he
 refine ⟨hs.t, hs.ds, hs.cs, hs.r.recell (blt_t h2) h1 mapCell_length fun L hL => ?_⟩
 refine orel_mapCell (Rho.le_refl _) (fun u hu => ?_) (hs.r.at hL h1).2
 rw [h3] at hu
 cases hu
 exact fun _ hv => hv
theorem H.eqc (j te k m : Nat) (cs : List Value) (v v' : Value) (he : v = v') (h : (s.σ.get j, Nat.blt j s.σ.next, cs[m]?) = (some (.cells cs te k), true, some v)) (hk : H P w0 S nt cd (wkcS s j te k m cs v') K) : H P w0 S nt cd s K := fun ρ a cl w hs => hk ρ a cl w (hs.eqc j te k m cs v v' he h)
theorem HL.eqc (j te k m : Nat) (cs : List Value) (v v' : Value) (he : v = v') (h : (s.σ.get j, Nat.blt j s.σ.next, cs[m]?) = (some (.cells cs te k), true, some v)) (hk : HL P w0 S nt cd (wkcS s j te k m cs v') K) : HL P w0 S nt cd s K := fun ρ a cl w hs => hk ρ a cl w (hs.eqc j te k m cs v v' he h)
theorem HO.eqc (j te k m : Nat) (cs : List Value) (v v' : Value) (he : v = v') (h : (s.σ.get j, Nat.blt j s.σ.next, cs[m]?) = (some (.cells cs te k), true, some v)) (hk : HO P w0 S nt ops i (wkcS s j te k m cs v') K) : HO P w0 S nt ops i s K := fun ho ρ a cl w hs => by
 have e := hs.cs
 exact hk ho ρ a cl w (hs.eqc j te k m cs v v' he h)
def rowFG (P : Program) (ops : Array Oper) (i : Nat) (s : St) : Option (Nat × Nat × List Value × Nat) :=
 match (opG ops i).op with
 | .load t a => match ev s.tmps a, isAggT P t, sizeT P t with
  | .pointer (some ⟨id, off, none⟩), some false, some 1 => match s.σ.get id with
   | some (.cells cs te _) => some (id, off, cs, te)
   | _ => none
  | _, _, _ => none
 | _ => none
theorem row_rd1 {α : Type} {enc : α → Value} {k : Nat} (hk : ∀ x, (enc x).cells.size = k) {z : List Value} {l : List α} {c j o : Nat} {x : α} {v : Value} (h : l[j]? = some x) (ho : o < k) (hv : (enc x).cells.toList[o]? = some v) : pieces (rowL enc z l c) (j * k + o) 1 = some [v] := by
 have hj := (List.getElem?_eq_some_iff.1 h).1
 have hp : (flatE enc (l.take j)).length = j * k := by rw [flatE_len hk, List.length_take, Nat.min_eq_left (by omega)]
 have hx : (enc x).cells.toList.length = k := by rw [Array.length_toList, hk]
 have hg : (rowL enc z l c)[j * k + o]? = some v := by
  unfold rowL
  rw [flatE_at h, List.append_assoc, List.append_assoc, List.getElem?_append_right (by omega), hp, Nat.add_sub_cancel_left, List.getElem?_append_left (by omega)]
  exact hv
 obtain ⟨hlt, hge⟩ := List.getElem?_eq_some_iff.1 hg
 unfold pieces
 rw [Nat.ble_eq_true_of_le (show j * k + o + 1 ≤ _ from hlt)]
 simp only
 rw [List.drop_eq_getElem_cons hlt, hge]
 rfl
theorem rowFld_aop {id k te c o : Nat} {α : Type} {enc : α → Value} {z : List Value} {l : List α} {j : Int} {x : α} (v : Value) (hk : ∀ x, (enc x).cells.size = k) (hx : at' l j = some x) (hv : (enc x).cells.toList[o]? = some v) (ho : Nat.blt o k = true)
  (h : (atG ops i s, rowFG P ops i s) = (true, some (id, j.toNat * k + o, rowL enc z l c, te))) :
  atG ops i s = true ∧ aop P .none (ev s.tmps) (opG ops i) s.σ = some (.val v) := by
 simp only [Prod.mk.injEq] at h
 obtain ⟨h0, h⟩ := h
 refine ⟨h0, ?_⟩
 unfold at' at hx
 split at hx
 case isFalse => exact absurd hx (by simp)
 have hr := row_rd1 (k := k) hk (z := z) (c := c) hx (blt_t ho) hv
 unfold rowFG at h
 unfold aop
 split at h
 ·rename_i t a hop
  rw [hop]
  simp only
  split at h
  ·rename_i id' off' ha hag hs
   split at h
   ·rename_i cs te' k2 hg
    cases h
    unfold loadA
    rw [ha]
    simp only [hag, hs]
    unfold rdCells
    rw [hg]
    simp only [hr]
    rfl
   ·exact absurd h (by simp)
  ·exact absurd h (by simp)
 ·exact absurd h (by simp)
def setR {α : Type} (l : List α) (j : Int) (x : α) : Option (List α) := if 0 ≤ j then some (l.set j.toNat x) else none
theorem setR_len {α : Type} {l l' : List α} {j : Int} {x : α} (h : setR l j x = some l') : l.length = l'.length := by
 unfold setR at h
 split at h
 ·cases h; rw [List.length_set]
 ·exact absurd h (by simp)
theorem rowSt_aop {id k te o : Nat} {α : Type} {enc : α → Value} {z vs : List Value} {l l' : List α} {j : Int} {x x' : α} (hk : ∀ x, (enc x).cells.size = k) (hx : at' l j = some x) (hy : setR l j x' = some l')
  (h : (atG ops i s, rowSG P ops i s) = (true, some (id, j.toNat * k + o, rowL enc z l l.length, k, te, vs))) (hv : Nat.ble (o + vs.length) k = true) (he : putCells (enc x).cells.toList o vs = (enc x').cells.toList) :
  atG ops i s = true ∧ aop P .none (ev s.tmps) (opG ops i) s.σ = some (.eff undef (s.σ.put id (.cells (rowL enc z l' l'.length) te k))) := by
 have hl := setR_len hy
 unfold setR at hy
 split at hy
 case isFalse => exact absurd hy (by simp)
 cases hy
 have := rowStore_aop (enc := enc) (z := z) (vs := vs) (c := l.length) x' hk hx h (ble_t hv) he
 rw [List.length_set]
 exact this
end
end Vx
end Go
set_option linter.unusedVariables false
set_option linter.unusedSimpArgs false
namespace Go
namespace Vx
section
variable {P : Program} {W0 w0 : World} {S : Own} {nt n0 : Nat} {s s' : St} {K : Cont}
theorem H.runY [NoEx P S] {Y : Ext} (hY : ExtOk P w0 S Y) {n : Nat} {c : Code} {x : AExit} (h : exec P .none Y n false nt c s = .ok (x, s')) (hk : K x s') : H P w0 S nt c s K := by
 intro ρ a cs w hs
 refine W.mono (exec_sound (FactsOk.none P S) hY n false nt c s x s' h ρ a cs cs w hs).1 ?_
 rintro e a1 cs1 w1 ⟨ρ1, _, hx, hT, hd, hc, hR⟩
 have hc : cs1 = cs := hc
 subst hc
 exact ⟨x, s', ρ1, hk, hx, hT, hd, rfl, hR⟩
def runE (P : Program) (Y : Ext) (n : Nat) (fn : Func) (args : List Value) : Option (AEnd × AW) :=
 match exec P .none Y n false fn.ntmps (fn.body.getD .skip) ⟨Tm.fill args 0, [], .run, AW.nil⟩ with
 | .ok (.ret, s') => match leaves P (exec P .none Ext.none 60 true) fn s'.tmps s'.defers .returning s'.σ with
  | .ok (.returned v, σ1) => some (.returned v, σ1)
  | _ => none
 | _ => none
theorem H.runE [NoEx P S] {Y : Ext} (hY : ExtOk P w0 S Y) {n : Nat} {fn : Func} {args : List Value} {e : AEnd} {σ1 : AW} {Q : AEnd → AW → Prop} (h : runE P Y n fn args = some (e, σ1)) (hQ : Q e σ1) :
  H P w0 S fn.ntmps (fn.body.getD .skip) ⟨Tm.fill args 0, [], .run, AW.nil⟩ (KEnd P fn Q) := by
 unfold Vx.runE at h
 split at h
 ·rename_i s' hr
  split at h
  ·rename_i v σ2 hl
   cases h
   exact H.runY hY hr ⟨.returning, 60, _, _, .inl ⟨.inr rfl, rfl⟩, hl, hQ⟩
  ·exact absurd h (by simp)
 ·exact absurd h (by simp)
def isTrue : Option (AEnd × AW) → Bool
 | some (.returned (.bool true), _) => true
 | _ => false
theorem PTo.closedY {f : FuncId} {fn : Func} {Y : Ext} {n : Nat} (hf : P.funcs[f]? = some fn) (hcode : fn.body = some (fn.body.getD .skip)) (hY : ∀ w0 S, Std W0 w0 S 0 → ExtOk P w0 S Y) (h : isTrue (runE P Y n fn []) = true) : PTo P W0 f #[] (.returned (.bool true)) := by
 refine PTo.of_body hf hcode (by show Nat.ble 0 _ = true; exact Nat.ble_eq_true_of_le (Nat.zero_le _)) ?_
 intro w0 S hS
 haveI := hS.noEx P
 unfold isTrue at h
 split at h
 ·rename_i σ1 hr
  exact H.runE (hY w0 S hS) hr (PEnd.pure (fun ρ u hu => pureB_rel (v := .bool true) rfl hu))
 ·exact absurd h (by simp)
def endM (m : List Nat) (ob : List (Nat × AObj)) : Option (AEnd × AW) → Option Value × List (Option AObj) × Bool
 | some (.returned v, σ) => (renN m 12 v, renOs m σ ob, renB 0 m σ ob [])
 | _ => (none, [], false)
theorem FTo.closedE {f : FuncId} {fn : Func} {n : Nat} {args : List Value} (m : List Nat) (ob : List (Nat × AObj)) (v' : Value) (hf : P.funcs[f]? = some fn) (hcode : fn.body = some (fn.body.getD .skip)) (hsz : Nat.ble args.length fn.ntmps = true)
  (h : endM m ob (runE P Ext.none n fn args) = (some v', wantO ob, true)) : FTo P W0 f args.toArray (mkW 0 [] []) (.returned v') (mkW m.length [] ob) := by
 refine FTo.of_body hf hcode (by simpa using hsz) ?_
 intro w0 S hS
 haveI := hS.noEx P
 unfold endM at h
 split at h
 ·rename_i v σ1 hr
  exact H.runE (ExtOk.none P w0 S) hr (FEnd.ren hS m ob [] h)
 ·simp at h
def mkB (l : List Nat) : ByteArray := ⟨(l.map UInt8.ofNat).toArray⟩
def eqNs : List Nat → List Nat → Bool
 | [], [] => true
 | a :: l, b :: m => match Nat.beq a b with | true => eqNs l m | false => false
 | _, _ => false
theorem eqNs_t : ∀ {a b : List Nat}, eqNs a b = true → a = b
 | [], [], _ => rfl
 | [], _ :: _, h => by simp [eqNs] at h
 | _ :: _, [], h => by simp [eqNs] at h
 | x :: a, y :: b, h => by
  simp only [eqNs] at h
  split at h
  ·rename_i e
   rw [beq_t e, eqNs_t h]
  ·exact absurd h (by simp)
theorem mkB_of {s : ByteArray} {l : List Nat} (h : eqNs (s.data.toList.map (·.toNat)) l = true) : s = mkB l := by
 have := eqNs_t h
 subst this
 unfold mkB
 cases s with | mk d =>
 congr 1
 rw [List.map_map]
 apply Array.ext'
 show d.toList = _
 have : (UInt8.ofNat ∘ fun x : UInt8 => x.toNat) = id := by funext x; simp
 rw [this]
 simp
abbrev Tab := List (List Nat × List Int)
def lookT (s : ByteArray) : Tab → Option (List Int)
 | [] => none
 | p :: l => match eqNs (s.data.toList.map (·.toNat)) p.1 with | true => some p.2 | false => lookT s l
def u8s (l : List Int) : List Value := l.map fun n => .int .u8 n
def extT (f0 te : Nat) (tab : Tab) : Ext := fun f args σ => match Nat.beq f f0 with
 | true => match args.toList with
  | [.string s] => match lookT s tab, Nat.blt σ.next (2 ^ D) with
   | some l, true => some (.returned (.slice (some ⟨σ.next, 0, none⟩) l.length l.length), newR σ (.cells (u8s l) te 1))
   | _, _ => none
  | _ => none
 | false => none
theorem lookT_mem {s : ByteArray} {l : List Int} : ∀ {tab : Tab}, lookT s tab = some l → ∃ p, p ∈ tab ∧ s = mkB p.1 ∧ p.2 = l
 | [], h => by simp [lookT] at h
 | p :: tab, h => by
  simp only [lookT] at h
  split at h
  ·rename_i e
   cases h
   exact ⟨p, by simp, mkB_of e, rfl⟩
  ·obtain ⟨q, h1, h2⟩ := lookT_mem h
   exact ⟨q, by simp [h1], h2⟩
theorem ren_u8s (f : Nat → Option Nat) : ∀ l : List Int, mapO (renF f 12) (u8s l) = some (u8s l)
 | [] => rfl
 | x :: l => by
  have h := ren_u8s f l
  have e : u8s (x :: l) = .int .u8 x :: u8s l := rfl
  rw [e]
  unfold mapO
  rw [h]
  rfl
theorem extT_ok {f0 te : Nat} {tab : Tab} (hF : ∀ p, p ∈ tab → FTo P W0 f0 #[.string (mkB p.1)] (mkW 0 [] []) (.returned (.slice (some ⟨0, 0, none⟩) p.2.length p.2.length)) (mkW 1 [] [(0, .cells (u8s p.2) te 1)])) (hS : Std W0 w0 S n0) : ExtOk P w0 S (extT f0 te tab) := by
 intro f args σ e σ' h
 unfold extT at h
 split at h
 ·rename_i hf
  have hf := beq_t hf
  subst hf
  split at h
  ·rename_i s hargs
   split at h
   ·rename_i l hl hlt
    cases h
    obtain ⟨p, hp, rfl, rfl⟩ := lookT_mem hl
    have ha : args = #[.string (mkB p.1)] := Array.toList_inj.1 hargs
    subst ha
    have hlt := blt_t hlt
    intro ρ w args' hargs hR
    have lim := hR.lim
    have hg : ∀ j o', j < σ.next + 1 → (newR σ (.cells (u8s p.2) te 1)).get j = some o' → (j < σ.next ∧ σ.get j = some o') ∨ (j = σ.next ∧ o' = .cells (u8s p.2) te 1) := by
     intro j o' hj ho
     unfold newR AW.get at ho
     by_cases e : j = σ.next
     ·subst e
      rw [Tr.get_set_same] at ho
      cases ho
      exact .inr ⟨rfl, rfl⟩
     ·rw [Tr.get_set_other _ _ _ _ _ hlt (by omega) (Ne.symm e)] at ho
      exact .inl ⟨by omega, ho⟩
    refine (hF p hp).frame (g := []) hS ?_ rfl ?_ ρ w args' hargs hR
    ·refine ⟨rfl, by decide, List.nodup_nil, List.nodup_nil, fun j hj => by simp at hj, fun i o' hi => absurd hi (Nat.not_lt_zero _), fun i hi => by simp [mkW] at hi, Nat.zero_le _, rfl, ?_, fun j o' hj ho => ?_, fun τ ht => .inl ⟨ht, by simp⟩, hR.tokNd⟩
     ·show σ.next + 1 ≤ 2 ^ D
      omega
     ·rcases hg j o' hj ho with ⟨h1, h2⟩ | ⟨h1, h2⟩
      ·exact .inl ⟨h1, by simp, h2⟩
      ·refine .inr ⟨0, .cells (u8s p.2) te 1, by rw [upF_out (g := []) (Nat.zero_le _), h1]; rfl, Nat.zero_lt_one, ?_, ?_⟩
       ·show (mkW 1 [] [(0, .cells (u8s p.2) te 1)]).get 0 = _
        unfold mkW AW.get
        simp only [List.foldr_cons, List.foldr_nil]
        rw [Tr.get_set_same]
       ·rw [h2]
        unfold renOF
        simp only [ren_u8s]
    ·show renF (upF [] σ.next) 12 (.slice (some ⟨0, 0, none⟩) p.2.length p.2.length) = some (.slice (some ⟨σ.next, 0, none⟩) p.2.length p.2.length)
     have : upF [] σ.next 0 = some σ.next := by rw [upF_out (g := []) (Nat.zero_le _)]; rfl
     simp only [renF, this]
   ·exact absurd h (by simp)
  ·exact absurd h (by simp)
 ·exact absurd h (by simp)
end
end Vx
end Go
