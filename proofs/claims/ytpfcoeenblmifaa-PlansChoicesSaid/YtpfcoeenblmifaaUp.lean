/-
  Plans: small laws about the law's distances. No walk.
-/
import Derived.Test.YtpfcoeenblmifaaQG
import Derived.Test.YtpfcoeenblmifaaFallP
import Derived.Test.YtpfcoeenblmifaaRel
import Derived.StillTailTactics
namespace Go.Proofs.Ytpfcoeenblmifaa
open Go.RowKit Go.PC

/-- As the law writes a distance. -/
def up (v : Int) : Int := if v < 0 then 99 else v

theorem o_up {d : List Int} {i : Nat} (h : i < d.length) : o (d.map up) i = up (o d i) := o_at (by rw [List.getElem?_map, o_get h]; rfl)
theorem cnt_adj {P : Pn} (hok : PlanOK P) {i k : Nat} {p q : Int × Bool} (hi : P.ps[i]? = some p) (hk : P.ps[k]? = some q) : 0 < P.ls.countP (betw p.1 q.1) ↔ adjP P k i := by
  rw [List.countP_pos_iff]
  constructor
  · rintro ⟨l, hl, h⟩
    refine ⟨q, p, hk, hi, others_mem.2 ⟨l, hl, ?_⟩⟩
    have hne := (hok.lines l hl).1
    rcases betw_iff.1 h with h | h
    · right; omega
    · left; omega
  · rintro ⟨q', p', h1, h2, h3⟩
    rw [hk] at h1
    rw [hi] at h2
    cases h1
    cases h2
    obtain ⟨l, hl, h⟩ := others_mem.1 h3
    refine ⟨l, hl, betw_iff.2 ?_⟩
    rcases h with h | h <;> omega

/-- An operation that its guard leaves out, in a still region. -/
theorem still_skip {P : Program} {ops : Array Oper} {w : World} {Q : Act → Prop} {a : Act} {o : Oper} {rest : List Oper} (hw : Region.wanted o (yielded ops a.tmps) = false) (h : wpStill P ops w Q rest (a.put o.dst undef)) : wpStill P ops w Q (o :: rest) a :=
  wpStill_step (fun K hK => by rw [if_neg (by rw [hw]; decide)]; exact hK _ h)

/-- An operation that is wanted, in a still region. -/
theorem still_do {P : Program} {ops : Array Oper} {w : World} {Q : Act → Prop} {a : Act} {o : Oper} {rest : List Oper} (hw : Region.wanted o (yielded ops a.tmps) = true) (h : ∀ K : Act → Prop, (∀ a, wpStill P ops w Q rest a → K a) → o.still P a w K) : wpStill P ops w Q (o :: rest) a :=
  wpStill_step (fun K hK => by rw [if_pos hw]; exact h K hK)

end Go.Proofs.Ytpfcoeenblmifaa
