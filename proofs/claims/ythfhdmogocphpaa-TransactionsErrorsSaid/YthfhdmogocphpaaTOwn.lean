import Derived.Test.YthfhdmogocphpaaChecked
import Derived.WalkKit
import Derived.Laws.AppendOwn
import Derived.Below
import Derived.Lib.Hide
import Derived.Lib.BufferMore
import Derived.Stop.LaidErr
/- A body's own copy. -/
namespace Go.Proofs.Ythfhdmogocphpaa
open Go.RowKit

theorem infoByte : (Try.prog.info? 5).map (fun i => (i.zero, i.size, i.bytes)) = some (some (.int .u8 0), 1, 1) := by kernel_rfl

/-- A slice of bytes that can be read. -/
def RdB (w : World) (v : Value) : Prop :=
  v = .slice none 0 0 ∨ ∃ (a : Addr) (n c : Nat) (cs : List Value), v = .slice (some a) n c ∧ n ≤ c ∧ cs.length = n ∧ (∀ (j : Nat) (u : Value), cs[j]? = some u → w.cell? (a.add j) = some u) ∧ (∀ u ∈ cs, u.oneCell' = true) ∧ n ≤ 4000
/-- A slice. -/
def Slc (v : Value) : Prop := v = .slice none 0 0 ∨ ∃ a n c, v = .slice (some a) n c ∧ n ≤ c ∧ n ≤ 4000

set_option maxRecDepth 100000 in
theorem clip_any (v : Value) (w : World) (h : Slc v) : Calls Try.prog 57 #[v] w fun e w' => ∃ v', e = .returned v' ∧ Slc v' ∧ Below w.heap.size w w' := by
  rcases h with rfl | ⟨a, n, c, rfl, hc, h4⟩
  · go_enter Try.func57, Try.ntmps57
    go_wp2
    go_ret
    exact ⟨_, rfl, .inl rfl, Below.refl _ _⟩
  · have H4 := Lib.hid h4
    have h63 : n ≤ 9223372036854775807 := by omega
    have hnn : (n : Int) ≤ c := by omega
    clear h4
    go_enter Try.func57, Try.ntmps57
    go_wp2_with fail
    refine ⟨rfl, _, results_tmp rfl _ _ _, ?_⟩
    exact ⟨_, rfl, .inr ⟨_, _, _, rfl, Nat.le_refl _, H4.out⟩, Below.refl _ _⟩

set_option maxRecDepth 100000 in
theorem clone_any (v : Value) (w : World) (h : RdB w v) : Calls Try.prog 59 #[v] w fun e w' => ∃ v', e = .returned v' ∧ Slc v' ∧ Below w.heap.size w w' := by
  rcases h with rfl | ⟨a, n, c, cs, rfl, hnc, hl, hcs, h1, hn⟩
  · go_enter Try.func59, Try.ntmps59
    go_wp2_with (first | (rw [Lib.run_eql_slice_nil_nil _ _ _ Try.underlying35]; simp only [Result.andThen_ok, Oper.upon]) | fail)
    refine ⟨rfl, _, results_tmp rfl _ _ _, ?_⟩
    exact ⟨_, rfl, .inl rfl, Below.refl _ _⟩
  · have H4 := Lib.hid hn
    have HC := Lib.hid (And.intro hcs h1)
    have HNC := Lib.hid (And.intro hnc hl)
    obtain ⟨i0, hi0, hz0i, hz1i, hz2i⟩ : ∃ i0, Try.prog.info? 5 = some i0 ∧ i0.zero = some (.int .u8 0) ∧ i0.size = 1 ∧ i0.bytes = 1 := by
      have h := infoByte
      cases hi : Try.prog.info? 5 with
      | none => rw [hi] at h; exact absurd h (by simp)
      | some i0 => rw [hi] at h; simp at h; exact ⟨i0, rfl, h.1, h.2.1, h.2.2⟩
    clear hn hcs h1 hnc hl
    go_enter Try.func59, Try.ntmps59
    go_wp2_with (first
      | (rw [Lib.run_eql_slice_some_nil _ _ _ _ Try.underlying35]; simp only [Result.andThen_ok, Oper.upon])
      | (at_builtin; refine wpList_append_own _ rfl _ _ 35 rfl w.heap.size 5 i0 (.int .u8 0) 1 1 Try.underlying35 hi0 hz0i hz1i hz2i rfl (by decide) (.slice (some ⟨w.heap.size, 0, none⟩) 0 0) 0 [] rfl (World.ownsRow_made w _ 0 (Nat.le_refl _) (by unfold maxLen; omega) rfl) a n c cs rfl (by simpa using HNC.out.2) (fun j u hj => cell?_alloc_old _ (HC.out.1 j u hj)) HC.out.2 (by have := H4.out; unfold maxLen; omega) (by have := H4.out; omega) (by simp) ?_; intro v' w1 hown' hgrow _)
      | fail)
    refine ⟨rfl, _, results_tmp rfl _ _ _, _, rfl, ?_, ?_⟩
    · rcases hown'.2 with ⟨h, _⟩ | ⟨g, cap, cur, h, _, _, hnc', _⟩
      · exact .inl h
      · exact .inr ⟨_, _, _, h, hnc', by have := H4.out; omega⟩
    · refine Below.grown ((Below.refl w.heap.size w).alloc (Nat.le_refl _) _) hgrow (by simp) ?_
      intro k hk
      simp [Value.ownBlock] at hk
      omega

theorem own_any (v : Value) (w : World) (h : RdB w v) : Calls Try.prog 41 #[v] w fun e w' => ∃ v', e = .returned v' ∧ Slc v' ∧ Below w.heap.size w w' := by
  have H1 := Lib.hid (clone_any v w h)
  clear h
  go_enter Try.func41, Try.ntmps41
  go_wp2_with fail
  refine H1.out.mono ?_
  rintro e w1 ⟨v1, rfl, h1, hb1⟩
  have H2 := Lib.hid (clip_any v1 w1 h1)
  have HB := Lib.hid hb1
  clear h1 hb1
  go_wp2_with fail
  refine H2.out.mono ?_
  rintro e w2 ⟨v2, rfl, h2, hb2⟩
  have H3 := Lib.hid h2
  have HB2 := Lib.hid hb2
  clear h2 hb2
  go_wp2_with fail
  refine ⟨rfl, v2, results_tmp (t := 2) rfl _ _ _, v2, rfl, H3.out, HB.out.trans (HB2.out.mono HB.out.size)⟩

end Go.Proofs.Ythfhdmogocphpaa
