/-
  restarts.New.
-/
import Derived.Test.YtofdmfibffcojaaMach6
namespace Go.Proofs.Ytofdmfibffcojaa
open Go.RowKit Go.PC

/-- The links that New lays. -/
def tab (zs : List Int) : Links := fun k => if k ∈ zs then some (true, false) else none
def GoodL (zs : List Int) : Prop := zs.Nodup ∧ ∀ z ∈ zs, z ≤ 16383

theorem tab_nil : tab [] = fun _ => none := by funext k; simp [tab]
theorem tab_snoc (zs : List Int) (z : Int) : tab (zs ++ [z]) = upd (tab zs) z (some (true, false)) := by
  funext k
  unfold tab upd
  by_cases h : k = z <;> simp [h]
theorem take_snoc_getD (zs : List Int) (k : Nat) (h : k < zs.length) : zs.take (k + 1) = zs.take k ++ [zs[k]?.getD 0] := by
  rw [List.take_succ_eq_append_getElem h]; simp [h]
theorem good_take {zs : List Int} (h : GoodL zs) (k : Nat) (hk : k < zs.length) : zs[k]?.getD 0 ∉ zs.take k ∧ zs[k]?.getD 0 ≤ 16383 := by
  have e : zs[k]?.getD 0 = zs[k] := by simp [hk]
  rw [e]
  refine ⟨fun hm => ?_, h.2 _ (List.getElem_mem hk)⟩
  obtain ⟨i, hi, ei⟩ := List.getElem_of_mem hm
  rw [List.getElem_take] at ei
  have hik : i < k := by simp at hi; omega
  exact absurd ((List.getElem_inj h.1).1 ei) (by omega)
theorem good_snoc {zs : List Int} {k : Nat} (hk : k < zs.length) (h : GoodL (zs.take k)) (h1 : zs[k]?.getD 0 ∉ zs.take k) (h2 : zs[k]?.getD 0 ≤ 16383) : GoodL (zs.take (k + 1)) := by
  rw [take_snoc_getD zs k hk]
  refine ⟨List.nodup_append.2 ⟨h.1, by simp, fun a ha b hb => ?_⟩, fun z hz => ?_⟩
  · simp only [List.mem_singleton] at hb
    subst hb
    rintro rfl
    exact h1 ha
  · simp only [List.mem_append, List.mem_singleton] at hz
    rcases hz with hz | rfl
    · exact h.2 z hz
    · exact h2

/-- What a slice of points reads as. -/
def Pts (w : World) (a : Option Addr) (zs : List Int) : Prop := (∀ z ∈ zs, 0 ≤ z ∧ z ≤ 65535) ∧ (zs = [] ∨ ∃ b off, a = some ⟨b, off, none⟩ ∧ ∀ k, k < zs.length → w.cell? ⟨b, off + k, none⟩ = some (.int .u16 (zs[k]?.getD 0)))

section
variable {w w' : World}

theorem new_limit (a : Option Addr) (zs : List Int) (cap : Nat) (base : Int) (hlen : 64 < zs.length) :
    Calls Try.prog 8 #[.slice a zs.length cap, .int .i64 base] w fun e w' => e = .returned (.tuple #[.pointer none, .int .i64 3]) ∧ w = w' := by
  have hl : (64 : Int) < (zs.length : Int) := by omega
  go_enter Try.func8, Try.ntmps8
  go_wp2
  go_ret2
  exact ⟨rfl, rfl⟩

set_option maxHeartbeats 1000000 in
theorem new_ok (a : Option Addr) (zs : List Int) (cap : Nat) (base : Int) (hlen : zs.length ≤ 64) (hp : Pts w a zs) (hg : GoodL zs) (hb : 0 ≤ base) :
    Calls Try.prog 8 #[.slice a zs.length cap, .int .i64 base] w fun e w' => ∃ mb lb, e = .returned (.tuple #[.pointer (some ⟨mb, 0, none⟩), .int .i64 0]) ∧ w.heap.size ≤ mb ∧ w.heap.size ≤ lb ∧ Mach w' mb lb 0 base 0 (tab zs) zs.length ∧ Only (fun _ => False) w w' := by
  have hmm := @run_makeMap Try.prog
  have Hp := Lib.hid hp
  have Hg := Lib.hid (p := GoodL zs) hg
  clear hp hg
  go_enter Try.func8, Try.ntmps8
  go_wp2
  have hM0 : Mach ((w.alloc (.map #[] 0)).alloc (.cells #[.bool true, .int .u8 0, .int .i64 base, .int .i64 0, .map (some w.heap.size)] 46)) (w.heap.size + 1) w.heap.size 0 base 0 (tab (zs.take 0)) 0 := by
    rw [List.take_zero, tab_nil]
    refine ⟨?_, (MapTy.at_made LT w).alloc _⟩
    have := (MapKept.heap_alloc (w.alloc (.map #[] 0)) (.cells #[.bool true, .int .u8 0, .int .i64 base, .int .i64 0, .map (some w.heap.size)] 46)).1
    simpa using this
  have hoM : Only (fun _ => False) w ((w.alloc (.map #[] 0)).alloc (.cells #[.bool true, .int .u8 0, .int .i64 base, .int .i64 0, .map (some w.heap.size)] 46)) := ((Only.refl _ _).alloc _).alloc _
  obtain ⟨lb, hlb⟩ : ∃ lb, w.heap.size = lb := ⟨_, rfl⟩
  have hle : w.heap.size ≤ lb := by omega
  simp only [hlb] at hM0 hoM ⊢
  clear hlb
  generalize ((w.alloc (.map #[] 0)).alloc (.cells #[.bool true, .int .u8 0, .int .i64 base, .int .i64 0, .map (some lb)] 46)) = w0 at *
  have hg0 : GoodL (zs.take 0) := ⟨by simp, by simp⟩
  have Hg0 := Lib.hid hg0
  clear hg0
  go_loopw [20] (fun i wr => ∃ k : Nat, k ≤ zs.length ∧ i = .int .i64 k ∧ Hid (GoodL (zs.take k)) ∧ Mach wr (lb + 1) lb 0 base 0 (tab (zs.take k)) k ∧ Only (fun _ => False) w wr)
    (fun i _ => zs.length - (intOf i).toNat)
  case atStart => exact ⟨0, Nat.zero_le _, rfl, Hg0, hM0, hoM⟩
  case round =>
    clear hM0 hoM Hg0
    obtain ⟨k, hk, rfl, Hgk, hM, ho⟩ := hrel
    by_cases hlt : k < zs.length
    · obtain ⟨b, off, ha, hcell⟩ := Hp.out.2.resolve_left (fun h => by rw [h] at hlt; cases hlt)
      subst ha
      have hc := ho.cell (hcell k hlt) (by simp)
      have hz : 0 ≤ zs[k]?.getD 0 ∧ zs[k]?.getD 0 ≤ 65535 := by
        have e : zs[k]?.getD 0 = zs[k] := by simp [hlt]
        rw [e]; exact Hp.out.1 _ (List.getElem_mem hlt)
      clear hcell
      have Hs := Lib.hid (take_snoc_getD zs k hlt)
      have Hgs := Lib.hid (good_snoc hlt Hgk.out)
      have Hgt := Lib.hid (good_take Hg.out k hlt)
      generalize zs[k]?.getD 0 = z at *
      obtain ⟨hz0, hz1⟩ := hz
      have hx : (Lit.int .u16 z).wf = true := wf_u16 hz0 hz1
      obtain ⟨hnm, hle2⟩ := Hgt.out
      have hn1 : tab (zs.take k) z = none := by unfold tab; exact if_neg hnm
      have hsS : (tab (zs.take k) z).isSome = false := by rw [hn1]; rfl
      have Hq := Lib.hid (show (tab (zs.take k) z).getD (false, false) = (false, false) by rw [hn1]; rfl)
      have Ht := Lib.hid (tab_snoc (zs.take k) z)
      have Hgn := Lib.hid (Hgs.out hnm hle2)
      clear hn1 hnm
      obtain ⟨c0, c1, c2, c3, c4⟩ := hM.cells
      have hat := hM.2
      have hM2 := hM.only ((Only.refl (fun _ => False) wr).alloc (.cells #[.bool false, .bool false] 50)) (by simp) (by simp)
      have ho2 := ho.alloc (.cells #[.bool false, .bool false] 50)
      have hat2 := hM2.2
      have hlm : lb + 1 < wr.heap.size := hM.lt.1
      have hnle : ¬ 16383 < z := by omega
      go_wp2_with (first
        | (at_lookup; refine wp_look rfl _ _ true rfl rfl hat z rfl hx false false Hq.out ?_)
        | (at_mapUpdate; refine wp_store rfl _ _ _ rfl rfl hat2 z rfl hx true false rfl ?_; intro w4 hat4 ho4 hs4; rw [if_neg (by rw [hsS]; decide)] at hat4)
        | go_in)
      rw [← Ht.out, ← Hs.out] at hat4
      go_roundw
      case rel => exact ⟨k + 1, by omega, by go_num, Hgn, hM2.links ho4 hat4, ho2.andThen ho4 (fun i hi h => by omega)⟩
      case measure => simp [intOf]; omega
    · have hkl : k = zs.length := by omega
      subst hkl
      rw [List.take_length] at hM
      have Hgl : GoodL zs := by have := Hgk.out; rwa [List.take_length] at this
      clear Hgl
      go_wp2
      go_ret2
      exact ⟨lb + 1, lb, rfl, by omega, hle, hM, ho⟩

set_option maxHeartbeats 1000000 in
theorem new_neg (a : Option Addr) (zs : List Int) (cap : Nat) (base : Int) (hlen : zs.length ≤ 64) (hp : Pts w a zs) (hg : GoodL zs) (hb : base < 0) :
    Calls Try.prog 8 #[.slice a zs.length cap, .int .i64 base] w fun e w' => e = .returned (.tuple #[.pointer none, .int .i64 1]) ∧ Only (fun _ => False) w w' := by
  have hmm := @run_makeMap Try.prog
  have Hp := Lib.hid hp
  have Hg := Lib.hid (p := GoodL zs) hg
  clear hp hg
  go_enter Try.func8, Try.ntmps8
  go_wp2
  have hM0 : Mach ((w.alloc (.map #[] 0)).alloc (.cells #[.bool true, .int .u8 0, .int .i64 base, .int .i64 0, .map (some w.heap.size)] 46)) (w.heap.size + 1) w.heap.size 0 base 0 (tab (zs.take 0)) 0 := by
    rw [List.take_zero, tab_nil]
    refine ⟨?_, (MapTy.at_made LT w).alloc _⟩
    have := (MapKept.heap_alloc (w.alloc (.map #[] 0)) (.cells #[.bool true, .int .u8 0, .int .i64 base, .int .i64 0, .map (some w.heap.size)] 46)).1
    simpa using this
  have hoM : Only (fun _ => False) w ((w.alloc (.map #[] 0)).alloc (.cells #[.bool true, .int .u8 0, .int .i64 base, .int .i64 0, .map (some w.heap.size)] 46)) := ((Only.refl _ _).alloc _).alloc _
  obtain ⟨lb, hlb⟩ : ∃ lb, w.heap.size = lb := ⟨_, rfl⟩
  have hle : w.heap.size ≤ lb := by omega
  simp only [hlb] at hM0 hoM ⊢
  clear hlb
  generalize ((w.alloc (.map #[] 0)).alloc (.cells #[.bool true, .int .u8 0, .int .i64 base, .int .i64 0, .map (some lb)] 46)) = w0 at *
  have hg0 : GoodL (zs.take 0) := ⟨by simp, by simp⟩
  have Hg0 := Lib.hid hg0
  clear hg0
  go_loopw [20] (fun i wr => ∃ k : Nat, k ≤ zs.length ∧ i = .int .i64 k ∧ Hid (GoodL (zs.take k)) ∧ Mach wr (lb + 1) lb 0 base 0 (tab (zs.take k)) k ∧ Only (fun _ => False) w wr)
    (fun i _ => zs.length - (intOf i).toNat)
  case atStart => exact ⟨0, Nat.zero_le _, rfl, Hg0, hM0, hoM⟩
  case round =>
    clear hM0 hoM Hg0
    obtain ⟨k, hk, rfl, Hgk, hM, ho⟩ := hrel
    by_cases hlt : k < zs.length
    · obtain ⟨b, off, ha, hcell⟩ := Hp.out.2.resolve_left (fun h => by rw [h] at hlt; cases hlt)
      subst ha
      have hc := ho.cell (hcell k hlt) (by simp)
      have hz : 0 ≤ zs[k]?.getD 0 ∧ zs[k]?.getD 0 ≤ 65535 := by
        have e : zs[k]?.getD 0 = zs[k] := by simp [hlt]
        rw [e]; exact Hp.out.1 _ (List.getElem_mem hlt)
      clear hcell
      have Hs := Lib.hid (take_snoc_getD zs k hlt)
      have Hgs := Lib.hid (good_snoc hlt Hgk.out)
      have Hgt := Lib.hid (good_take Hg.out k hlt)
      generalize zs[k]?.getD 0 = z at *
      obtain ⟨hz0, hz1⟩ := hz
      have hx : (Lit.int .u16 z).wf = true := wf_u16 hz0 hz1
      obtain ⟨hnm, hle2⟩ := Hgt.out
      have hn1 : tab (zs.take k) z = none := by unfold tab; exact if_neg hnm
      have hsS : (tab (zs.take k) z).isSome = false := by rw [hn1]; rfl
      have Hq := Lib.hid (show (tab (zs.take k) z).getD (false, false) = (false, false) by rw [hn1]; rfl)
      have Ht := Lib.hid (tab_snoc (zs.take k) z)
      have Hgn := Lib.hid (Hgs.out hnm hle2)
      clear hn1 hnm
      obtain ⟨c0, c1, c2, c3, c4⟩ := hM.cells
      have hat := hM.2
      have hM2 := hM.only ((Only.refl (fun _ => False) wr).alloc (.cells #[.bool false, .bool false] 50)) (by simp) (by simp)
      have ho2 := ho.alloc (.cells #[.bool false, .bool false] 50)
      have hat2 := hM2.2
      have hlm : lb + 1 < wr.heap.size := hM.lt.1
      have hnle : ¬ 16383 < z := by omega
      go_wp2_with (first
        | (at_lookup; refine wp_look rfl _ _ true rfl rfl hat z rfl hx false false Hq.out ?_)
        | (at_mapUpdate; refine wp_store rfl _ _ _ rfl rfl hat2 z rfl hx true false rfl ?_; intro w4 hat4 ho4 hs4; rw [if_neg (by rw [hsS]; decide)] at hat4)
        | go_in)
      rw [← Ht.out, ← Hs.out] at hat4
      go_roundw
      case rel => exact ⟨k + 1, by omega, by go_num, Hgn, hM2.links ho4 hat4, ho2.andThen ho4 (fun i hi h => by omega)⟩
      case measure => simp [intOf]; omega
    · have hkl : k = zs.length := by omega
      subst hkl
      rw [List.take_length] at hM
      have Hgl : GoodL zs := by have := Hgk.out; rwa [List.take_length] at this
      clear Hgl
      go_wp2
      go_ret2
      exact ⟨rfl, ho⟩

set_option maxHeartbeats 1000000 in
theorem new_bad (a : Option Addr) (zs : List Int) (cap : Nat) (base : Int) (hlen : zs.length ≤ 64) (hp : Pts w a zs) (hg : ¬ GoodL zs) :
    Calls Try.prog 8 #[.slice a zs.length cap, .int .i64 base] w fun e w' => e = .returned (.tuple #[.pointer none, .int .i64 1]) ∧ Only (fun _ => False) w w' := by
  have hmm := @run_makeMap Try.prog
  have Hp := Lib.hid hp
  have Hg := Lib.hid (p := ¬ GoodL zs) hg
  clear hp hg
  go_enter Try.func8, Try.ntmps8
  go_wp2
  have hM0 : Mach ((w.alloc (.map #[] 0)).alloc (.cells #[.bool true, .int .u8 0, .int .i64 base, .int .i64 0, .map (some w.heap.size)] 46)) (w.heap.size + 1) w.heap.size 0 base 0 (tab (zs.take 0)) 0 := by
    rw [List.take_zero, tab_nil]
    refine ⟨?_, (MapTy.at_made LT w).alloc _⟩
    have := (MapKept.heap_alloc (w.alloc (.map #[] 0)) (.cells #[.bool true, .int .u8 0, .int .i64 base, .int .i64 0, .map (some w.heap.size)] 46)).1
    simpa using this
  have hoM : Only (fun _ => False) w ((w.alloc (.map #[] 0)).alloc (.cells #[.bool true, .int .u8 0, .int .i64 base, .int .i64 0, .map (some w.heap.size)] 46)) := ((Only.refl _ _).alloc _).alloc _
  obtain ⟨lb, hlb⟩ : ∃ lb, w.heap.size = lb := ⟨_, rfl⟩
  have hle : w.heap.size ≤ lb := by omega
  simp only [hlb] at hM0 hoM ⊢
  clear hlb
  generalize ((w.alloc (.map #[] 0)).alloc (.cells #[.bool true, .int .u8 0, .int .i64 base, .int .i64 0, .map (some lb)] 46)) = w0 at *
  have hg0 : GoodL (zs.take 0) := ⟨by simp, by simp⟩
  have Hg0 := Lib.hid hg0
  clear hg0
  go_loopw [20] (fun i wr => ∃ k : Nat, k ≤ zs.length ∧ i = .int .i64 k ∧ Hid (GoodL (zs.take k)) ∧ Mach wr (lb + 1) lb 0 base 0 (tab (zs.take k)) k ∧ Only (fun _ => False) w wr)
    (fun i _ => zs.length - (intOf i).toNat)
  case atStart => exact ⟨0, Nat.zero_le _, rfl, Hg0, hM0, hoM⟩
  case round =>
    clear hM0 hoM Hg0
    obtain ⟨k, hk, rfl, Hgk, hM, ho⟩ := hrel
    by_cases hlt : k < zs.length
    · obtain ⟨b, off, ha, hcell⟩ := Hp.out.2.resolve_left (fun h => by rw [h] at hlt; cases hlt)
      subst ha
      have hc := ho.cell (hcell k hlt) (by simp)
      have hz : 0 ≤ zs[k]?.getD 0 ∧ zs[k]?.getD 0 ≤ 65535 := by
        have e : zs[k]?.getD 0 = zs[k] := by simp [hlt]
        rw [e]; exact Hp.out.1 _ (List.getElem_mem hlt)
      clear hcell
      have Hs := Lib.hid (take_snoc_getD zs k hlt)
      have Hgs := Lib.hid (good_snoc hlt Hgk.out)
      generalize zs[k]?.getD 0 = z at *
      obtain ⟨hz0, hz1⟩ := hz
      have hx : (Lit.int .u16 z).wf = true := wf_u16 hz0 hz1
      by_cases hnm : z ∈ zs.take k
      · have hn1 : tab (zs.take k) z = some (true, false) := by unfold tab; exact if_pos hnm
        have hsS : (tab (zs.take k) z).isSome = true := by rw [hn1]; rfl
        have Hq := Lib.hid (show (tab (zs.take k) z).getD (false, false) = (true, false) by rw [hn1]; rfl)
        clear hn1 hnm
        obtain ⟨c0, c1, c2, c3, c4⟩ := hM.cells
        have hat := hM.2
        go_wp2_with (first
          | (at_lookup; refine wp_look rfl _ _ true rfl rfl hat z rfl hx true false Hq.out ?_)
          | go_in)
        go_ret2
        exact ⟨rfl, ho.alloc _⟩
      by_cases hle2 : z ≤ 16383
      rotate_left
      · have hn1 : tab (zs.take k) z = none := by unfold tab; exact if_neg hnm
        have hsS : (tab (zs.take k) z).isSome = false := by rw [hn1]; rfl
        have Hq := Lib.hid (show (tab (zs.take k) z).getD (false, false) = (false, false) by rw [hn1]; rfl)
        clear hn1 hnm
        have hgt : 16383 < z := by omega
        obtain ⟨c0, c1, c2, c3, c4⟩ := hM.cells
        have hat := hM.2
        go_wp2_with (first
          | (at_lookup; refine wp_look rfl _ _ true rfl rfl hat z rfl hx false false Hq.out ?_)
          | go_in)
        go_ret2
        exact ⟨rfl, ho.alloc _⟩
      have hn1 : tab (zs.take k) z = none := by unfold tab; exact if_neg hnm
      have hsS : (tab (zs.take k) z).isSome = false := by rw [hn1]; rfl
      have Hq := Lib.hid (show (tab (zs.take k) z).getD (false, false) = (false, false) by rw [hn1]; rfl)
      have Ht := Lib.hid (tab_snoc (zs.take k) z)
      have Hgn := Lib.hid (Hgs.out hnm hle2)
      clear hn1 hnm
      obtain ⟨c0, c1, c2, c3, c4⟩ := hM.cells
      have hat := hM.2
      have hM2 := hM.only ((Only.refl (fun _ => False) wr).alloc (.cells #[.bool false, .bool false] 50)) (by simp) (by simp)
      have ho2 := ho.alloc (.cells #[.bool false, .bool false] 50)
      have hat2 := hM2.2
      have hlm : lb + 1 < wr.heap.size := hM.lt.1
      have hnle : ¬ 16383 < z := by omega
      go_wp2_with (first
        | (at_lookup; refine wp_look rfl _ _ true rfl rfl hat z rfl hx false false Hq.out ?_)
        | (at_mapUpdate; refine wp_store rfl _ _ _ rfl rfl hat2 z rfl hx true false rfl ?_; intro w4 hat4 ho4 hs4; rw [if_neg (by rw [hsS]; decide)] at hat4)
        | go_in)
      rw [← Ht.out, ← Hs.out] at hat4
      go_roundw
      case rel => exact ⟨k + 1, by omega, by go_num, Hgn, hM2.links ho4 hat4, ho2.andThen ho4 (fun i hi h => by omega)⟩
      case measure => simp [intOf]; omega
    · have hkl : k = zs.length := by omega
      subst hkl
      rw [List.take_length] at hM
      have Hgl : GoodL zs := by have := Hgk.out; rwa [List.take_length] at this
      exact absurd Hgl Hg.out

end

end Go.Proofs.Ytofdmfibffcojaa
