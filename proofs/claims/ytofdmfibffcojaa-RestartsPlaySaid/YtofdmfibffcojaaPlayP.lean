/-
  RestartsPlay: the definition's arrays, and the machine's state that goes with them.
-/
import Derived.Test.YtofdmfibffcojaaCommon
namespace Go.Proofs.Ytofdmfibffcojaa
open Go.RowKit Go.PC

/-- Block b is an array of bools. -/
def Arr (w : World) (b : Nat) (us : List Bool) : Prop := w.heap[b]? = some (.cells (us.map Value.bool).toArray 33 (0, 0)) ∧ us.length = 6

section
variable {w w' : World} {b : Nat} {us : List Bool}

theorem Arr.lt (h : Arr w b us) : b < w.heap.size := lt_of_heap h.1
theorem Arr.only {S : Nat → Prop} (h : Arr w b us) (ho : Only S w w') (hS : ¬ S b) : Arr w' b us := ⟨ho.keep h.1 hS, h.2⟩
theorem Arr.cell (h : Arr w b us) (k : Nat) (hk : k < 6) : w.cell? ⟨b, k, none⟩ = some (.bool (us[k]?.getD false)) := by
  have hk' : k < us.length := by rw [h.2]; exact hk
  simp [World.cell?, h.1, hk']
theorem Arr.free (h : Arr w b us) (k : Nat) : w.frozen? ⟨b, k, none⟩ = false := by simp [World.frozen?, h.1]
theorem Arr.set (h : Arr w b us) (k : Nat) (v : Bool) : Arr (w.setCell ⟨b, k, none⟩ (.bool v)) b (us.set k v) := by
  refine ⟨(heap_setCell_at h.1 _ _).trans ?_, by simp [h.2]⟩
  congr 2
  apply Array.toList_inj.1
  simp [List.map_set]
end

/-- The machine's links for the definition's arrays. -/
def psOf (n : Nat) (us ds : List Bool) : List (Bool × Bool) := (List.range n).map fun i => (us[i]?.getD false, ds[i]?.getD false)

section
variable {n : Nat} {us ds : List Bool} {base st t since : Int} {k : Nat}

theorem psOf_len : (psOf n us ds).length = n := by simp [psOf]
theorem psOf_get (hk : k < n) : (psOf n us ds)[k]?.getD (false, false) = (us[k]?.getD false, ds[k]?.getD false) := by simp [psOf, hk]

theorem psOf_at (i : Nat) : (psOf n us ds)[i]? = if i < n then some (us[i]?.getD false, ds[i]?.getD false) else none := by
  unfold psOf
  rw [List.getElem?_map]
  by_cases h : i < n <;> simp [h]

theorem rep_get (b : Bool) {i : Nat} (h : i < 6) : (List.replicate 6 b)[i]?.getD false = b := by
  rw [List.getElem?_replicate, if_pos h]; rfl

theorem psOf_set (hk : k < n) (hu : us.length = 6) (hd : ds.length = 6) (hn : n ≤ 6) (u d : Bool) : (psOf n us ds).set k (u, d) = psOf n (us.set k u) (ds.set k d) := by
  apply List.ext_getElem?
  intro i
  rw [List.getElem?_set, psOf_at, psOf_at, psOf_len]
  by_cases hik : k = i
  · subst hik
    have h3 : k < us.length := by omega
    have h4 : k < ds.length := by omega
    simp [hk, h3, h4]
  · rw [if_neg hik, List.getElem?_set_ne hik, List.getElem?_set_ne hik]

theorem set_same (l : List Bool) (k : Nat) : l.set k (l[k]?.getD false) = l := by
  apply List.ext_getElem
  · simp
  · intro i h1 h2
    rw [List.getElem_set]
    split
    · rename_i h; subst h; simp [h2]
    · rfl

theorem play_err : St.err ⟨st, base, since, psOf n us ds⟩ k = if k < n then 0 else 7 := by unfold St.err; rw [psOf_len]

theorem play_up (hk : k < n) (hu : us.length = 6) (hd : ds.length = 6) (hn : n ≤ 6) :
    St.up ⟨st, base, since, psOf n us ds⟩ t k = ⟨if st = 1 then 2 else st, base, if st = 1 then t else since, psOf n (us.set k true) ds⟩ := by
  unfold St.up
  simp only [psOf_len, if_pos hk, psOf_get hk]
  rw [psOf_set hk hu hd hn, set_same]
theorem play_up_no (hk : ¬ k < n) : St.up ⟨st, base, since, psOf n us ds⟩ t k = ⟨st, base, since, psOf n us ds⟩ := by
  unfold St.up
  simp only [psOf_len, if_neg hk]

theorem play_any : (psOf n us ds).any (fun p => p.1) = (List.range n).any fun i => us[i]?.getD false := by
  unfold psOf
  rw [List.any_map]
  rfl
theorem play_all : (psOf n us ds).all (fun p => p.2 || !p.1) = (List.range n).all fun i => !(us[i]?.getD false) || ds[i]?.getD false := by
  unfold psOf
  rw [List.all_map]
  congr 1
  funext i
  exact Bool.or_comm _ _

theorem play_down (hk : k < n) (hu : us.length = 6) (hd : ds.length = 6) (hn : n ≤ 6) :
    St.down ⟨st, base, since, psOf n us ds⟩ k = ⟨if ((List.range n).any fun i => (us.set k false)[i]?.getD false) = true then st else 1, base, since, psOf n (us.set k false) (ds.set k false)⟩ := by
  unfold St.down
  simp only [psOf_len, if_pos hk]
  rw [psOf_set hk hu hd hn, play_any]
theorem play_down_no (hk : ¬ k < n) : St.down ⟨st, base, since, psOf n us ds⟩ k = ⟨st, base, since, psOf n us ds⟩ := by
  unfold St.down
  simp only [psOf_len, if_neg hk]

theorem play_done (hk : k < n) (hu : us.length = 6) (hd : ds.length = 6) (hn : n ≤ 6) (h : us[k]?.getD false = true) :
    St.done ⟨2, base, since, psOf n us ds⟩ k = ⟨2, base, since, psOf n us (ds.set k true)⟩ := by
  unfold St.done
  rw [if_pos ⟨by simpa [psOf_len] using hk, by simp only [psOf_get hk]; exact h, rfl⟩]
  simp only
  rw [psOf_set hk hu hd hn]
  have : us.set k true = us := by rw [← h]; exact set_same us k
  rw [this]
theorem play_done_no (h : ¬ (k < n ∧ us[k]?.getD false = true ∧ st = 2)) : St.done ⟨st, base, since, psOf n us ds⟩ k = ⟨st, base, since, psOf n us ds⟩ := by
  unfold St.done
  rw [if_neg]
  rintro ⟨h1, h2, h3⟩
  simp only [psOf_len] at h1
  simp only [psOf_get h1] at h2
  exact h ⟨h1, h2, h3⟩

theorem play_ends : St.ends ⟨st, base, since, psOf n us ds⟩ t = (decide (st = 2) && (((List.range n).all fun i => !(us[i]?.getD false) || ds[i]?.getD false) || decide (dueAt base since ≤ t))) := by
  unfold St.ends
  simp only [play_all]
theorem play_tick (h : St.ends ⟨st, base, since, psOf n us ds⟩ t = true) (hn : n ≤ 6) : St.tick ⟨st, base, since, psOf n us ds⟩ t = ⟨0, base, since, psOf n us (List.replicate 6 false)⟩ := by
  unfold St.tick
  rw [h, if_pos rfl]
  have : (psOf n us ds).map (fun p => (p.1, false)) = psOf n us (List.replicate 6 false) := by
    unfold psOf
    rw [List.map_map]
    apply List.map_congr_left
    intro i hi
    have := List.mem_range.1 hi
    have h6 : i < 6 := by omega
    simp only [Function.comp, rep_get false h6]
  simp only [this]
theorem play_tick_no (h : St.ends ⟨st, base, since, psOf n us ds⟩ t = false) : St.tick ⟨st, base, since, psOf n us ds⟩ t = ⟨st, base, since, psOf n us ds⟩ := by
  unfold St.tick
  rw [h, if_neg (by decide)]

theorem psOf_start (hn : n ≤ 6) : psOf n (List.replicate 6 true) (List.replicate 6 false) = List.replicate n (true, false) := by
  apply List.ext_getElem?
  intro i
  rw [psOf_at]
  by_cases h : i < n
  · rw [if_pos h, rep_get true (by omega), rep_get false (by omega), List.getElem?_replicate, if_pos h]
  · rw [if_neg h, List.getElem?_replicate, if_neg h]
end

theorem set6 (ds : List Bool) (h : ds.length = 6) : (((((ds.set 0 false).set 1 false).set 2 false).set 3 false).set 4 false).set 5 false = List.replicate 6 false := by
  match ds, h with
  | [_, _, _, _, _, _], _ => rfl

theorem rany_succ (f : Nat → Bool) (k : Nat) : (List.range (k + 1)).any f = ((List.range k).any f || f k) := by
  rw [List.range_succ, List.any_append]; simp
theorem rall_succ (f : Nat → Bool) (k : Nat) : (List.range (k + 1)).all f = ((List.range k).all f && f k) := by
  rw [List.range_succ, List.all_append]; simp

/-- What the law reads: the acts. -/
def Acts (w : World) (a : Option Addr) (len : Nat) (f : Nat → Int × Int × Int) : Prop :=
  len = 0 ∨ ∃ b off, a = some ⟨b, off, none⟩ ∧ ∀ i, i < len → (w.cell? ⟨b, off + i * 3, none⟩ = some (.int .u8 (f i).1) ∧ w.cell? ⟨b, off + i * 3 + 1, none⟩ = some (.int .u8 (f i).2.1) ∧ w.cell? ⟨b, off + i * 3 + 2, none⟩ = some (.int .u8 (f i).2.2)) ∧
    (0 ≤ (f i).1 ∧ (f i).1 ≤ 255) ∧ (0 ≤ (f i).2.1 ∧ (f i).2.1 ≤ 255) ∧ (0 ≤ (f i).2.2 ∧ (f i).2.2 ≤ 255)

end Go.Proofs.Ytofdmfibffcojaa
