/- Plain facts: a sorted list compacted; kinds of labels. Conditions: none. -/
import Derived.Test.YtgabidgpngiecaaLP6
import Derived.Lib.SlicesCompact
namespace Go.Proofs.YtgabidgpngiecaaPlain
open Go.Lib

/-- What stays of a sorted list: rising, each element once. -/
theorem compact_up {d : Array Int} (hs : ∀ i j, i ≤ j → j < d.size → d[i]! ≤ d[j]!) : ∀ m, m ≤ d.size →
    (compactUpTo d m).Pairwise (· < ·) ∧ (∀ j, j < m → d[j]! ∈ compactUpTo d m) ∧ (∀ x ∈ compactUpTo d m, ∃ j, j < m ∧ x = d[j]!)
  | 0, _ => by
    refine ⟨by simp [compactUpTo], fun j hj => by omega, fun x hx => by simp [compactUpTo] at hx⟩
  | m + 1, hm => by
    obtain ⟨h1, h2, h3⟩ := compact_up hs m (by omega)
    rw [compactUpTo_succ]
    by_cases hk : keeps d m = true
    · rw [if_pos hk]
      have hlt : ∀ x ∈ compactUpTo d m, x < d[m]! := fun x hx => by
        obtain ⟨j, hj, rfl⟩ := h3 x hx
        have e1 : m = 0 ∨ d[m]! ≠ d[m - 1]! := by simpa [keeps] using hk
        have e2 := hs j (m - 1) (by omega) (by omega)
        have e3 := hs (m - 1) m (by omega) (by omega)
        rcases e1 with e1 | e1 <;> omega
      refine ⟨List.pairwise_append.2 ⟨h1, by simp, fun x hx y hy => ?_⟩, fun j hj => ?_, fun x hx => ?_⟩
      · rw [List.mem_singleton.1 hy]
        exact hlt x hx
      · rcases Nat.lt_or_eq_of_le (Nat.le_of_lt_succ hj) with h | rfl
        · exact List.mem_append_left _ (h2 j h)
        · exact List.mem_append_right _ (by simp)
      · rcases List.mem_append.1 hx with h | h
        · obtain ⟨j, hj, e⟩ := h3 x h
          exact ⟨j, by omega, e⟩
        · exact ⟨m, by omega, by simpa using h⟩
    · rw [if_neg hk, List.append_nil]
      have e1 : ¬ (m = 0 ∨ d[m]! ≠ d[m - 1]!) := by simpa [keeps] using hk
      have e2 : m ≠ 0 ∧ d[m]! = d[m - 1]! := ⟨fun h => e1 (.inl h), Decidable.byContradiction fun h => e1 (.inr h)⟩
      refine ⟨h1, fun j hj => ?_, fun x hx => ?_⟩
      · rcases Nat.lt_or_eq_of_le (Nat.le_of_lt_succ hj) with h | rfl
        · exact h2 j h
        · rw [e2.2]
          exact h2 _ (by omega)
      · obtain ⟨j, hj, e⟩ := h3 x hx
        exact ⟨j, by omega, e⟩
theorem compact_sorted {zs : List Int} (h : zs.Pairwise (· ≤ ·)) : (compact zs).Pairwise (· < ·) ∧ ∀ x, x ∈ compact zs ↔ x ∈ zs := by
  have hg : ∀ j, (h : j < zs.length) → zs.toArray[j]! = zs[j] := fun j hj => by simp [hj]
  have hs : ∀ i j, i ≤ j → j < zs.toArray.size → zs.toArray[i]! ≤ zs.toArray[j]! := fun i j hij hj => by
    have hj' : j < zs.length := by simpa using hj
    rw [hg i (by omega), hg j hj']
    rcases Nat.lt_or_eq_of_le hij with h1 | rfl
    · exact List.pairwise_iff_getElem.1 h i j (by omega) hj' h1
    · exact Int.le_refl _
  obtain ⟨h1, h2, h3⟩ := compact_up hs zs.length (by simp)
  refine ⟨h1, fun x => ⟨fun hx => ?_, fun hx => ?_⟩⟩
  · obtain ⟨j, hj, rfl⟩ := h3 x hx
    rw [hg j hj]
    exact List.getElem_mem hj
  · obtain ⟨j, hj, rfl⟩ := List.getElem_of_mem hx
    have := h2 j hj
    rwa [hg j hj] at this
/-- All but the last of a rising list have a greater one in it. -/
theorem dropLast_lt {xs : List Int} (h : xs.Pairwise (· < ·)) {x : Int} (hx : x ∈ xs.dropLast) : x ∈ xs ∧ ∃ y ∈ xs, x < y := by
  have hne : xs ≠ [] := fun e => by rw [e] at hx; simp at hx
  have e : xs.dropLast ++ [xs.getLast hne] = xs := List.dropLast_concat_getLast hne
  refine ⟨List.dropLast_subset _ hx, xs.getLast hne, List.getLast_mem hne, ?_⟩
  rw [← e] at h
  exact (List.pairwise_append.1 h).2.2 x hx _ (by simp)
theorem dropLast_nil {xs : List Int} (h : xs.dropLast = []) {x y : Int} (hx : x ∈ xs) (hy : y ∈ xs) : x = y := by
  have hl : xs.length ≤ 1 := by
    have := congrArg List.length h
    rw [List.length_dropLast] at this
    simp at this
    omega
  match xs, hl with
  | [], _ => simp at hx
  | [z], _ => rw [List.mem_singleton.1 hx, List.mem_singleton.1 hy]

/-! ### Kinds -/
theorem totC_one {c : Nat → Nat} {m : Nat} (hm : m < 8) (h : ∀ i, i < 8 → i ≠ m → c i = 0) : totC c 8 = (c m : Int) := by
  have e0 := h 0
  have e1 := h 1
  have e2 := h 2
  have e3 := h 3
  have e4 := h 4
  have e5 := h 5
  have e6 := h 6
  have e7 := h 7
  have : m = 0 ∨ m = 1 ∨ m = 2 ∨ m = 3 ∨ m = 4 ∨ m = 5 ∨ m = 6 ∨ m = 7 := by omega
  simp only [totC]
  rcases this with rfl | rfl | rfl | rfl | rfl | rfl | rfl | rfl <;> omega
theorem cnt8_perm {T U : List Row} (h : T.Perm U) : cnt8 T = cnt8 U := by
  funext i
  unfold cnt8 cntL
  exact h.countP_eq _
theorem cnt8_pos {T : List Row} {i : Nat} : 0 < cnt8 T i ↔ ∃ r ∈ T, r.l = (i : Nat) := by
  unfold cnt8 cntL
  rw [List.countP_pos_iff]
  simp
end Go.Proofs.YtgabidgpngiecaaPlain
