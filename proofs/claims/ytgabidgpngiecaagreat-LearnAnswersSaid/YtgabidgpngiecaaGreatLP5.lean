/- Plain facts: votes. Conditions: none. -/
import Derived.Test.YtgabidgpngiecaaGreatLP1
namespace Go.Proofs.YtgabidgpngiecaaGreatPlain

/-- Labels in the order in which they come first. -/
def firsts : List Row → List Int
  | [] => []
  | r :: T => r.l :: (firsts T).filter (fun l => decide (l ≠ r.l))
theorem firsts_le : ∀ T : List Row, (firsts T).length ≤ T.length
  | [] => Nat.le_refl _
  | r :: T => by
    rw [firsts, List.length_cons, List.length_cons]
    have h1 := List.length_filter_le (fun l => decide (l ≠ r.l)) (firsts T)
    have h2 := firsts_le T
    omega
def cntL (T : List Row) (lab : Int) : Nat := T.countP (fun r => decide (r.l = lab))
def bestStep (T : List Row) (best lab : Int) : Int := if cntL T best < cntL T lab then lab else best
/-- The label for which most rows vote. -/
def bestOf (T : List Row) : Int :=
  match firsts T with
  | [] => 0
  | b :: fs => (b :: fs).foldl (bestStep T) b
theorem mem_firsts {l : Int} : ∀ {T : List Row}, l ∈ firsts T ↔ ∃ r ∈ T, r.l = l
  | [] => by simp [firsts]
  | r :: T => by
    rw [firsts, List.mem_cons, List.mem_filter, mem_firsts (T := T)]
    constructor
    · rintro (rfl | ⟨⟨s, hs, rfl⟩, _⟩)
      · exact ⟨r, List.mem_cons_self, rfl⟩
      · exact ⟨s, List.mem_cons_of_mem _ hs, rfl⟩
    · rintro ⟨s, hs, rfl⟩
      by_cases h : s.l = r.l
      · exact .inl h
      · rcases List.mem_cons.1 hs with rfl | hs
        · exact absurd rfl h
        · exact .inr ⟨⟨s, hs, rfl⟩, by simpa using h⟩
theorem firsts_push (r : Row) : ∀ T : List Row, firsts (T ++ [r]) = if r.l ∈ firsts T then firsts T else firsts T ++ [r.l]
  | [] => by simp [firsts]
  | s :: T => by
    rw [List.cons_append, firsts, firsts_push r T, firsts]
    by_cases h1 : r.l ∈ firsts T
    · rw [if_pos h1]
      by_cases h2 : r.l = s.l
      · rw [if_pos (by rw [h2]; exact List.mem_cons_self)]
      · rw [if_pos (List.mem_cons_of_mem _ (List.mem_filter.2 ⟨h1, by simpa using h2⟩))]
    · rw [if_neg h1, List.filter_append]
      by_cases h2 : r.l = s.l
      · rw [if_pos (by rw [h2]; exact List.mem_cons_self)]
        simp [h2]
      · rw [if_neg (by simp [h2, List.mem_filter, h1])]
        simp [h2]
theorem firsts_rep (r : Row) (T : List Row) : ∀ n : Nat, 0 < n → firsts (T ++ List.replicate n r) = if r.l ∈ firsts T then firsts T else firsts T ++ [r.l]
  | 1, _ => firsts_push r T
  | n + 2, _ => by
    rw [List.replicate_succ', ← List.append_assoc, firsts_push, firsts_rep r T (n + 1) (by omega)]
    split
    · rfl
    · rw [if_pos (by simp)]
theorem cntL_rep (r : Row) (T : List Row) (n : Nat) (lab : Int) : cntL (T ++ List.replicate n r) lab = cntL T lab + if r.l = lab then n else 0 := by
  unfold cntL
  rw [List.countP_append, List.countP_replicate]
  simp
theorem cntL_le (T : List Row) (lab : Int) : cntL T lab ≤ T.length := List.countP_le_length
/-- The first k rows, entry for entry. -/
theorem take_step {L : List (Row × Nat)} {k i : Nat} {p : Row × Nat} (hi : L[i]? = some p) (hk : (expand (L.take i)).length ≤ k) :
    (expand (L.take (i + 1))).take k = expand (L.take i) ++ List.replicate (min (k - (expand (L.take i)).length) p.2) p.1 := by
  have e : L.take (i + 1) = L.take i ++ [p] := by rw [List.take_add_one, hi]; rfl
  rw [e]
  have e2 : expand (L.take i ++ [p]) = expand (L.take i) ++ List.replicate p.2 p.1 := by simp [expand]
  rw [e2, List.take_append, List.take_of_length_le hk, List.take_replicate]
theorem take_done {L : List (Row × Nat)} {k i : Nat} (hk : k ≤ (expand (L.take i)).length) : (expand L).take k = (expand (L.take i)).take k := by
  have e : expand L = expand (L.take i) ++ expand (L.drop i) := by
    unfold expand
    rw [← List.flatMap_append, List.take_append_drop]
  rw [e, List.take_append_of_le_length hk]
end Go.Proofs.YtgabidgpngiecaaGreatPlain

namespace Go.Proofs.YtgabidgpngiecaaGreatPlain

def sqC (c : Nat → Nat) : Nat → Int
  | 0 => 0
  | k + 1 => sqC c k + (c k : Int) * (c k : Int)
def totC (c : Nat → Nat) : Nat → Int
  | 0 => 0
  | k + 1 => totC c k + (c k : Int)
/-- The label of most of the first k, the least one of equals. -/
def mostC (c : Nat → Nat) : Nat → Nat
  | 0 => 0
  | k + 1 => if c (mostC c k) < c k then k else mostC c k
theorem sqC_bd {c : Nat → Nat} {m : Nat} (h : ∀ i, i < m → c i ≤ 1000) : ∀ k, k ≤ m → 0 ≤ sqC c k ∧ sqC c k ≤ (k : Int) * 1000000
  | 0, _ => by simp [sqC]
  | k + 1, hk => by
    have h1 := sqC_bd h k (by omega)
    have h2 := h k (by omega)
    have h3 : (c k : Int) * (c k : Int) ≤ 1000 * 1000 := Int.mul_le_mul (by omega) (by omega) (by omega) (by omega)
    have h4 : 0 ≤ (c k : Int) * (c k : Int) := Int.mul_nonneg (by omega) (by omega)
    rw [sqC]
    omega
theorem totC_bd {c : Nat → Nat} {m : Nat} (h : ∀ i, i < m → c i ≤ 1000) : ∀ k, k ≤ m → 0 ≤ totC c k ∧ totC c k ≤ (k : Int) * 1000
  | 0, _ => by simp [totC]
  | k + 1, hk => by
    have h1 := totC_bd h k (by omega)
    have h2 := h k (by omega)
    rw [totC]
    omega
theorem mostC_lt (c : Nat → Nat) : ∀ k, mostC c k = 0 ∨ mostC c k < k
  | 0 => .inl rfl
  | k + 1 => by
    rw [mostC]
    split
    · exact .inr (by omega)
    · have := mostC_lt c k; omega
theorem mostC_max {c : Nat → Nat} : ∀ k i, i < k → c i ≤ c (mostC c k)
  | k + 1, i, hi => by
    rw [mostC]
    rcases Nat.lt_or_eq_of_le (Nat.le_of_lt_succ hi) with h | rfl
    · have := mostC_max (c := c) k i h
      split <;> omega
    · split <;> omega
theorem mostC_least {c : Nat → Nat} : ∀ k i, i < mostC c k → c i < c (mostC c k)
  | 0, i, hi => by simp [mostC] at hi
  | k + 1, i, hi => by
    rw [mostC] at hi ⊢
    split at hi
    · rename_i h
      rw [if_pos h]
      have := mostC_max (c := c) k i hi
      omega
    · rename_i h
      rw [if_neg h]
      exact mostC_least k i hi
/-- The counts of the labels of some rows. -/
def cnt8 (T : List Row) (i : Nat) : Nat := cntL T (i : Nat)
theorem totC_cons (r : Row) (T : List Row) : ∀ k : Nat, totC (cnt8 (r :: T)) k = totC (cnt8 T) k + if 0 ≤ r.l ∧ r.l < (k : Int) then 1 else 0
  | 0 => by simp only [totC]; rw [if_neg (by omega)]; rfl
  | k + 1 => by
    rw [totC, totC, totC_cons r T k]
    have e : cnt8 (r :: T) k = cnt8 T k + if r.l = (k : Nat) then 1 else 0 := by
      unfold cnt8 cntL
      rw [List.countP_cons]
      simp
    rw [e]
    by_cases h1 : r.l = (k : Nat)
    · rw [if_pos h1, if_neg (by omega), if_pos (by omega)]; omega
    · rw [if_neg h1]
      by_cases h2 : 0 ≤ r.l ∧ r.l < (k : Int)
      · rw [if_pos h2, if_pos (by omega)]; omega
      · rw [if_neg h2, if_neg (by omega)]; omega
theorem totC_len {T : List Row} (h : ∀ r ∈ T, okRow r) : totC (cnt8 T) 8 = (T.length : Int) := by
  induction T with
  | nil => rfl
  | cons r T ih =>
    rw [totC_cons, ih (fun s hs => h s (List.mem_cons_of_mem _ hs))]
    obtain ⟨_, _, _, h1, h2⟩ := h r List.mem_cons_self
    rw [if_pos ⟨h1, h2⟩, List.length_cons]
    omega
end Go.Proofs.YtgabidgpngiecaaGreatPlain
