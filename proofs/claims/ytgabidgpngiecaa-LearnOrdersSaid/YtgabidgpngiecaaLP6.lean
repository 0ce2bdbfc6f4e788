/- Plain facts: counts of labels. Conditions: none. -/
import Derived.Test.YtgabidgpngiecaaLP5
namespace Go.Proofs.YtgabidgpngiecaaPlain

def sqC (c : Nat → Nat) : Nat → Int
  | 0 => 0
  | k + 1 => sqC c k + (c k : Int) * (c k : Int)
def totC (c : Nat → Nat) : Nat → Int
  | 0 => 0
  | k + 1 => totC c k + (c k : Int)
/-- The label of most of the first k, the least one of equals. -/
def mostC (c : Nat → Nat) : Nat → Nat
  | 0 => 0
  | k + 1 => if c (mostC c k) < c k then k else mostC c k
theorem sqC_bd {c : Nat → Nat} {m : Nat} (h : ∀ i, i < m → c i ≤ 1000) : ∀ k, k ≤ m → 0 ≤ sqC c k ∧ sqC c k ≤ (k : Int) * 1000000
  | 0, _ => by simp [sqC]
  | k + 1, hk => by
    have h1 := sqC_bd h k (by omega)
    have h2 := h k (by omega)
    have h3 : (c k : Int) * (c k : Int) ≤ 1000 * 1000 := Int.mul_le_mul (by omega) (by omega) (by omega) (by omega)
    have h4 : 0 ≤ (c k : Int) * (c k : Int) := Int.mul_nonneg (by omega) (by omega)
    rw [sqC]
    omega
theorem totC_bd {c : Nat → Nat} {m : Nat} (h : ∀ i, i < m → c i ≤ 1000) : ∀ k, k ≤ m → 0 ≤ totC c k ∧ totC c k ≤ (k : Int) * 1000
  | 0, _ => by simp [totC]
  | k + 1, hk => by
    have h1 := totC_bd h k (by omega)
    have h2 := h k (by omega)
    rw [totC]
    omega
theorem mostC_lt (c : Nat → Nat) : ∀ k, mostC c k = 0 ∨ mostC c k < k
  | 0 => .inl rfl
  | k + 1 => by
    rw [mostC]
    split
    · exact .inr (by omega)
    · have := mostC_lt c k; omega
theorem mostC_max {c : Nat → Nat} : ∀ k i, i < k → c i ≤ c (mostC c k)
  | k + 1, i, hi => by
    rw [mostC]
    rcases Nat.lt_or_eq_of_le (Nat.le_of_lt_succ hi) with h | rfl
    · have := mostC_max (c := c) k i h
      split <;> omega
    · split <;> omega
theorem mostC_least {c : Nat → Nat} : ∀ k i, i < mostC c k → c i < c (mostC c k)
  | 0, i, hi => by simp [mostC] at hi
  | k + 1, i, hi => by
    rw [mostC] at hi ⊢
    split at hi
    · rename_i h
      rw [if_pos h]
      have := mostC_max (c := c) k i hi
      omega
    · rename_i h
      rw [if_neg h]
      exact mostC_least k i hi
/-- The counts of the labels of some rows. -/
def cnt8 (T : List Row) (i : Nat) : Nat := cntL T (i : Nat)
theorem totC_cons (r : Row) (T : List Row) : ∀ k : Nat, totC (cnt8 (r :: T)) k = totC (cnt8 T) k + if 0 ≤ r.l ∧ r.l < (k : Int) then 1 else 0
  | 0 => by simp only [totC]; rw [if_neg (by omega)]; rfl
  | k + 1 => by
    rw [totC, totC, totC_cons r T k]
    have e : cnt8 (r :: T) k = cnt8 T k + if r.l = (k : Nat) then 1 else 0 := by
      unfold cnt8 cntL
      rw [List.countP_cons]
      simp
    rw [e]
    by_cases h1 : r.l = (k : Nat)
    · rw [if_pos h1, if_neg (by omega), if_pos (by omega)]; omega
    · rw [if_neg h1]
      by_cases h2 : 0 ≤ r.l ∧ r.l < (k : Int)
      · rw [if_pos h2, if_pos (by omega)]; omega
      · rw [if_neg h2, if_neg (by omega)]; omega
theorem totC_len {T : List Row} (h : ∀ r ∈ T, okRow r) : totC (cnt8 T) 8 = (T.length : Int) := by
  induction T with
  | nil => rfl
  | cons r T ih =>
    rw [totC_cons, ih (fun s hs => h s (List.mem_cons_of_mem _ hs))]
    obtain ⟨_, _, _, h1, h2⟩ := h r List.mem_cons_self
    rw [if_pos ⟨h1, h2⟩, List.length_cons]
    omega
end Go.Proofs.YtgabidgpngiecaaPlain
