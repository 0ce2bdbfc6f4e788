/- Plain facts on byte strings and their order (no program). -/
import Derived.Lib.Bytealg
namespace Go.Proofs.YtdmckjojeddaaaaPlain

/-- How the reference compares. -/
def rcmp : List UInt8 → List UInt8 → Int
  | a :: as, b :: bs => if a = b then rcmp as bs else (a.toNat : Int) - (b.toNat : Int)
  | [], bs => - (bs.length : Int)
  | as, [] => (as.length : Int)

theorem rcmp_nil (bs : List UInt8) : rcmp [] bs = - (bs.length : Int) := by cases bs <;> rfl
theorem rcmp_nil' (as : List UInt8) : rcmp as [] = (as.length : Int) := by cases as <;> rfl

theorem rcmp_sign (a b : List UInt8) : (rcmp a b < 0 ↔ Lib.compareBytes a b < 0) ∧ (rcmp a b = 0 ↔ Lib.compareBytes a b = 0) := by
  induction a generalizing b with
  | nil =>
    rw [rcmp_nil]
    cases b with
    | nil => simp [Lib.compareBytes]
    | cons y b => simp [Lib.compareBytes]; omega
  | cons x a ih =>
    cases b with
    | nil => rw [rcmp_nil']; simp [Lib.compareBytes]; omega
    | cons y b =>
      simp only [rcmp, Lib.compareBytes]
      by_cases h : x = y
      · subst h
        simp [ih b]
      · rw [if_neg h]
        by_cases hlt : x < y
        · have : x.toNat < y.toNat := UInt8.lt_iff_toNat_lt.1 hlt
          rw [if_pos hlt]; omega
        · have hgt : y < x := UInt8.lt_of_le_of_ne (UInt8.not_lt.1 hlt) (Ne.symm h)
          have : y.toNat < x.toNat := UInt8.lt_iff_toNat_lt.1 hgt
          rw [if_neg hlt, if_pos hgt]; omega

theorem cb_values (a b : List UInt8) : Lib.compareBytes a b = -1 ∨ Lib.compareBytes a b = 0 ∨ Lib.compareBytes a b = 1 := by
  induction a generalizing b with
  | nil => cases b <;> simp [Lib.compareBytes]
  | cons x a ih =>
    cases b with
    | nil => simp [Lib.compareBytes]
    | cons y b => simp only [Lib.compareBytes]; split; · simp
                  split; · simp
                  exact ih b
theorem cb_eq {a b : List UInt8} : Lib.compareBytes a b = 0 ↔ a = b := by
  induction a generalizing b with
  | nil => cases b <;> simp [Lib.compareBytes]
  | cons x a ih =>
    cases b with
    | nil => simp [Lib.compareBytes]
    | cons y b =>
      simp only [Lib.compareBytes]
      by_cases h1 : x < y
      · rw [if_pos h1]
        simp
        intro e; subst e; exact absurd h1 (UInt8.lt_irrefl x)
      · rw [if_neg h1]
        by_cases h2 : y < x
        · rw [if_pos h2]
          simp
          intro e; subst e; exact absurd h2 (UInt8.lt_irrefl x)
        · rw [if_neg h2]
          have : x = y := UInt8.le_antisymm (UInt8.not_lt.1 h2) (UInt8.not_lt.1 h1)
          subst this
          rw [ih]; simp
theorem cb_self (a : List UInt8) : Lib.compareBytes a a = 0 := cb_eq.2 rfl
theorem rcmp_eq {a b : List UInt8} : rcmp a b = 0 ↔ a = b := (rcmp_sign a b).2.trans cb_eq

/-- Bytes come ahead of others. -/
def Lt (a b : List UInt8) : Prop := Lib.compareBytes a b < 0
instance (a b : List UInt8) : Decidable (Lt a b) := inferInstanceAs (Decidable (_ < _))
theorem lt_cons {x y : UInt8} {a b : List UInt8} : Lt (x :: a) (y :: b) ↔ x < y ∨ (x = y ∧ Lt a b) := by
  unfold Lt
  simp only [Lib.compareBytes]
  by_cases h1 : x < y
  · simp [h1]
  · rw [if_neg h1]
    by_cases h2 : y < x
    · rw [if_pos h2]
      have : x ≠ y := fun e => by subst e; exact UInt8.lt_irrefl x h2
      simp [h1, this]
    · rw [if_neg h2]
      have : x = y := UInt8.le_antisymm (UInt8.not_lt.1 h2) (UInt8.not_lt.1 h1)
      subst this
      simp [UInt8.lt_irrefl]
theorem lt_nil {a : List UInt8} : ¬ Lt a [] := by cases a <;> simp [Lt, Lib.compareBytes]
theorem nil_lt {x : UInt8} {a : List UInt8} : Lt [] (x :: a) := by simp [Lt, Lib.compareBytes]
theorem lt_irrefl (a : List UInt8) : ¬ Lt a a := by simp [Lt, cb_self]
theorem lt_trans {a b c : List UInt8} (h : Lt a b) (k : Lt b c) : Lt a c := by
  induction a generalizing b c with
  | nil =>
    cases c with
    | nil => exact absurd k lt_nil
    | cons z c => exact nil_lt
  | cons x a ih =>
    cases b with
    | nil => exact absurd h lt_nil
    | cons y b =>
      cases c with
      | nil => exact absurd k lt_nil
      | cons z c =>
        rw [lt_cons] at *
        rcases h with h | ⟨rfl, h⟩
        · rcases k with k | ⟨rfl, k⟩
          · exact .inl (UInt8.lt_trans h k)
          · exact .inl h
        · rcases k with k | ⟨rfl, k⟩
          · exact .inl k
          · exact .inr ⟨rfl, ih h k⟩
theorem lt_asymm {a b : List UInt8} (h : Lt a b) : ¬ Lt b a := fun k => lt_irrefl a (lt_trans h k)
theorem lt_tri (a b : List UInt8) : Lt a b ∨ a = b ∨ Lt b a := by
  induction a generalizing b with
  | nil => cases b with
    | nil => simp
    | cons y b => exact .inl nil_lt
  | cons x a ih =>
    cases b with
    | nil => exact .inr (.inr nil_lt)
    | cons y b =>
      rw [lt_cons, lt_cons]
      by_cases h1 : x < y
      · exact .inl (.inl h1)
      · by_cases h2 : y < x
        · exact .inr (.inr (.inl h2))
        · have : x = y := UInt8.le_antisymm (UInt8.not_lt.1 h2) (UInt8.not_lt.1 h1)
          subst this
          rcases ih b with h | h | h
          · exact .inl (.inr ⟨rfl, h⟩)
          · subst h; exact .inr (.inl rfl)
          · exact .inr (.inr (.inr ⟨rfl, h⟩))
theorem lt_ne {a b : List UInt8} (h : Lt a b) : a ≠ b := fun e => by subst e; exact lt_irrefl _ h
theorem cb_swap (a b : List UInt8) : Lib.compareBytes b a = - Lib.compareBytes a b := by
  have h1 := cb_values a b
  have h2 := cb_values b a
  rcases lt_tri a b with h | h | h
  · have : ¬ Lt b a := lt_asymm h
    have hne : ¬ Lib.compareBytes b a = 0 := fun e => lt_ne h (cb_eq.1 e).symm
    unfold Lt at *; omega
  · subst h; simp [cb_self]
  · have : ¬ Lt a b := lt_asymm h
    have hne : ¬ Lib.compareBytes a b = 0 := fun e => lt_ne h (cb_eq.1 e).symm
    unfold Lt at *; omega
theorem cb_neg {a b : List UInt8} : Lib.compareBytes a b < 0 ↔ Lt a b := Iff.rfl
theorem cb_pos {a b : List UInt8} : 0 < Lib.compareBytes a b ↔ Lt b a := by unfold Lt; have := cb_swap a b; omega
theorem cb_lt {a b : List UInt8} (h : Lt a b) : Lib.compareBytes a b = -1 := by unfold Lt at h; have := cb_values a b; omega
theorem cb_gt {a b : List UInt8} (h : Lt b a) : Lib.compareBytes a b = 1 := by have := cb_pos.2 h; have := cb_values a b; omega
theorem rcmp_neg {a b : List UInt8} : rcmp a b < 0 ↔ Lt a b := (rcmp_sign a b).1
theorem not_lt {a b : List UInt8} : ¬ Lt a b ↔ a = b ∨ Lt b a := ⟨fun h => (lt_tri a b).resolve_left h, fun h k => h.elim (fun e => lt_ne k e) (fun h => lt_asymm h k)⟩

/-- The comparison goes on behind equal beginnings. -/
theorem rcmp_drop (a b : List UInt8) (k : Nat) (ha : k < a.length) (hb : k < b.length) (e : rcmp a b = rcmp (a.drop k) (b.drop k)) :
    rcmp a b = if a[k] = b[k] then rcmp (a.drop (k + 1)) (b.drop (k + 1)) else (a[k].toNat : Int) - (b[k].toNat : Int) := by
  rw [e, List.drop_eq_getElem_cons ha, List.drop_eq_getElem_cons hb]
  rfl
theorem rcmp_end (a b : List UInt8) (k : Nat) (h : k ≤ a.length) (h' : k ≤ b.length) (hk : ¬ (k < a.length ∧ k < b.length)) (e : rcmp a b = rcmp (a.drop k) (b.drop k)) : rcmp a b = (a.length : Int) - (b.length : Int) := by
  rw [e]
  by_cases ha : k < a.length
  · have hb : b.length = k := by omega
    rw [List.drop_of_length_le (l := b) (by omega), rcmp_nil', List.length_drop]; omega
  · rw [List.drop_of_length_le (l := a) (by omega), rcmp_nil, List.length_drop]; omega

end Go.Proofs.YtdmckjojeddaaaaPlain

namespace Go.Proofs.YtdmckjojeddaaaaPlain

abbrev PairL := List (List UInt8 × List UInt8)
/-- How many pairs at the begin have lesser keys. -/
def rank (key : List UInt8) : PairL → Nat
  | [] => 0
  | p :: l => if Lt p.1 key then rank key l + 1 else 0
def hasL (key : List UInt8) (l : PairL) : Bool := match l.drop (rank key l) with
  | [] => false
  | p :: _ => decide (p.1 = key)
def putL (l : PairL) (k v : List UInt8) : PairL := l.take (rank k l) ++ (k, v) :: l.drop (if hasL k l then rank k l + 1 else rank k l)
def dropL (l : PairL) (k : List UInt8) : PairL := if hasL k l then l.take (rank k l) ++ l.drop (rank k l + 1) else l
def getL (l : PairL) (k : List UInt8) : Option (List UInt8) := if hasL k l then (l[rank k l]?).map (·.2) else none
def spanL (l : PairL) (low high : List UInt8) (bounded : Bool) : PairL :=
  let to := if bounded then rank high l else l.length
  (l.take to).drop (rank low l)

theorem rank_le (key : List UInt8) (l : PairL) : rank key l ≤ l.length := by
  induction l with
  | nil => exact Nat.le_refl _
  | cons p l ih => rw [rank]; split <;> simp <;> omega
theorem rank_at {key : List UInt8} {l : PairL} {k : Nat} (h : k < l.length) (e : rank key l = k + rank key (l.drop k)) : rank key l = if Lt l[k].1 key then (k + 1) + rank key (l.drop (k + 1)) else k := by
  rw [e, List.drop_eq_getElem_cons h, rank]
  split <;> omega
theorem rank_end {key : List UInt8} {l : PairL} {k : Nat} (h : l.length ≤ k) (e : rank key l = k + rank key (l.drop k)) : rank key l = k := by
  rw [e, List.drop_of_length_le h, rank]; rfl
theorem hasL_lt {key : List UInt8} {l : PairL} (h : rank key l < l.length) : hasL key l = decide (l[rank key l].1 = key) := by
  rw [hasL, List.drop_eq_getElem_cons h]
theorem hasL_ge {key : List UInt8} {l : PairL} (h : l.length ≤ rank key l) : hasL key l = false := by
  rw [hasL, List.drop_of_length_le h]
theorem hasL_rank {key : List UInt8} {l : PairL} (h : hasL key l = true) : rank key l < l.length := by
  rcases Nat.lt_or_ge (rank key l) l.length with h1 | h1
  · exact h1
  · rw [hasL_ge h1] at h; cases h
theorem mem_putL {l : PairL} {k v : List UInt8} {p : List UInt8 × List UInt8} (h : p ∈ putL l k v) : p = (k, v) ∨ p ∈ l := by
  unfold putL at h
  rw [List.mem_append, List.mem_cons] at h
  rcases h with h | h | h
  · exact .inr (List.mem_of_mem_take h)
  · exact .inl h
  · exact .inr (List.mem_of_mem_drop h)
theorem length_putL (l : PairL) (k v : List UInt8) : (putL l k v).length ≤ l.length + 1 := by
  unfold putL
  have := rank_le k l
  simp only [List.length_append, List.length_cons, List.length_take, List.length_drop]
  split <;> omega
end Go.Proofs.YtdmckjojeddaaaaPlain
