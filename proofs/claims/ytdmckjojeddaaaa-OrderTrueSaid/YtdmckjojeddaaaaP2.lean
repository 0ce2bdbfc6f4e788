/- Plain facts on lists of pairs in the order of their keys (no program). -/
import Derived.Test.YtdmckjojeddaaaaP1
namespace Go.Proofs.YtdmckjojeddaaaaPlain

abbrev PairL := List (List UInt8 × List UInt8)
/-- How many pairs at the begin have lesser keys. -/
def rank (key : List UInt8) : PairL → Nat
  | [] => 0
  | p :: l => if Lt p.1 key then rank key l + 1 else 0
def hasL (key : List UInt8) (l : PairL) : Bool := match l.drop (rank key l) with
  | [] => false
  | p :: _ => decide (p.1 = key)
def putL (l : PairL) (k v : List UInt8) : PairL := l.take (rank k l) ++ (k, v) :: l.drop (if hasL k l then rank k l + 1 else rank k l)
def dropL (l : PairL) (k : List UInt8) : PairL := if hasL k l then l.take (rank k l) ++ l.drop (rank k l + 1) else l
def getL (l : PairL) (k : List UInt8) : Option (List UInt8) := if hasL k l then (l[rank k l]?).map (·.2) else none
def spanL (l : PairL) (low high : List UInt8) (bounded : Bool) : PairL :=
  let to := if bounded then rank high l else l.length
  (l.take to).drop (rank low l)

theorem rank_le (key : List UInt8) (l : PairL) : rank key l ≤ l.length := by
  induction l with
  | nil => exact Nat.le_refl _
  | cons p l ih => rw [rank]; split <;> simp <;> omega
theorem rank_at {key : List UInt8} {l : PairL} {k : Nat} (h : k < l.length) (e : rank key l = k + rank key (l.drop k)) : rank key l = if Lt l[k].1 key then (k + 1) + rank key (l.drop (k + 1)) else k := by
  rw [e, List.drop_eq_getElem_cons h, rank]
  split <;> omega
theorem rank_end {key : List UInt8} {l : PairL} {k : Nat} (h : l.length ≤ k) (e : rank key l = k + rank key (l.drop k)) : rank key l = k := by
  rw [e, List.drop_of_length_le h, rank]; rfl
theorem hasL_lt {key : List UInt8} {l : PairL} (h : rank key l < l.length) : hasL key l = decide (l[rank key l].1 = key) := by
  rw [hasL, List.drop_eq_getElem_cons h]
theorem hasL_ge {key : List UInt8} {l : PairL} (h : l.length ≤ rank key l) : hasL key l = false := by
  rw [hasL, List.drop_of_length_le h]
theorem hasL_rank {key : List UInt8} {l : PairL} (h : hasL key l = true) : rank key l < l.length := by
  rcases Nat.lt_or_ge (rank key l) l.length with h1 | h1
  · exact h1
  · rw [hasL_ge h1] at h; cases h
theorem mem_putL {l : PairL} {k v : List UInt8} {p : List UInt8 × List UInt8} (h : p ∈ putL l k v) : p = (k, v) ∨ p ∈ l := by
  unfold putL at h
  rw [List.mem_append, List.mem_cons] at h
  rcases h with h | h | h
  · exact .inr (List.mem_of_mem_take h)
  · exact .inl h
  · exact .inr (List.mem_of_mem_drop h)
theorem length_putL (l : PairL) (k v : List UInt8) : (putL l k v).length ≤ l.length + 1 := by
  unfold putL
  have := rank_le k l
  simp only [List.length_append, List.length_cons, List.length_take, List.length_drop]
  split <;> omega
end Go.Proofs.YtdmckjojeddaaaaPlain
