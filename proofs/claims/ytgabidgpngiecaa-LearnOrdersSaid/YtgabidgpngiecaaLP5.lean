/- Plain facts: votes. Conditions: none. -/
import Derived.Test.YtgabidgpngiecaaLP1
namespace Go.Proofs.YtgabidgpngiecaaPlain

/-- Labels in the order in which they come first. -/
def firsts : List Row → List Int
  | [] => []
  | r :: T => r.l :: (firsts T).filter (fun l => decide (l ≠ r.l))
theorem firsts_le : ∀ T : List Row, (firsts T).length ≤ T.length
  | [] => Nat.le_refl _
  | r :: T => by
    rw [firsts, List.length_cons, List.length_cons]
    have h1 := List.length_filter_le (fun l => decide (l ≠ r.l)) (firsts T)
    have h2 := firsts_le T
    omega
def cntL (T : List Row) (lab : Int) : Nat := T.countP (fun r => decide (r.l = lab))
def bestStep (T : List Row) (best lab : Int) : Int := if cntL T best < cntL T lab then lab else best
/-- The label for which most rows vote. -/
def bestOf (T : List Row) : Int :=
  match firsts T with
  | [] => 0
  | b :: fs => (b :: fs).foldl (bestStep T) b
theorem mem_firsts {l : Int} : ∀ {T : List Row}, l ∈ firsts T ↔ ∃ r ∈ T, r.l = l
  | [] => by simp [firsts]
  | r :: T => by
    rw [firsts, List.mem_cons, List.mem_filter, mem_firsts (T := T)]
    constructor
    · rintro (rfl | ⟨⟨s, hs, rfl⟩, _⟩)
      · exact ⟨r, List.mem_cons_self, rfl⟩
      · exact ⟨s, List.mem_cons_of_mem _ hs, rfl⟩
    · rintro ⟨s, hs, rfl⟩
      by_cases h : s.l = r.l
      · exact .inl h
      · rcases List.mem_cons.1 hs with rfl | hs
        · exact absurd rfl h
        · exact .inr ⟨⟨s, hs, rfl⟩, by simpa using h⟩
theorem firsts_push (r : Row) : ∀ T : List Row, firsts (T ++ [r]) = if r.l ∈ firsts T then firsts T else firsts T ++ [r.l]
  | [] => by simp [firsts]
  | s :: T => by
    rw [List.cons_append, firsts, firsts_push r T, firsts]
    by_cases h1 : r.l ∈ firsts T
    · rw [if_pos h1]
      by_cases h2 : r.l = s.l
      · rw [if_pos (by rw [h2]; exact List.mem_cons_self)]
      · rw [if_pos (List.mem_cons_of_mem _ (List.mem_filter.2 ⟨h1, by simpa using h2⟩))]
    · rw [if_neg h1, List.filter_append]
      by_cases h2 : r.l = s.l
      · rw [if_pos (by rw [h2]; exact List.mem_cons_self)]
        simp [h2]
      · rw [if_neg (by simp [h2, List.mem_filter, h1])]
        simp [h2]
theorem firsts_rep (r : Row) (T : List Row) : ∀ n : Nat, 0 < n → firsts (T ++ List.replicate n r) = if r.l ∈ firsts T then firsts T else firsts T ++ [r.l]
  | 1, _ => firsts_push r T
  | n + 2, _ => by
    rw [List.replicate_succ', ← List.append_assoc, firsts_push, firsts_rep r T (n + 1) (by omega)]
    split
    · rfl
    · rw [if_pos (by simp)]
theorem cntL_rep (r : Row) (T : List Row) (n : Nat) (lab : Int) : cntL (T ++ List.replicate n r) lab = cntL T lab + if r.l = lab then n else 0 := by
  unfold cntL
  rw [List.countP_append, List.countP_replicate]
  simp
theorem cntL_le (T : List Row) (lab : Int) : cntL T lab ≤ T.length := List.countP_le_length
/-- The first k rows, entry for entry. -/
theorem take_step {L : List (Row × Nat)} {k i : Nat} {p : Row × Nat} (hi : L[i]? = some p) (hk : (expand (L.take i)).length ≤ k) :
    (expand (L.take (i + 1))).take k = expand (L.take i) ++ List.replicate (min (k - (expand (L.take i)).length) p.2) p.1 := by
  have e : L.take (i + 1) = L.take i ++ [p] := by rw [List.take_add_one, hi]; rfl
  rw [e]
  have e2 : expand (L.take i ++ [p]) = expand (L.take i) ++ List.replicate p.2 p.1 := by simp [expand]
  rw [e2, List.take_append, List.take_of_length_le hk, List.take_replicate]
theorem take_done {L : List (Row × Nat)} {k i : Nat} (hk : k ≤ (expand (L.take i)).length) : (expand L).take k = (expand (L.take i)).take k := by
  have e : expand L = expand (L.take i) ++ expand (L.drop i) := by
    unfold expand
    rw [← List.flatMap_append, List.take_append_drop]
  rw [e, List.take_append_of_le_length hk]
end Go.Proofs.YtgabidgpngiecaaPlain
