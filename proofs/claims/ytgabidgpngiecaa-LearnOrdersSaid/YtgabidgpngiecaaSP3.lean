/- Plain facts: blocks of a list, each sorted. Conditions: less is a strict weak order. -/
import Derived.Test.YtgabidgpngiecaaSP2
namespace Go.Proofs.YtgabidgpngiecaaPlain
open Go.Sort
section
variable {α : Type} {lt : α → α → Bool}
/-- Each block of k elements sorted. -/
def chk (lt : α → α → Bool) (k : Nat) : Nat → List α → List α
  | 0, l => stab lt l
  | f + 1, l => if l.length ≤ k then stab lt l else stab lt (l.take k) ++ chk lt k f (l.drop k)
theorem chk_end {k f : Nat} {l : List α} (h : l.length ≤ k) : chk lt k f l = stab lt l := by
  cases f with
  | zero => rfl
  | succ f => rw [chk, if_pos h]
theorem stab_nil : stab lt ([] : List α) = [] := rfl
theorem chk_step {k : Nat} (_hk : 0 < k) : ∀ {f : Nat} {l : List α}, l.length ≤ f → k ≤ l.length → chk lt k f l = stab lt (l.take k) ++ chk lt k f (l.drop k)
  | 0, l, h, h2 => by omega
  | f + 1, l, h, h2 => by
    rcases Nat.lt_or_eq_of_le h2 with h3 | h3
    · rw [chk, if_neg (by omega)]
      congr 1
      by_cases h4 : (l.drop k).length ≤ k
      · rw [chk_end h4, chk_end h4]
      · rw [chk, if_neg h4, chk_step _hk (by simp; omega) (by omega)]
    · rw [chk_end (by omega), List.take_of_length_le (by omega), List.drop_of_length_le (by omega), chk_end (by simp), stab_nil, List.append_nil]
theorem chk_length {k : Nat} : ∀ {f : Nat} {l : List α}, (chk lt k f l).length = l.length
  | 0, l => stab_length l
  | f + 1, l => by
    rw [chk]
    split
    · exact stab_length l
    · rw [List.length_append, stab_length, chk_length, List.length_take, List.length_drop]; omega
theorem mrg_map {β : Type} {lt' : β → β → Bool} (f : α → β) (h : ∀ x y, lt' (f x) (f y) = lt x y) : ∀ X Y : List α, (mrg lt X Y).map f = mrg lt' (X.map f) (Y.map f)
  | [], Y => by rw [mrg_nil, List.map_nil, mrg_nil]
  | x :: X, [] => by rw [mrg_nil', List.map_nil, mrg_nil']
  | x :: X, y :: Y => by
    cases hl : lt y x with
    | true => rw [mrg_lt hl, List.map_cons, mrg_map f h (x :: X) Y, List.map_cons, List.map_cons, mrg_lt ((h y x).trans hl)]
    | false => rw [mrg_ge hl, List.map_cons, mrg_map f h X (y :: Y), List.map_cons, List.map_cons, mrg_ge ((h y x).trans hl)]
termination_by X Y => X.length + Y.length
theorem stab_map {β : Type} {lt' : β → β → Bool} (f : α → β) (h : ∀ x y, lt' (f x) (f y) = lt x y) : ∀ l : List α, (stab lt l).map f = stab lt' (l.map f)
  | [] => rfl
  | x :: l => by
    show (mrg lt [x] (stab lt l)).map f = mrg lt' [f x] (stab lt' (l.map f))
    rw [mrg_map f h, stab_map f h l]
    rfl
end
end Go.Proofs.YtgabidgpngiecaaPlain
