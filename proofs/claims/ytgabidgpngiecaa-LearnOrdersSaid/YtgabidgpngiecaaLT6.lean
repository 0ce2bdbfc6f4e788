/- What learn's Tree computes. Conditions: none. -/
import Derived.Test.YtgabidgpngiecaaLT5
namespace Go.Proofs.Ytgabidgpngiecaa
open Go.RowKit Go.Proofs.YtgabidgpngiecaaKit Go.Proofs.YtgabidgpngiecaaPlain

structure Br where
  col : Int
  cut : Int
  low : Int
  high : Int
  label : Int
  rows : Int
def Br.cells (b : Br) : List Value := [.int .i64 b.col, .int .i64 b.cut, .int .i64 b.low, .int .i64 b.high, .int .i64 b.label, .int .i64 b.rows]
/-- Whether rows are not parted further. -/
def leafL (left : Nat) (least : Int) (L : List (Row × Nat)) : Prop := left = 0 ∨ totC (cnt8 (expand L)) 8 < least ∨ PureC (cnt8 (expand L)) ∨ (bestTo L 3).ok = false
instance (left : Nat) (least : Int) (L : List (Row × Nat)) : Decidable (leafL left least L) := inferInstanceAs (Decidable (_ ∨ _ ∨ _ ∨ _))
def leafB (L : List (Row × Nat)) : Br := ⟨0, 0, -1, -1, mostC (cnt8 (expand L)) 8, totC (cnt8 (expand L)) 8⟩
/-- The branches of a tree whose root lies at the place at_. -/
def treeL (least : Int) : (left : Nat) → List (Row × Nat) → (at_ : Nat) → List Br
  | 0, L, _ => [leafB L]
  | left + 1, L, at_ =>
    if leafL (left + 1) least L then [leafB L]
    else
      let s := bestTo L 3
      let A := treeL least left (lowL s.col s.cut L) (at_ + 1)
      let B := treeL least left (highL s.col s.cut L) (at_ + 1 + A.length)
      ⟨s.col, s.cut, (at_ + 1 : Nat), (at_ + 1 + A.length : Nat), -1, totC (cnt8 (expand L)) 8⟩ :: (A ++ B)
theorem treeL_pos (least : Int) (left : Nat) (L : List (Row × Nat)) (at_ : Nat) : 0 < (treeL least left L at_).length := by
  cases left with
  | zero => simp [treeL]
  | succ left =>
    rw [treeL]
    split <;> simp
theorem treeL_len (least : Int) : ∀ (left : Nat) (L : List (Row × Nat)) (at_ : Nat), (treeL least left L at_).length + 1 ≤ 2 ^ (left + 1)
  | 0, _, _ => by simp [treeL]
  | left + 1, L, at_ => by
    have hp : 2 ≤ 2 ^ (left + 1 + 1) := by
      have := Nat.one_le_two_pow (n := left + 1)
      rw [Nat.pow_succ]; omega
    rw [treeL]
    split
    · simpa using hp
    · have h1 := treeL_len least left (lowL (bestTo L 3).col (bestTo L 3).cut L) (at_ + 1)
      have h2 := treeL_len least left (highL (bestTo L 3).col (bestTo L 3).cut L) (at_ + 1 + (treeL least left (lowL (bestTo L 3).col (bestTo L 3).cut L) (at_ + 1)).length)
      simp only [List.length_cons, List.length_append]
      rw [Nat.pow_succ]
      omega
theorem pure_nil : PureC (cnt8 (expand [])) := by
  intro i _
  simp [cnt8, expand, cntL, totC]
end Go.Proofs.Ytgabidgpngiecaa
