/- The nodes of a map in a list, each ahead of those below it (no memory). -/
import Derived.Test.YtdmckjojeddaaaaP4
namespace Go.Proofs.Ytdmckjojeddaaaa
open Go.Proofs.YtdmckjojeddaaaaPlain

structure NodeV where
  key : List UInt8
  value : List UInt8
  digest : Int
  size : Nat
  left : Int
  right : Int
def PT.at_ : PT → Nat → Int
  | .nil, _ => -1
  | .node _ _ _ _, i => (i : Int)
def PT.nodes (seed : Int) : Nat → PT → List NodeV
  | _, .nil => []
  | i, .node k v l r => ⟨k, v, mark seed (l.sum seed) k v (r.sum seed), 1 + l.size + r.size, l.at_ (i + 1), r.at_ (i + 1 + l.size)⟩ :: (PT.nodes seed (i + 1) l ++ PT.nodes seed (i + 1 + l.size) r)
theorem nodes_length (seed : Int) (i : Nat) (t : PT) : (t.nodes seed i).length = t.size := by
  induction t generalizing i with
  | nil => rfl
  | node k v l r ihl ihr => simp only [PT.nodes, PT.size, List.length_cons, List.length_append, ihl, ihr]; omega
theorem build_size (seed : Int) (l : PairL) : (build seed l).size = l.length := by
  generalize hn : l.length = n
  induction n using Nat.strongRecOn generalizing l with
  | ind n ih =>
    cases hp : l[top seed l]? with
    | none =>
      have : l = [] := by
        cases l with
        | nil => rfl
        | cons p l => exact absurd (top_lt (seed := seed) (l := p :: l) (by simp)) (by rw [List.getElem?_eq_none_iff] at hp; omega)
      subst this
      subst hn
      rfl
    | some p =>
      have hlt := (List.getElem?_eq_some_iff.1 hp).1
      rw [build_cons hp, PT.size, ih _ (by rw [List.length_take]; omega) _ rfl, ih _ (by rw [List.length_drop]; omega) _ rfl, List.length_take, List.length_drop]
      omega
theorem top_some {seed : Int} {l : PairL} (h : l ≠ []) : ∃ p, l[top seed l]? = some p := ⟨_, List.getElem?_eq_getElem (top_lt h)⟩
theorem build_nil_iff {seed : Int} {l : PairL} : build seed l = .nil ↔ l = [] := by
  constructor
  · intro h
    have := build_size seed l
    rw [h] at this
    exact List.eq_nil_of_length_eq_zero this.symm
  · rintro rfl; rfl
/-- The nodes of the map of some pairs. -/
def nodesL (seed : Int) (l : PairL) : List NodeV := (build seed l).nodes seed 0
theorem nodesL_length (seed : Int) (l : PairL) : (nodesL seed l).length = l.length := by rw [nodesL, nodes_length, build_size]
theorem digest_head {seed : Int} {l : PairL} : digest seed l = match nodesL seed l with | [] => 0 | x :: _ => x.digest := by
  unfold digest nodesL
  cases build seed l <;> rfl
theorem size_head {seed : Int} {l : PairL} {x : NodeV} (h : (nodesL seed l)[0]? = some x) : x.size = l.length ∧ digest seed l = x.digest := by
  have := build_size seed l
  unfold digest
  unfold nodesL at h
  cases hb : build seed l with
  | nil => rw [hb] at h; cases h
  | node k v a b =>
    rw [hb] at h this
    simp [PT.nodes] at h
    subst h
    exact ⟨this, rfl⟩
end Go.Proofs.Ytdmckjojeddaaaa
