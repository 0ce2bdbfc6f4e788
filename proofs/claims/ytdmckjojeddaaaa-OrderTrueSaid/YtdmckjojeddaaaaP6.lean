/- What the nodes of a map show: heights, digests, sizes (no memory). -/
import Derived.Test.YtdmckjojeddaaaaP5
namespace Go.Proofs.Ytdmckjojeddaaaa
open Go.Proofs.YtdmckjojeddaaaaPlain

def ChildOk (L : List NodeV) (seed : Int) (n : Nat) (k : List UInt8) (c : Int) (s : Nat) (d : Int) (P : List UInt8 → Prop) : Prop :=
  (c = -1 ∧ s = 0 ∧ d = 0) ∨ ∃ m y, c = ((m : Nat) : Int) ∧ n < m ∧ L[m]? = some y ∧ y.size = s ∧ y.digest = d ∧ P y.key ∧ Above seed k y.key
def NodeOk (L : List NodeV) (seed : Int) (n : Nat) (x : NodeV) : Prop :=
  ∃ ls rs ld rd, x.size = 1 + ls + rs ∧ x.digest = mark seed ld x.key x.value rd ∧ ChildOk L seed n x.key x.left ls ld (fun k => Lt k x.key) ∧ ChildOk L seed n x.key x.right rs rd (fun k => Lt x.key k)
def SubAt (L : List NodeV) (seed : Int) (i : Nat) (t : PT) : Prop := ∀ j, j < t.size → L[i + j]? = (t.nodes seed i)[j]?
theorem SubAt.left {L : List NodeV} {seed : Int} {i : Nat} {k v : List UInt8} {l r : PT} (h : SubAt L seed i (.node k v l r)) : SubAt L seed (i + 1) l := fun j hj => by
  have := h (j + 1) (by simp only [PT.size]; omega)
  rw [show i + 1 + j = i + (j + 1) by omega, this, PT.nodes, List.getElem?_cons_succ, List.getElem?_append_left (by rw [nodes_length]; exact hj)]
theorem SubAt.right {L : List NodeV} {seed : Int} {i : Nat} {k v : List UInt8} {l r : PT} (h : SubAt L seed i (.node k v l r)) : SubAt L seed (i + 1 + l.size) r := fun j hj => by
  have := h (l.size + j + 1) (by simp only [PT.size]; omega)
  rw [show i + 1 + l.size + j = i + (l.size + j + 1) by omega, this, PT.nodes, List.getElem?_cons_succ, List.getElem?_append_right (by rw [nodes_length]; omega), nodes_length, Nat.add_sub_cancel_left]
theorem SubAt.head {L : List NodeV} {seed : Int} {i : Nat} {k v : List UInt8} {l r : PT} (h : SubAt L seed i (.node k v l r)) :
    L[i]? = some ⟨k, v, mark seed (l.sum seed) k v (r.sum seed), 1 + l.size + r.size, l.at_ (i + 1), r.at_ (i + 1 + l.size)⟩ := by
  have := h 0 (by simp only [PT.size]; omega)
  rw [Nat.add_zero] at this
  rw [this, PT.nodes]; rfl
theorem shape_at (t : AT) (n : Nat) : (t = .nil ∧ t.shape.at_ n = -1) ∨ (∃ b k v l r, t = .node b k v l r ∧ t.shape.at_ n = (n : Int)) := by
  cases t with
  | nil => exact .inl ⟨rfl, rfl⟩
  | node b k v l r => exact .inr ⟨b, k, v, l, r, rfl, rfl⟩
theorem child_ok {L : List NodeV} {seed : Int} {n m : Nat} {k : List UInt8} {t : AT} {P : List UInt8 → Prop} (hs : SubAt L seed m t.shape) (hm : n < m) (hP : ∀ p ∈ t.toList, P p.1) (hA : ∀ p ∈ t.toList, Above seed k p.1) :
    ChildOk L seed n k (t.shape.at_ m) t.size (t.sum seed) P := by
  cases t with
  | nil => exact .inl ⟨rfl, rfl, rfl⟩
  | node b k' v' l r =>
    refine .inr ⟨m, _, rfl, hm, hs.head, ?_, ?_, ?_, ?_⟩
    · show 1 + l.shape.size + r.shape.size = 1 + l.size + r.size
      rw [shape_size, shape_size]
    · show mark seed (l.shape.sum seed) k' v' (r.shape.sum seed) = mark seed (l.sum seed) k' v' (r.sum seed)
      rw [shape_sum, shape_sum]
    · exact hP (k', v') (by simp [AT.toList])
    · exact hA (k', v') (by simp [AT.toList])
theorem nodes_ok {L : List NodeV} {seed : Int} {t : AT} {i : Nat} (h : WF seed t) (hs : SubAt L seed i t.shape) : ∀ j, j < t.size → ∃ x, L[i + j]? = some x ∧ NodeOk L seed (i + j) x := by
  induction t generalizing i with
  | nil => intro j hj; simp [AT.size] at hj
  | node b k v l r ihl ihr =>
    intro j hj
    obtain ⟨h1, h2, h3, h4, _⟩ := sorted_node h.sorted
    obtain ⟨q1, q2, q3, q4⟩ := h.heap
    have hL := hs.left
    have hR := hs.right
    rw [shape_size] at hR
    rcases Nat.eq_zero_or_pos j with rfl | hj0
    · refine ⟨_, hs.head, l.size, r.size, l.sum seed, r.sum seed, ?_, ?_, ?_, ?_⟩
      · show 1 + l.shape.size + r.shape.size = _
        rw [shape_size, shape_size]
      · show mark seed (l.shape.sum seed) k v (r.shape.sum seed) = _
        rw [shape_sum, shape_sum]
      · exact child_ok hL (by omega) h3 q1
      · show ChildOk L seed (i + 0) k (r.shape.at_ (i + 1 + l.shape.size)) r.size (r.sum seed) _
        rw [shape_size]
        exact child_ok hR (by omega) h4 q2
    · rcases Nat.lt_or_ge (j - 1) l.size with hl | hl
      · have := ihl ⟨h1, q3⟩ hL (j - 1) hl
        rwa [show i + 1 + (j - 1) = i + j by omega] at this
      · have := ihr ⟨h2, q4⟩ hR (j - 1 - l.size) (by simp only [AT.size] at hj; omega)
        rwa [show i + 1 + l.size + (j - 1 - l.size) = i + j by omega] at this
theorem nodesL_ok {seed : Int} {t : AT} (h : WF seed t) {j : Nat} {x : NodeV} (hx : (nodesL seed t.toList)[j]? = some x) : NodeOk (nodesL seed t.toList) seed j x := by
  have hj := (List.getElem?_eq_some_iff.1 hx).1
  rw [nodesL_length, toList_length] at hj
  have hs : SubAt (nodesL seed t.toList) seed 0 t.shape := fun k _ => by rw [Nat.zero_add, nodesL, ← shape_build h]
  obtain ⟨y, hy, hok⟩ := nodes_ok h hs j hj
  rw [Nat.zero_add] at hy hok
  rw [hx] at hy
  injection hy with hy
  subst hy
  exact hok
end Go.Proofs.Ytdmckjojeddaaaa
