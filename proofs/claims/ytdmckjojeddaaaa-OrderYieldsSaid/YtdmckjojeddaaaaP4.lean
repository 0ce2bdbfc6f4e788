/- The one shape: a map's tree is the one that its pairs determine (no memory). -/
import Derived.Test.YtdmckjojeddaaaaP3
namespace Go.Proofs.Ytdmckjojeddaaaa
open Go.Proofs.YtdmckjojeddaaaaPlain

inductive PT where
  | nil
  | node (k v : List UInt8) (l r : PT)
def AT.shape : AT → PT
  | .nil => .nil
  | .node _ k v l r => .node k v l.shape r.shape
def PT.sum (seed : Int) : PT → Int
  | .nil => 0
  | .node k v l r => mark seed (l.sum seed) k v (r.sum seed)
def PT.size : PT → Nat
  | .nil => 0
  | .node _ _ l r => 1 + l.size + r.size
theorem shape_sum (seed : Int) (t : AT) : t.shape.sum seed = t.sum seed := by
  induction t with
  | nil => rfl
  | node b k v l r ihl ihr => simp only [AT.shape, PT.sum, AT.sum, ihl, ihr]
theorem shape_size (t : AT) : t.shape.size = t.size := by
  induction t with
  | nil => rfl
  | node b k v l r ihl ihr => simp only [AT.shape, PT.size, AT.size, ihl, ihr]

def topGo (seed : Int) : PairL → Nat → Nat → Int → Nat
  | [], _, b, _ => b
  | p :: l, i, b, h => if h < height seed p.1 then topGo seed l (i + 1) i (height seed p.1) else topGo seed l (i + 1) b h
/-- The place of the pair at the root; 0 of none. -/
def top (seed : Int) : PairL → Nat
  | [] => 0
  | p :: l => topGo seed l 1 0 (height seed p.1)

def IsTop (seed : Int) (l : PairL) (b : Nat) : Prop := ∃ p, l[b]? = some p ∧ ∀ j q, l[j]? = some q → (j < b → height seed q.1 < height seed p.1) ∧ (b < j → height seed q.1 ≤ height seed p.1)
theorem topGo_is {seed : Int} {pre l : PairL} {b : Nat} {h : Int} (hb : IsTop seed pre b) (hh : ∀ p, pre[b]? = some p → h = height seed p.1) : IsTop seed (pre ++ l) (topGo seed l pre.length b h) := by
  induction l generalizing pre b h with
  | nil => simpa [topGo] using hb
  | cons q l ih =>
    obtain ⟨p, hp, hq⟩ := hb
    have hbl : b < pre.length := (List.getElem?_eq_some_iff.1 hp).1
    have e : pre ++ q :: l = (pre ++ [q]) ++ l := by simp
    rw [topGo]
    split
    · rename_i hlt
      have h0 := hh p hp
      have := ih (pre := pre ++ [q]) (b := pre.length) (h := height seed q.1) ⟨q, by simp, fun j r hj => ⟨fun hj2 => ?_, fun hj2 => ?_⟩⟩ (fun p hp => by simp at hp; rw [hp])
      · rw [List.length_append, List.length_singleton] at this
        rw [e]; exact this
      · rw [List.getElem?_append_left hj2] at hj
        have := hq j r hj
        rcases Nat.lt_trichotomy j b with h1 | h1 | h1
        · have := this.1 h1; omega
        · subst h1; rw [hp] at hj; injection hj with hj; subst hj; omega
        · have := this.2 h1; omega
      · have := (List.getElem?_eq_some_iff.1 hj).1
        rw [List.length_append, List.length_singleton] at this
        omega
    · rename_i hlt
      have h0 := hh p hp
      have := ih (pre := pre ++ [q]) (b := b) (h := h) ⟨p, by rw [List.getElem?_append_left hbl]; exact hp, fun j r hj => ?_⟩ (fun p' hp' => by rw [List.getElem?_append_left hbl, hp] at hp'; exact h0.trans (congrArg (fun x : List UInt8 × List UInt8 => height seed x.1) (Option.some.inj hp')))
      · rw [List.length_append, List.length_singleton] at this
        rw [e]; exact this
      · rcases Nat.lt_or_ge j pre.length with h1 | h1
        · rw [List.getElem?_append_left h1] at hj
          exact hq j r hj
        · have h2 := (List.getElem?_eq_some_iff.1 hj).1
          rw [List.length_append, List.length_singleton] at h2
          have hjl : j = pre.length := by omega
          subst hjl
          simp at hj
          subst hj
          exact ⟨fun h3 => by omega, fun _ => by omega⟩
theorem top_is {seed : Int} {l : PairL} (h : l ≠ []) : IsTop seed l (top seed l) := by
  cases l with
  | nil => exact absurd rfl h
  | cons p l =>
    have := topGo_is (seed := seed) (pre := [p]) (l := l) (b := 0) (h := height seed p.1) ⟨p, rfl, fun j q hj => by
      have := (List.getElem?_eq_some_iff.1 hj).1
      simp at this
      subst this
      exact ⟨fun h => absurd h (Nat.lt_irrefl _), fun h => absurd h (Nat.lt_irrefl _)⟩⟩ (fun p' hp' => congrArg (fun x : List UInt8 × List UInt8 => height seed x.1) (Option.some.inj hp'))
    exact this
theorem top_lt {seed : Int} {l : PairL} (h : l ≠ []) : top seed l < l.length := by
  obtain ⟨p, hp, _⟩ := top_is (seed := seed) h
  exact (List.getElem?_eq_some_iff.1 hp).1
/-- In a list in order one place alone stands above all others. -/
theorem top_unique {seed : Int} {a b : PairL} {p : List UInt8 × List UInt8} (hs : Sorted (a ++ p :: b)) (ha : ∀ q ∈ a, Above seed p.1 q.1) (hb : ∀ q ∈ b, Above seed p.1 q.1) : top seed (a ++ p :: b) = a.length := by
  have hne : a ++ p :: b ≠ [] := by simp
  obtain ⟨r, hr, hq⟩ := top_is (seed := seed) hne
  have hp : (a ++ p :: b)[a.length]? = some p := by simp
  have hall := hq a.length p hp
  rw [sorted_append, sorted_cons] at hs
  obtain ⟨_, ⟨hs2, _⟩, hs3⟩ := hs
  rcases Nat.lt_trichotomy (top seed (a ++ p :: b)) a.length with h | h | h
  · exfalso
    have h2 := hall.2 h
    rw [List.getElem?_append_left h] at hr
    have hm := List.mem_of_getElem? hr
    have h3 := above_iff.1 (ha r hm)
    have h4 := hs3 r hm p List.mem_cons_self
    rcases h3 with h3 | ⟨_, h3⟩
    · omega
    · exact lt_asymm h4 h3
  · exact h
  · exfalso
    have h2 := hall.1 h
    rw [List.getElem?_append_right (by omega)] at hr
    have hm : r ∈ b := by
      obtain ⟨n, hn⟩ : ∃ n, top seed (a ++ p :: b) - a.length = n + 1 := ⟨top seed (a ++ p :: b) - a.length - 1, by omega⟩
      rw [hn, List.getElem?_cons_succ] at hr
      exact List.mem_of_getElem? hr
    have h3 := above_iff.1 (hb r hm)
    rcases h3 with h3 | ⟨h3, _⟩ <;> omega

def buildN (seed : Int) : Nat → PairL → PT
  | 0, _ => .nil
  | n + 1, l => match l[top seed l]? with
    | none => .nil
    | some p => .node p.1 p.2 (buildN seed n (l.take (top seed l))) (buildN seed n (l.drop (top seed l + 1)))
/-- The tree of a map of pairs. -/
def build (seed : Int) (l : PairL) : PT := buildN seed l.length l
theorem buildN_more {seed : Int} : ∀ {n m : Nat} {l : PairL}, l.length ≤ n → l.length ≤ m → buildN seed n l = buildN seed m l := by
  intro n
  induction n with
  | zero =>
    intro m l h1 h2
    have : l = [] := List.eq_nil_of_length_eq_zero (by omega)
    subst this
    cases m <;> simp [buildN]
  | succ n ih =>
    intro m l h1 h2
    cases m with
    | zero =>
      have : l = [] := List.eq_nil_of_length_eq_zero (by omega)
      subst this
      simp [buildN]
    | succ m =>
      simp only [buildN]
      cases hp : l[top seed l]? with
      | none => rfl
      | some p =>
        have hlt := (List.getElem?_eq_some_iff.1 hp).1
        simp only
        rw [ih (m := m) (by rw [List.length_take]; omega) (by rw [List.length_take]; omega), ih (m := m) (by rw [List.length_drop]; omega) (by rw [List.length_drop]; omega)]
theorem build_nil (seed : Int) : build seed [] = .nil := rfl
theorem build_cons {seed : Int} {l : PairL} {p : List UInt8 × List UInt8} (h : l[top seed l]? = some p) : build seed l = .node p.1 p.2 (build seed (l.take (top seed l))) (build seed (l.drop (top seed l + 1))) := by
  have hlt := (List.getElem?_eq_some_iff.1 h).1
  obtain ⟨n, hn⟩ : ∃ n, l.length = n + 1 := ⟨l.length - 1, by omega⟩
  unfold build
  rw [hn, buildN, h]
  simp only
  rw [buildN_more (n := n) (m := (l.take (top seed l)).length) (by rw [List.length_take]; omega) (Nat.le_refl _), buildN_more (n := n) (m := (l.drop (top seed l + 1)).length) (by rw [List.length_drop]; omega) (Nat.le_refl _)]
theorem shape_build {seed : Int} {t : AT} (h : WF seed t) : t.shape = build seed t.toList := by
  induction t with
  | nil => rfl
  | node b k v l r ihl ihr =>
    obtain ⟨h1, h2, _, _, _⟩ := sorted_node h.sorted
    obtain ⟨q1, q2, q3, q4⟩ := h.heap
    have ht : top seed (AT.node b k v l r).toList = l.toList.length := top_unique h.sorted q1 q2
    have hp : (AT.node b k v l r).toList[top seed (AT.node b k v l r).toList]? = some (k, v) := by rw [ht]; simp [AT.toList]
    rw [build_cons hp, ht]
    simp only [AT.shape, AT.toList]
    rw [ihl ⟨h1, q3⟩, ihr ⟨h2, q4⟩, List.take_left, List.drop_length_add_append]
    rfl
def digest (seed : Int) (l : PairL) : Int := (build seed l).sum seed
theorem digest_eq {seed : Int} {t : AT} (h : WF seed t) : t.sum seed = digest seed t.toList := by rw [digest, ← shape_build h, shape_sum]
theorem shape_toList_size (seed : Int) {t : AT} : t.size = t.toList.length := by
  have _s := seed
  exact (toList_length t).symm

end Go.Proofs.Ytdmckjojeddaaaa

namespace Go.Proofs.Ytdmckjojeddaaaa
open Go.Proofs.YtdmckjojeddaaaaPlain

structure NodeV where
  key : List UInt8
  value : List UInt8
  digest : Int
  size : Nat
  left : Int
  right : Int
def PT.at_ : PT → Nat → Int
  | .nil, _ => -1
  | .node _ _ _ _, i => (i : Int)
def PT.nodes (seed : Int) : Nat → PT → List NodeV
  | _, .nil => []
  | i, .node k v l r => ⟨k, v, mark seed (l.sum seed) k v (r.sum seed), 1 + l.size + r.size, l.at_ (i + 1), r.at_ (i + 1 + l.size)⟩ :: (PT.nodes seed (i + 1) l ++ PT.nodes seed (i + 1 + l.size) r)
theorem nodes_length (seed : Int) (i : Nat) (t : PT) : (t.nodes seed i).length = t.size := by
  induction t generalizing i with
  | nil => rfl
  | node k v l r ihl ihr => simp only [PT.nodes, PT.size, List.length_cons, List.length_append, ihl, ihr]; omega
theorem build_size (seed : Int) (l : PairL) : (build seed l).size = l.length := by
  generalize hn : l.length = n
  induction n using Nat.strongRecOn generalizing l with
  | ind n ih =>
    cases hp : l[top seed l]? with
    | none =>
      have : l = [] := by
        cases l with
        | nil => rfl
        | cons p l => exact absurd (top_lt (seed := seed) (l := p :: l) (by simp)) (by rw [List.getElem?_eq_none_iff] at hp; omega)
      subst this
      subst hn
      rfl
    | some p =>
      have hlt := (List.getElem?_eq_some_iff.1 hp).1
      rw [build_cons hp, PT.size, ih _ (by rw [List.length_take]; omega) _ rfl, ih _ (by rw [List.length_drop]; omega) _ rfl, List.length_take, List.length_drop]
      omega
theorem top_some {seed : Int} {l : PairL} (h : l ≠ []) : ∃ p, l[top seed l]? = some p := ⟨_, List.getElem?_eq_getElem (top_lt h)⟩
theorem build_nil_iff {seed : Int} {l : PairL} : build seed l = .nil ↔ l = [] := by
  constructor
  · intro h
    have := build_size seed l
    rw [h] at this
    exact List.eq_nil_of_length_eq_zero this.symm
  · rintro rfl; rfl
/-- The nodes of the map of some pairs. -/
def nodesL (seed : Int) (l : PairL) : List NodeV := (build seed l).nodes seed 0
theorem nodesL_length (seed : Int) (l : PairL) : (nodesL seed l).length = l.length := by rw [nodesL, nodes_length, build_size]
theorem digest_head {seed : Int} {l : PairL} : digest seed l = match nodesL seed l with | [] => 0 | x :: _ => x.digest := by
  unfold digest nodesL
  cases build seed l <;> rfl
theorem size_head {seed : Int} {l : PairL} {x : NodeV} (h : (nodesL seed l)[0]? = some x) : x.size = l.length ∧ digest seed l = x.digest := by
  have := build_size seed l
  unfold digest
  unfold nodesL at h
  cases hb : build seed l with
  | nil => rw [hb] at h; cases h
  | node k v a b =>
    rw [hb] at h this
    simp [PT.nodes] at h
    subst h
    exact ⟨this, rfl⟩
end Go.Proofs.Ytdmckjojeddaaaa
