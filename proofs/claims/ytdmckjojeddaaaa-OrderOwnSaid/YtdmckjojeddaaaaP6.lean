/- What the nodes of a map show: heights, digests, sizes (no memory). -/
import Derived.Test.YtdmckjojeddaaaaP3
import Derived.Test.YtdmckjojeddaaaaT9
namespace Go.Proofs.Ytdmckjojeddaaaa
open Go.Proofs.YtdmckjojeddaaaaPlain

def ChildOk (L : List NodeV) (seed : Int) (n : Nat) (k : List UInt8) (c : Int) (s : Nat) (d : Int) (P : List UInt8 → Prop) : Prop :=
  (c = -1 ∧ s = 0 ∧ d = 0) ∨ ∃ m y, c = ((m : Nat) : Int) ∧ n < m ∧ L[m]? = some y ∧ y.size = s ∧ y.digest = d ∧ P y.key ∧ Above seed k y.key
def NodeOk (L : List NodeV) (seed : Int) (n : Nat) (x : NodeV) : Prop :=
  ∃ ls rs ld rd, x.size = 1 + ls + rs ∧ x.digest = mark seed ld x.key x.value rd ∧ ChildOk L seed n x.key x.left ls ld (fun k => Lt k x.key) ∧ ChildOk L seed n x.key x.right rs rd (fun k => Lt x.key k)
def SubAt (L : List NodeV) (seed : Int) (i : Nat) (t : PT) : Prop := ∀ j, j < t.size → L[i + j]? = (t.nodes seed i)[j]?
theorem SubAt.left {L : List NodeV} {seed : Int} {i : Nat} {k v : List UInt8} {l r : PT} (h : SubAt L seed i (.node k v l r)) : SubAt L seed (i + 1) l := fun j hj => by
  have := h (j + 1) (by simp only [PT.size]; omega)
  rw [show i + 1 + j = i + (j + 1) by omega, this, PT.nodes, List.getElem?_cons_succ, List.getElem?_append_left (by rw [nodes_length]; exact hj)]
theorem SubAt.right {L : List NodeV} {seed : Int} {i : Nat} {k v : List UInt8} {l r : PT} (h : SubAt L seed i (.node k v l r)) : SubAt L seed (i + 1 + l.size) r := fun j hj => by
  have := h (l.size + j + 1) (by simp only [PT.size]; omega)
  rw [show i + 1 + l.size + j = i + (l.size + j + 1) by omega, this, PT.nodes, List.getElem?_cons_succ, List.getElem?_append_right (by rw [nodes_length]; omega), nodes_length, Nat.add_sub_cancel_left]
theorem SubAt.head {L : List NodeV} {seed : Int} {i : Nat} {k v : List UInt8} {l r : PT} (h : SubAt L seed i (.node k v l r)) :
    L[i]? = some ⟨k, v, mark seed (l.sum seed) k v (r.sum seed), 1 + l.size + r.size, l.at_ (i + 1), r.at_ (i + 1 + l.size)⟩ := by
  have := h 0 (by simp only [PT.size]; omega)
  rw [Nat.add_zero] at this
  rw [this, PT.nodes]; rfl
theorem shape_at (t : AT) (n : Nat) : (t = .nil ∧ t.shape.at_ n = -1) ∨ (∃ b k v l r, t = .node b k v l r ∧ t.shape.at_ n = (n : Int)) := by
  cases t with
  | nil => exact .inl ⟨rfl, rfl⟩
  | node b k v l r => exact .inr ⟨b, k, v, l, r, rfl, rfl⟩
theorem child_ok {L : List NodeV} {seed : Int} {n m : Nat} {k : List UInt8} {t : AT} {P : List UInt8 → Prop} (hs : SubAt L seed m t.shape) (hm : n < m) (hP : ∀ p ∈ t.toList, P p.1) (hA : ∀ p ∈ t.toList, Above seed k p.1) :
    ChildOk L seed n k (t.shape.at_ m) t.size (t.sum seed) P := by
  cases t with
  | nil => exact .inl ⟨rfl, rfl, rfl⟩
  | node b k' v' l r =>
    refine .inr ⟨m, _, rfl, hm, hs.head, ?_, ?_, ?_, ?_⟩
    · show 1 + l.shape.size + r.shape.size = 1 + l.size + r.size
      rw [shape_size, shape_size]
    · show mark seed (l.shape.sum seed) k' v' (r.shape.sum seed) = mark seed (l.sum seed) k' v' (r.sum seed)
      rw [shape_sum, shape_sum]
    · exact hP (k', v') (by simp [AT.toList])
    · exact hA (k', v') (by simp [AT.toList])
theorem nodes_ok {L : List NodeV} {seed : Int} {t : AT} {i : Nat} (h : WF seed t) (hs : SubAt L seed i t.shape) : ∀ j, j < t.size → ∃ x, L[i + j]? = some x ∧ NodeOk L seed (i + j) x := by
  induction t generalizing i with
  | nil => intro j hj; simp [AT.size] at hj
  | node b k v l r ihl ihr =>
    intro j hj
    obtain ⟨h1, h2, h3, h4, _⟩ := sorted_node h.sorted
    obtain ⟨q1, q2, q3, q4⟩ := h.heap
    have hL := hs.left
    have hR := hs.right
    rw [shape_size] at hR
    rcases Nat.eq_zero_or_pos j with rfl | hj0
    · refine ⟨_, hs.head, l.size, r.size, l.sum seed, r.sum seed, ?_, ?_, ?_, ?_⟩
      · show 1 + l.shape.size + r.shape.size = _
        rw [shape_size, shape_size]
      · show mark seed (l.shape.sum seed) k v (r.shape.sum seed) = _
        rw [shape_sum, shape_sum]
      · exact child_ok hL (by omega) h3 q1
      · show ChildOk L seed (i + 0) k (r.shape.at_ (i + 1 + l.shape.size)) r.size (r.sum seed) _
        rw [shape_size]
        exact child_ok hR (by omega) h4 q2
    · rcases Nat.lt_or_ge (j - 1) l.size with hl | hl
      · have := ihl ⟨h1, q3⟩ hL (j - 1) hl
        rwa [show i + 1 + (j - 1) = i + j by omega] at this
      · have := ihr ⟨h2, q4⟩ hR (j - 1 - l.size) (by simp only [AT.size] at hj; omega)
        rwa [show i + 1 + l.size + (j - 1 - l.size) = i + j by omega] at this
theorem nodesL_ok {seed : Int} {t : AT} (h : WF seed t) {j : Nat} {x : NodeV} (hx : (nodesL seed t.toList)[j]? = some x) : NodeOk (nodesL seed t.toList) seed j x := by
  have hj := (List.getElem?_eq_some_iff.1 hx).1
  rw [nodesL_length, toList_length] at hj
  have hs : SubAt (nodesL seed t.toList) seed 0 t.shape := fun k _ => by rw [Nat.zero_add, nodesL, ← shape_build h]
  obtain ⟨y, hy, hok⟩ := nodes_ok h hs j hj
  rw [Nat.zero_add] at hy hok
  rw [hx] at hy
  injection hy with hy
  subst hy
  exact hok
end Go.Proofs.Ytdmckjojeddaaaa

namespace Go.Proofs.Ytdmckjojeddaaaa
open Go.Proofs.YtdmckjojeddaaaaPlain

theorem risingGo_some {l acc out : PairL} (h : risingGo l acc = some out) : out = putAll acc l ∧ ∀ p ∈ l, keyOk p.1 p.2 := by
  induction l generalizing acc with
  | nil => rw [risingGo] at h; injection h with h; subst h; exact ⟨rfl, fun p hp => by cases hp⟩
  | cons p l ih =>
    rw [risingGo] at h
    split at h
    · rename_i ha
      obtain ⟨h1, h2⟩ := ih h
      exact ⟨h1, fun q hq => (List.mem_cons.1 hq).elim (fun e => e ▸ keyOk_of ha) (h2 q)⟩
    · cases h
theorem risingL_some {l out : PairL} (h : risingL l = some out) : l.length ≤ 400 ∧ out = putAll [] l ∧ Okay l := by
  unfold risingL at h
  split at h
  · cases h
  · obtain ⟨h1, h2⟩ := risingGo_some h
    exact ⟨by omega, h1, h2⟩
theorem nodes_mem {seed : Int} {t : PT} {i : Nat} {x : NodeV} (h : x ∈ t.nodes seed i) (P : List UInt8 × List UInt8 → Prop) : ∀ {u : AT}, u.shape = t → (∀ p ∈ u.toList, P p) → P (x.key, x.value) := by
  induction t generalizing i with
  | nil => cases h
  | node k v l r ihl ihr =>
    intro u hu hP
    cases u with
    | nil => cases hu
    | node b k' v' l' r' =>
      simp only [AT.shape] at hu
      injection hu with h1 h2 h3 h4
      subst h1 h2 h3 h4
      rw [PT.nodes] at h
      rcases List.mem_cons.1 h with rfl | h
      · exact hP (k', v') (by simp [AT.toList])
      · rcases List.mem_append.1 h with h | h
        · exact ihl h rfl (fun p hp => hP p (by simp [AT.toList, hp]))
        · exact ihr h rfl (fun p hp => hP p (by simp [AT.toList, hp]))
theorem nodesL_mem {seed : Int} {t : AT} (h : WF seed t) (P : List UInt8 × List UInt8 → Prop) (hP : ∀ p ∈ t.toList, P p) : ∀ x ∈ nodesL seed t.toList, P (x.key, x.value) := fun x hx => by
  rw [nodesL, ← shape_build h] at hx
  exact nodes_mem hx P rfl hP
theorem ChildOk.nonneg {L : List NodeV} {seed : Int} {n : Nat} {k : List UInt8} {c : Int} {s : Nat} {d : Int} {P : List UInt8 → Prop} (h : ChildOk L seed n k c s d P) (hL : ∀ j x, L[j]? = some x → NodeOk L seed j x) : 0 ≤ d := by
  rcases h with ⟨_, _, rfl⟩ | ⟨m, y, _, _, hy, _, rfl, _⟩
  · exact Int.le_refl _
  · obtain ⟨_, _, ld, rd, _, h2, _⟩ := hL m y hy
    rw [h2]; exact mark_nonneg _ _ _ _ _
theorem nodes_small {seed : Int} {t : PT} {i : Nat} {x : NodeV} (h : x ∈ t.nodes seed i) : x.size ≤ t.size := by
  induction t generalizing i with
  | nil => cases h
  | node k v l r ihl ihr =>
    rw [PT.nodes] at h
    simp only [PT.size]
    rcases List.mem_cons.1 h with rfl | h
    · exact Nat.le_refl _
    · rcases List.mem_append.1 h with h | h
      · have := ihl h; omega
      · have := ihr h; omega
theorem nodesL_small {seed : Int} {l : PairL} : ∀ x ∈ nodesL seed l, x.size ≤ l.length := fun x hx => by
  have := nodes_small hx
  rwa [build_size] at this
end Go.Proofs.Ytdmckjojeddaaaa

namespace Go.Proofs.Ytdmckjojeddaaaa
open Go.Proofs.YtdmckjojeddaaaaPlain

theorem sorted_ext {a b : PairL} (ha : Sorted a) (hb : Sorted b) (h : ∀ p, p ∈ a ↔ p ∈ b) : a = b := by
  induction a generalizing b with
  | nil =>
    cases b with
    | nil => rfl
    | cons q b => exact absurd ((h q).2 List.mem_cons_self) (by simp)
  | cons p a ih =>
    cases b with
    | nil => exact absurd ((h p).1 List.mem_cons_self) (by simp)
    | cons q b =>
      obtain ⟨a1, a2⟩ := sorted_cons.1 ha
      obtain ⟨b1, b2⟩ := sorted_cons.1 hb
      have hpq : p = q := by
        rcases List.mem_cons.1 ((h p).1 List.mem_cons_self) with e | hp
        · exact e
        · rcases List.mem_cons.1 ((h q).2 List.mem_cons_self) with e | hq
          · exact e.symm
          · exact absurd (b1 p hp) (lt_asymm (a1 q hq))
      subst hpq
      rw [ih a2 b2 fun r => ?_]
      constructor
      · intro hr
        rcases List.mem_cons.1 ((h r).1 (List.mem_cons_of_mem _ hr)) with e | hr2
        · subst e; exact absurd (a1 _ hr) (lt_irrefl _)
        · exact hr2
      · intro hr
        rcases List.mem_cons.1 ((h r).2 (List.mem_cons_of_mem _ hr)) with e | hr2
        · subst e; exact absurd (b1 _ hr) (lt_irrefl _)
        · exact hr2
theorem mem_split {l : PairL} (k : List UInt8) (hs : Sorted l) {p : List UInt8 × List UInt8} : (p ∈ l ∧ p.1 ≠ k) ↔ p ∈ l.take (rank k l) ∨ p ∈ l.drop (if hasL k l then rank k l + 1 else rank k l) := by
  constructor
  · rintro ⟨hp, hne⟩
    rw [← List.take_append_drop (rank k l) l] at hp
    rcases List.mem_append.1 hp with hp | hp
    · exact .inl hp
    · refine .inr ?_
      cases hh : hasL k l with
      | false => simpa using hp
      | true =>
        have hlt := hasL_rank hh
        have e := hasL_lt hlt
        rw [hh] at e
        have e := of_decide_eq_true e.symm
        rw [List.drop_eq_getElem_cons hlt] at hp
        rcases List.mem_cons.1 hp with h1 | h1
        · subst h1; exact absurd e hne
        · simpa using h1
  · rintro (hp | hp)
    · exact ⟨List.mem_of_mem_take hp, lt_ne (take_rank_lt p hp)⟩
    · exact ⟨List.mem_of_mem_drop hp, (lt_ne (drop_rank_gt hs p hp)).symm⟩
theorem mem_put_iff {l : PairL} {k v : List UInt8} (hs : Sorted l) {p : List UInt8 × List UInt8} : p ∈ putL l k v ↔ p = (k, v) ∨ (p ∈ l ∧ p.1 ≠ k) := by
  rw [mem_split k hs, putL, List.mem_append, List.mem_cons]
  constructor
  · rintro (h | h | h)
    · exact .inr (.inl h)
    · exact .inl h
    · exact .inr (.inr h)
  · rintro (h | h | h)
    · exact .inr (.inl h)
    · exact .inl h
    · exact .inr (.inr h)
theorem hasL_iff {l : PairL} {k : List UInt8} (hs : Sorted l) : hasL k l = true ↔ ∃ p ∈ l, p.1 = k := by
  constructor
  · intro hh
    have hlt := hasL_rank hh
    have e := hasL_lt hlt
    rw [hh] at e
    exact ⟨_, List.getElem_mem hlt, of_decide_eq_true e.symm⟩
  · rintro ⟨p, hp, hk⟩
    cases hh : hasL k l with
    | true => rfl
    | false =>
      rw [← List.take_append_drop (rank k l) l] at hp
      rcases List.mem_append.1 hp with hp | hp
      · exact absurd hk (lt_ne (take_rank_lt p hp))
      · have := drop_rank_gt (key := k) hs p (by rw [hh]; simpa using hp)
        exact absurd hk.symm (lt_ne this)
theorem mem_drop_iff {l : PairL} {k : List UInt8} (hs : Sorted l) {p : List UInt8 × List UInt8} : p ∈ dropL l k ↔ p ∈ l ∧ p.1 ≠ k := by
  unfold dropL
  split
  · rename_i hh
    rw [mem_split k hs, if_pos hh, List.mem_append]
  · rename_i hh
    constructor
    · intro hp
      exact ⟨hp, fun e => hh ((hasL_iff hs).2 ⟨p, hp, e⟩)⟩
    · exact fun h => h.1
theorem putAll_sorted {l ps : PairL} (hs : Sorted l) : Sorted (putAll l ps) := by
  induction ps generalizing l with
  | nil => exact hs
  | cons q ps ih => exact ih (l := putL l q.1 q.2) (putL_sorted hs)
theorem mem_putAll {l ps : PairL} (hs : Sorted l) (hd : ps.Pairwise (fun a b => a.1 ≠ b.1)) {p : List UInt8 × List UInt8} : p ∈ putAll l ps ↔ p ∈ ps ∨ (p ∈ l ∧ ∀ q ∈ ps, q.1 ≠ p.1) := by
  induction ps generalizing l with
  | nil => simp [putAll]
  | cons q ps ih =>
    obtain ⟨d1, d2⟩ := List.pairwise_cons.1 hd
    have e : putAll l (q :: ps) = putAll (putL l q.1 q.2) ps := rfl
    rw [e, ih (putL_sorted hs) d2, mem_put_iff hs]
    constructor
    · rintro (h | ⟨h | ⟨h1, h2⟩, h3⟩)
      · exact .inl (List.mem_cons_of_mem _ h)
      · exact .inl (List.mem_cons.2 (.inl h))
      · refine .inr ⟨h1, fun r hr => ?_⟩
        rcases List.mem_cons.1 hr with rfl | hr
        · exact fun e => h2 e.symm
        · exact h3 r hr
    · rintro (h | ⟨h1, h2⟩)
      · rcases List.mem_cons.1 h with rfl | h
        · exact .inr ⟨.inl rfl, fun r hr e => d1 r hr e.symm⟩
        · exact .inl h
      · exact .inr ⟨.inr ⟨h1, fun e => h2 q List.mem_cons_self e.symm⟩, fun r hr => h2 r (List.mem_cons_of_mem _ hr)⟩
theorem sorted_ne {l : PairL} (h : Sorted l) : l.Pairwise (fun a b => a.1 ≠ b.1) := List.Pairwise.imp (fun h => lt_ne h) h
theorem sorted_ne_rev {l : PairL} (h : Sorted l) : l.reverse.Pairwise (fun a b => a.1 ≠ b.1) := List.pairwise_reverse.2 (List.Pairwise.imp (fun h => (lt_ne h).symm) h)
theorem putAll_self {l : PairL} (h : Sorted l) : putAll [] l = l := sorted_ext (putAll_sorted List.Pairwise.nil) h fun p => by
  rw [mem_putAll List.Pairwise.nil (sorted_ne h)]; simp
theorem putAll_rev {l : PairL} (h : Sorted l) : putAll [] l.reverse = l := sorted_ext (putAll_sorted List.Pairwise.nil) h fun p => by
  rw [mem_putAll List.Pairwise.nil (sorted_ne_rev h)]; simp

/-! ### Two histories: others that go again -/
def Mixed (l more cur : PairL) (i : Nat) : Prop := Sorted cur ∧ ∀ p, p ∈ cur ↔ p ∈ l ∨ (p ∈ more.drop i ∧ hasL p.1 l = false)
theorem mixed_start {l more : PairL} (hl : Sorted l) (hm : Sorted more) : Mixed l more (putAll (putAll [] more.reverse) l.reverse) 0 := by
  rw [putAll_rev hm]
  refine ⟨putAll_sorted hm, fun p => ?_⟩
  rw [mem_putAll hm (sorted_ne_rev hl), List.mem_reverse, List.drop_zero]
  have : (∀ q ∈ l.reverse, q.1 ≠ p.1) ↔ hasL p.1 l = false := by
    constructor
    · intro h
      cases hh : hasL p.1 l with
      | false => rfl
      | true =>
        obtain ⟨q, hq, e⟩ := (hasL_iff hl).1 hh
        exact absurd e (h q (List.mem_reverse.2 hq))
    · intro h q hq e
      rw [(hasL_iff hl).2 ⟨q, List.mem_reverse.1 hq, e⟩] at h
      cases h
  rw [this]
theorem mixed_end {l more cur : PairL} (hl : Sorted l) (h : Mixed l more cur more.length) : cur = l := sorted_ext h.1 hl fun p => by
  rw [h.2 p]; simp
theorem mixed_skip {l more cur : PairL} {i : Nat} (h : Mixed l more cur i) (hi : i < more.length) (hh : hasL more[i].1 l = true) : Mixed l more cur (i + 1) := by
  refine ⟨h.1, fun p => ?_⟩
  rw [h.2 p, List.drop_eq_getElem_cons hi, List.mem_cons]
  constructor
  · rintro (h1 | ⟨h1 | h1, h2⟩)
    · exact .inl h1
    · subst h1; rw [hh] at h2; cases h2
    · exact .inr ⟨h1, h2⟩
  · rintro (h1 | ⟨h1, h2⟩)
    · exact .inl h1
    · exact .inr ⟨.inr h1, h2⟩
theorem mixed_drop {l more cur : PairL} {i : Nat} (hl : Sorted l) (hm : Sorted more) (h : Mixed l more cur i) (hi : i < more.length) (hh : hasL more[i].1 l = false) : hasL more[i].1 cur = true ∧ Mixed l more (dropL cur more[i].1) (i + 1) := by
  have hs := sorted_drop hm i
  rw [List.drop_eq_getElem_cons hi] at hs
  obtain ⟨s1, s2⟩ := sorted_cons.1 hs
  refine ⟨(hasL_iff h.1).2 ⟨more[i], (h.2 _).2 (.inr ⟨by rw [List.drop_eq_getElem_cons hi]; exact List.mem_cons_self, hh⟩), rfl⟩, dropL_sorted h.1, fun p => ?_⟩
  rw [mem_drop_iff h.1, h.2 p, List.drop_eq_getElem_cons hi, List.mem_cons]
  constructor
  · rintro ⟨h1 | ⟨h1 | h1, h2⟩, h3⟩
    · exact .inl h1
    · subst h1; exact absurd rfl h3
    · exact .inr ⟨h1, h2⟩
  · rintro (h1 | ⟨h1, h2⟩)
    · exact ⟨.inl h1, fun e => by rw [(hasL_iff hl).2 ⟨p, h1, e⟩] at hh; cases hh⟩
    · exact ⟨.inr ⟨.inr h1, h2⟩, fun e => lt_ne (s1 p h1) e.symm⟩
theorem mixed_length {l more cur : PairL} {i : Nat} (h : cur.length ≤ l.length + more.length) (k : List UInt8) : (dropL cur k).length ≤ l.length + more.length := by
  have _i := i
  unfold dropL
  split
  · have := rank_le k cur
    simp only [List.length_append, List.length_take, List.length_drop]
    omega
  · exact h
def AT.val : AT → Option (List UInt8)
  | .nil => none
  | .node _ _ v _ _ => some v
theorem getL_find {key : List UInt8} {t : AT} (hs : Sorted t.toList) : getL t.toList key = (t.find key).val := by
  rcases find_has (key := key) hs with ⟨h1, h2⟩ | ⟨b, v, l, r, h1, h2, h3⟩
  · rw [h1, getL, h2]; rfl
  · rw [h1, h3]; rfl
end Go.Proofs.Ytdmckjojeddaaaa
