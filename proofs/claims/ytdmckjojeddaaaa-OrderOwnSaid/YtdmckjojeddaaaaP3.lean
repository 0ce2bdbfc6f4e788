/- Plain facts on the trees of maps: what split, merge, put, drop and find do to the pairs in order (no memory). -/
import Derived.Test.YtdmckjojeddaaaaT6
import Derived.Test.YtdmckjojeddaaaaP1
namespace Go.Proofs.Ytdmckjojeddaaaa
open Go.Proofs.YtdmckjojeddaaaaPlain

def AT.toList : AT → PairL
  | .nil => []
  | .node _ k v l r => l.toList ++ (k, v) :: r.toList
def Sorted (l : PairL) : Prop := l.Pairwise (fun p q => Lt p.1 q.1)
theorem toList_length (t : AT) : t.toList.length = t.size := by
  induction t with
  | nil => rfl
  | node b k v l r ihl ihr => simp only [AT.toList, AT.size, List.length_append, List.length_cons]; omega

/-! ### The order of heights -/
def Above (seed : Int) (k k2 : List UInt8) : Prop := aboveB seed k k2 = true
theorem above_iff {seed : Int} {k k2 : List UInt8} : Above seed k k2 ↔ height seed k2 < height seed k ∨ (height seed k = height seed k2 ∧ Lt k k2) := by
  unfold Above aboveB
  split
  · rename_i h
    rw [h]; simp
  · rename_i h
    simp [h]
theorem above_trans {seed : Int} {a b c : List UInt8} (h : Above seed a b) (k : Above seed b c) : Above seed a c := by
  rw [above_iff] at *
  rcases h with h | ⟨h, h'⟩ <;> rcases k with k | ⟨k, k'⟩
  · exact .inl (by omega)
  · exact .inl (by omega)
  · exact .inl (by omega)
  · exact .inr ⟨by omega, lt_trans h' k'⟩
theorem above_irrefl {seed : Int} {a : List UInt8} : ¬ Above seed a a := by
  rw [above_iff]; rintro (h | ⟨_, h⟩)
  · omega
  · exact lt_irrefl a h
theorem above_total {seed : Int} {a b : List UInt8} (h : a ≠ b) : Above seed a b ∨ Above seed b a := by
  rw [above_iff, above_iff]
  rcases Int.lt_trichotomy (height seed a) (height seed b) with h1 | h1 | h1
  · exact .inr (.inl h1)
  · rcases lt_tri a b with h2 | h2 | h2
    · exact .inl (.inr ⟨h1, h2⟩)
    · exact absurd h2 h
    · exact .inr (.inr ⟨h1.symm, h2⟩)
  · exact .inl (.inl h1)
theorem above_asymm {seed : Int} {a b : List UInt8} (h : Above seed a b) : ¬ Above seed b a := fun k => above_irrefl (above_trans h k)

/-- No node stands below one of lesser height, or of the same and a greater key. -/
def Heap (seed : Int) : AT → Prop
  | .nil => True
  | .node _ k _ l r => (∀ p ∈ l.toList, Above seed k p.1) ∧ (∀ p ∈ r.toList, Above seed k p.1) ∧ Heap seed l ∧ Heap seed r
structure WF (seed : Int) (t : AT) : Prop where
  sorted : Sorted t.toList
  heap : Heap seed t

theorem sorted_append {a b : PairL} : Sorted (a ++ b) ↔ Sorted a ∧ Sorted b ∧ ∀ p ∈ a, ∀ q ∈ b, Lt p.1 q.1 := List.pairwise_append
theorem sorted_cons {p : List UInt8 × List UInt8} {l : PairL} : Sorted (p :: l) ↔ (∀ q ∈ l, Lt p.1 q.1) ∧ Sorted l := List.pairwise_cons
theorem sorted_node {b : Nat} {k v : List UInt8} {l r : AT} (h : Sorted (AT.node b k v l r).toList) : Sorted l.toList ∧ Sorted r.toList ∧ (∀ p ∈ l.toList, Lt p.1 k) ∧ (∀ p ∈ r.toList, Lt k p.1) ∧ (∀ p ∈ l.toList, ∀ q ∈ r.toList, Lt p.1 q.1) := by
  rw [AT.toList, sorted_append, sorted_cons] at h
  obtain ⟨h1, ⟨h2, h3⟩, h4⟩ := h
  exact ⟨h1, h3, fun p hp => h4 p hp _ List.mem_cons_self, h2, fun p hp q hq => h4 p hp q (List.mem_cons_of_mem _ hq)⟩

/-! ### rank in a list that is put together -/
theorem rank_append_lt {key : List UInt8} {a b : PairL} (h : ∀ p ∈ a, Lt p.1 key) : rank key (a ++ b) = a.length + rank key b := by
  induction a with
  | nil => simp
  | cons p a ih =>
    rw [List.cons_append, rank, if_pos (h p List.mem_cons_self), ih (fun q hq => h q (List.mem_cons_of_mem _ hq)), List.length_cons]
    omega
theorem rank_append_ge {key : List UInt8} {a b : PairL} {p : List UInt8 × List UInt8} (h : ¬ Lt p.1 key) : rank key (a ++ p :: b) = rank key a := by
  induction a with
  | nil => simp [rank, h]
  | cons q a ih =>
    rw [List.cons_append, rank, rank, ih]
theorem rank_all {key : List UInt8} {a : PairL} (h : ∀ p ∈ a, Lt p.1 key) : rank key a = a.length := by
  have := rank_append_lt (b := []) h
  rwa [List.append_nil] at this
theorem lt_of_not {key : List UInt8} {k : List UInt8} (h : ¬ Lt k key) (hne : key ≠ k) : Lt key k := (not_lt.1 h).resolve_left (fun e => hne e.symm)

theorem rank_node_lt {key : List UInt8} {b : Nat} {k v : List UInt8} {l r : AT} (h : Sorted (AT.node b k v l r).toList) (hk : Lt k key) : rank key (AT.node b k v l r).toList = l.toList.length + 1 + rank key r.toList := by
  obtain ⟨_, _, h3, _, _⟩ := sorted_node h
  rw [AT.toList, show l.toList ++ (k, v) :: r.toList = (l.toList ++ [(k, v)]) ++ r.toList by simp, rank_append_lt]
  · simp
  · intro p hp
    rcases List.mem_append.1 hp with hp | hp
    · exact lt_trans (h3 p hp) hk
    · simp at hp; subst hp; exact hk
theorem rank_node_ge {key : List UInt8} {b : Nat} {k v : List UInt8} {l r : AT} (hk : ¬ Lt k key) : rank key (AT.node b k v l r).toList = rank key l.toList := by
  rw [AT.toList]; exact rank_append_ge hk

/-! ### split -/
theorem split_list {seed : Int} {key : List UInt8} {t : AT} (hs : Sorted t.toList) : (t.split key).1.toList = t.toList.take (rank key t.toList) ∧ (t.split key).2.toList = t.toList.drop (rank key t.toList) := by
  have _s := seed
  induction t with
  | nil => simp [AT.split, AT.toList]
  | node b k v l r ihl ihr =>
    obtain ⟨h1, h2, h3, h4, _⟩ := sorted_node hs
    rw [AT.split]
    split
    · rename_i hk
      rw [rank_node_lt hs hk]
      obtain ⟨i1, i2⟩ := ihr h2
      simp only [AT.toList]
      rw [i1, i2]
      refine ⟨?_, ?_⟩
      · rw [show l.toList.length + 1 + rank key r.toList = l.toList.length + (1 + rank key r.toList) by omega, List.take_length_add_append, Nat.add_comm 1, List.take_succ_cons]
      · rw [show l.toList.length + 1 + rank key r.toList = l.toList.length + (1 + rank key r.toList) by omega, List.drop_length_add_append, Nat.add_comm 1, List.drop_succ_cons]
    · rename_i hk
      rw [rank_node_ge hk]
      obtain ⟨i1, i2⟩ := ihl h1
      have := rank_le key l.toList
      simp only [AT.toList]
      rw [i1, i2, List.take_append_of_le_length this, List.drop_append_of_le_length this]
      exact ⟨rfl, rfl⟩
theorem split_heap {seed : Int} {key : List UInt8} {t : AT} (hh : Heap seed t) : Heap seed (t.split key).1 ∧ Heap seed (t.split key).2 ∧ (∀ p ∈ (t.split key).1.toList, p ∈ t.toList) ∧ (∀ p ∈ (t.split key).2.toList, p ∈ t.toList) := by
  induction t with
  | nil => exact ⟨trivial, trivial, fun _ h => h, fun _ h => h⟩
  | node b k v l r ihl ihr =>
    obtain ⟨h1, h2, h3, h4⟩ := hh
    rw [AT.split]
    split
    · obtain ⟨i1, i2, i3, i4⟩ := ihr h4
      refine ⟨⟨h1, fun p hp => h2 p (i3 p hp), h3, i1⟩, i2, fun p hp => ?_, fun p hp => ?_⟩
      · simp only [AT.toList, List.mem_append, List.mem_cons] at hp ⊢
        rcases hp with hp | hp | hp
        · exact .inl hp
        · exact .inr (.inl hp)
        · exact .inr (.inr (i3 p hp))
      · simp only [AT.toList, List.mem_append, List.mem_cons]
        exact .inr (.inr (i4 p hp))
    · obtain ⟨i1, i2, i3, i4⟩ := ihl h3
      refine ⟨i1, ⟨fun p hp => h1 p (i4 p hp), h2, i2, h4⟩, fun p hp => ?_, fun p hp => ?_⟩
      · simp only [AT.toList, List.mem_append, List.mem_cons]
        exact .inl (i3 p hp)
      · simp only [AT.toList, List.mem_append, List.mem_cons] at hp ⊢
        rcases hp with hp | hp | hp
        · exact .inl (i4 p hp)
        · exact .inr (.inl hp)
        · exact .inr (.inr hp)

/-! ### merge -/
theorem merge_list (seed : Int) : ∀ (N : Nat) (a b : AT), a.size + b.size ≤ N → (AT.merge seed a b).toList = a.toList ++ b.toList := by
  intro N
  induction N with
  | zero =>
    intro a b h
    cases a with
    | nil => rw [merge_nil]; rfl
    | node => simp only [AT.size] at h; omega
  | succ N ih =>
    intro a b h
    cases a with
    | nil => rw [merge_nil]; rfl
    | node ba ka va la ra =>
      cases b with
      | nil => rw [merge_nil']; simp [AT.toList]
      | node bb kb vb lb rb =>
        rw [merge_node]
        simp only [AT.size] at h
        split
        · have := ih ra (.node bb kb vb lb rb) (by simp only [AT.size]; omega)
          simp only [AT.toList] at *
          rw [this]; simp
        · have := ih (.node ba ka va la ra) lb (by simp only [AT.size]; omega)
          simp only [AT.toList] at *
          rw [this]; simp
theorem merge_toList (seed : Int) (a b : AT) : (AT.merge seed a b).toList = a.toList ++ b.toList := merge_list seed _ a b (Nat.le_refl _)
theorem merge_heapN (seed : Int) : ∀ (N : Nat) (a b : AT), a.size + b.size ≤ N → (∀ p ∈ a.toList, ∀ q ∈ b.toList, Lt p.1 q.1) → Heap seed a → Heap seed b → Heap seed (AT.merge seed a b) := by
  intro N
  induction N with
  | zero =>
    intro a b h hd ha hb
    cases a with
    | nil => rw [merge_nil]; exact hb
    | node => simp only [AT.size] at h; omega
  | succ N ih =>
    intro a b h hd ha hb
    cases a with
    | nil => rw [merge_nil]; exact hb
    | node ba ka va la ra =>
      cases b with
      | nil => rw [merge_nil']; exact ha
      | node bb kb vb lb rb =>
        rw [merge_node]
        simp only [AT.size] at h
        obtain ⟨a1, a2, a3, a4⟩ := ha
        obtain ⟨b1, b2, b3, b4⟩ := hb
        have ma : (ka, va) ∈ (AT.node ba ka va la ra).toList := by simp [AT.toList]
        have mb : (kb, vb) ∈ (AT.node bb kb vb lb rb).toList := by simp [AT.toList]
        have hne : ka ≠ kb := lt_ne (hd _ ma _ mb)
        split
        · rename_i hab
          refine ⟨a1, fun p hp => ?_, a3, ih ra (.node bb kb vb lb rb) (by simp only [AT.size]; omega) (fun p hp q hq => hd p (by simp [AT.toList, hp]) q hq) a4 ⟨b1, b2, b3, b4⟩⟩
          rw [merge_toList] at hp
          rcases List.mem_append.1 hp with hp | hp
          · exact a2 p hp
          · simp only [AT.toList, List.mem_append, List.mem_cons] at hp
            rcases hp with hp | rfl | hp
            · exact above_trans hab (b1 p hp)
            · exact hab
            · exact above_trans hab (b2 p hp)
        · rename_i hab
          have hba : Above seed kb ka := (above_total hne).resolve_left hab
          refine ⟨fun p hp => ?_, b2, ih (.node ba ka va la ra) lb (by simp only [AT.size]; omega) (fun p hp q hq => hd p hp q (by simp [AT.toList, hq])) ⟨a1, a2, a3, a4⟩ b3, b4⟩
          rw [merge_toList] at hp
          rcases List.mem_append.1 hp with hp | hp
          · simp only [AT.toList, List.mem_append, List.mem_cons] at hp
            rcases hp with hp | rfl | hp
            · exact above_trans hba (a1 p hp)
            · exact hba
            · exact above_trans hba (a2 p hp)
          · exact b1 p hp
theorem merge_heap {seed : Int} {a b : AT} (hd : ∀ p ∈ a.toList, ∀ q ∈ b.toList, Lt p.1 q.1) (ha : Heap seed a) (hb : Heap seed b) : Heap seed (AT.merge seed a b) := merge_heapN seed _ a b (Nat.le_refl _) hd ha hb
theorem merge_wf {seed : Int} {a b : AT} (hd : ∀ p ∈ a.toList, ∀ q ∈ b.toList, Lt p.1 q.1) (ha : WF seed a) (hb : WF seed b) : WF seed (AT.merge seed a b) :=
  ⟨by rw [merge_toList, sorted_append]; exact ⟨ha.sorted, hb.sorted, hd⟩, merge_heap hd ha.heap hb.heap⟩

/-! ### keys in order -/
theorem sorted_take {l : PairL} (h : Sorted l) (n : Nat) : Sorted (l.take n) := List.Pairwise.sublist (List.take_sublist n l) h
theorem sorted_drop {l : PairL} (h : Sorted l) (n : Nat) : Sorted (l.drop n) := List.Pairwise.sublist (List.drop_sublist n l) h
theorem take_rank_lt {key : List UInt8} {l : PairL} : ∀ p ∈ l.take (rank key l), Lt p.1 key := by
  induction l with
  | nil => intro p hp; simp at hp
  | cons q l ih =>
    intro p hp
    rw [rank] at hp
    split at hp
    · rename_i h
      rw [List.take_succ_cons] at hp
      rcases List.mem_cons.1 hp with rfl | hp
      · exact h
      · exact ih p hp
    · simp at hp
theorem drop_rank_ge {key : List UInt8} {l : PairL} (hs : Sorted l) : ∀ p ∈ l.drop (rank key l), ¬ Lt p.1 key := by
  induction l with
  | nil => intro p hp; simp at hp
  | cons q l ih =>
    intro p hp
    obtain ⟨h1, h2⟩ := sorted_cons.1 hs
    rw [rank] at hp
    split at hp
    · rw [List.drop_succ_cons] at hp
      exact ih h2 p hp
    · rename_i h
      rw [List.drop_zero] at hp
      rcases List.mem_cons.1 hp with rfl | hp
      · exact h
      · exact fun hl => h (lt_trans (h1 p hp) hl)
/-- In order: behind the first pair whose key is not less all keys are greater. -/
theorem drop_rank_gt {key : List UInt8} {l : PairL} (hs : Sorted l) : ∀ p ∈ l.drop (if hasL key l then rank key l + 1 else rank key l), Lt key p.1 := by
  intro p hp
  cases hh : hasL key l with
  | true =>
    have hlt := hasL_rank hh
    rw [hh, if_pos rfl] at hp
    have e := hasL_lt hlt
    rw [hh] at e
    have e := of_decide_eq_true e.symm
    have hs2 := sorted_drop hs (rank key l)
    rw [List.drop_eq_getElem_cons hlt] at hs2
    have := (sorted_cons.1 hs2).1 p hp
    rwa [e] at this
  | false =>
    rw [hh] at hp
    simp at hp
    rcases lt_tri key p.1 with h | h | h
    · exact h
    · exfalso
      obtain ⟨i, hi, hpi⟩ := List.getElem_of_mem hp
      have hlt : rank key l < l.length := by rw [List.length_drop] at hi; omega
      have h0 := hasL_lt hlt
      rw [hh] at h0
      have h0 := of_decide_eq_false h0.symm
      have hs2 := sorted_drop hs (rank key l)
      rw [List.drop_eq_getElem_cons hlt] at hs2
      have hge := drop_rank_ge (key := key) hs l[rank key l] (by rw [List.drop_eq_getElem_cons hlt]; exact List.mem_cons_self)
      rcases List.mem_cons.1 (by rw [List.drop_eq_getElem_cons hlt] at hp; exact hp) with h1 | h1
      · subst h1; exact h0 h.symm
      · have := (sorted_cons.1 hs2).1 p h1
        rw [← h] at this
        exact hge this
    · exact absurd h (drop_rank_ge hs p hp)
theorem putL_sorted {l : PairL} {k v : List UInt8} (hs : Sorted l) : Sorted (putL l k v) := by
  unfold putL
  rw [sorted_append, sorted_cons]
  have h1 := fun p hp => take_rank_lt (key := k) (l := l) p hp
  have h2 := drop_rank_gt (key := k) hs
  refine ⟨sorted_take hs _, ⟨h2, sorted_drop hs _⟩, fun p hp q hq => ?_⟩
  rcases List.mem_cons.1 hq with rfl | hq
  · exact h1 p hp
  · exact lt_trans (h1 p hp) (h2 q hq)
theorem dropL_sorted {l : PairL} {k : List UInt8} (hs : Sorted l) : Sorted (dropL l k) := by
  unfold dropL
  split
  · rename_i hh
    rw [sorted_append]
    have h2 := drop_rank_gt (key := k) hs
    rw [if_pos hh] at h2
    exact ⟨sorted_take hs _, sorted_drop hs _, fun p hp q hq => lt_trans (take_rank_lt p hp) (h2 q hq)⟩
  · exact hs

theorem hasL_node_lt {key : List UInt8} {b : Nat} {k v : List UInt8} {l r : AT} (h : Sorted (AT.node b k v l r).toList) (hk : Lt k key) : hasL key (AT.node b k v l r).toList = hasL key r.toList := by
  unfold hasL
  rw [rank_node_lt h hk, AT.toList, show l.toList.length + 1 + rank key r.toList = l.toList.length + (1 + rank key r.toList) by omega, List.drop_length_add_append, Nat.add_comm 1, List.drop_succ_cons]
theorem hasL_node_gt {key : List UInt8} {b : Nat} {k v : List UInt8} {l r : AT} (hk : Lt key k) : hasL key (AT.node b k v l r).toList = hasL key l.toList := by
  unfold hasL
  rw [rank_node_ge (lt_asymm hk), AT.toList]
  rcases Nat.lt_or_ge (rank key l.toList) l.toList.length with h | h
  · rw [List.drop_append_of_le_length (Nat.le_of_lt h), List.drop_eq_getElem_cons h]; rfl
  · have he : rank key l.toList = l.toList.length := Nat.le_antisymm (rank_le _ _) h
    rw [he, List.drop_left, List.drop_length]
    simp; exact fun e => lt_ne hk e.symm
theorem hasL_node_eq {key : List UInt8} {b : Nat} {v : List UInt8} {l r : AT} (h : Sorted (AT.node b key v l r).toList) : hasL key (AT.node b key v l r).toList = true ∧ rank key (AT.node b key v l r).toList = l.toList.length := by
  obtain ⟨_, _, h3, _, _⟩ := sorted_node h
  have hr : rank key (AT.node b key v l r).toList = l.toList.length := by rw [rank_node_ge (lt_irrefl key), rank_all h3]
  refine ⟨?_, hr⟩
  unfold hasL
  rw [hr, AT.toList, List.drop_left]
  simp

/-! ### put, drop, find -/
theorem put_list {seed : Int} {nb : Nat} {k v : List UInt8} {t : AT} (hs : Sorted t.toList) (hh : Heap seed t) : (t.put seed nb k v).toList = putL t.toList k v := by
  induction t with
  | nil => simp [AT.put, AT.toList, putL, rank]
  | node b k' v' l r ihl ihr =>
    obtain ⟨h1, h2, h3, h4, _⟩ := sorted_node hs
    obtain ⟨q1, q2, hl, hr⟩ := hh
    rw [AT.put]
    split
    · rename_i e
      subst e
      obtain ⟨e1, e2⟩ := hasL_node_eq hs
      unfold putL
      rw [e1, if_pos rfl, e2]
      simp only [AT.toList]
      rw [List.take_left, show l.toList.length + 1 = l.toList.length + 1 from rfl, List.drop_length_add_append]
      rfl
    · rename_i hne
      split
      · rename_i hab
        obtain ⟨e1, e2⟩ := split_list (seed := seed) (key := k) hs
        simp only [AT.toList] at e1 e2 ⊢
        rw [e1, e2]
        have hn : hasL k (AT.node b k' v' l r).toList = false := by
          cases hh2 : hasL k (AT.node b k' v' l r).toList with
          | false => rfl
          | true =>
            exfalso
            have hlt := hasL_rank hh2
            have e := hasL_lt hlt
            rw [hh2] at e
            have e := of_decide_eq_true e.symm
            have hm : (AT.node b k' v' l r).toList[rank k (AT.node b k' v' l r).toList] ∈ (AT.node b k' v' l r).toList := List.getElem_mem hlt
            generalize (AT.node b k' v' l r).toList[rank k (AT.node b k' v' l r).toList] = p at *
            simp only [AT.toList, List.mem_append, List.mem_cons] at hm
            rcases hm with hm | hm | hm
            · exact above_asymm hab (e ▸ q1 p hm)
            · subst hm; exact hne e.symm
            · exact above_asymm hab (e ▸ q2 p hm)
        unfold putL
        simp only [AT.toList] at hn
        rw [hn]
        rfl
      · split
        · rename_i hlt
          simp only [AT.toList]
          rw [ihl h1 hl]
          unfold putL
          have e1 := hasL_node_gt (b := b) (v := v') (l := l) (r := r) hlt
          have e2 := rank_node_ge (b := b) (v := v') (l := l) (r := r) (lt_asymm hlt)
          simp only [AT.toList] at e1 e2
          rw [e1, e2, List.append_assoc, List.cons_append]
          have hle := rank_le k l.toList
          rw [List.take_append_of_le_length hle]
          congr 2
          have hle2 : (if hasL k l.toList then rank k l.toList + 1 else rank k l.toList) ≤ l.toList.length := by
            split
            · rename_i h; exact hasL_rank h
            · exact hle
          rw [List.drop_append_of_le_length hle2]
        · rename_i hnl
          have hlt : Lt k' k := lt_of_not (key := k') hnl (fun e => hne e.symm)
          simp only [AT.toList]
          rw [ihr h2 hr]
          unfold putL
          have e1 := hasL_node_lt hs hlt
          have e2 := rank_node_lt hs hlt
          simp only [AT.toList] at e1 e2
          rw [e1, e2, show l.toList.length + 1 + rank k r.toList = l.toList.length + (rank k r.toList + 1) by omega, List.take_length_add_append, List.take_succ_cons,
            show (if hasL k r.toList = true then l.toList.length + (rank k r.toList + 1) + 1 else l.toList.length + (rank k r.toList + 1)) = l.toList.length + ((if hasL k r.toList = true then rank k r.toList + 1 else rank k r.toList) + 1) by split <;> omega,
            List.drop_length_add_append, List.drop_succ_cons]
          simp
theorem put_heap {seed : Int} {nb : Nat} {k v : List UInt8} {t : AT} (hs : Sorted t.toList) (hh : Heap seed t) : Heap seed (t.put seed nb k v) := by
  induction t with
  | nil => simp [AT.put, Heap, AT.toList]
  | node b k' v' l r ihl ihr =>
    obtain ⟨h1, h2, h3, h4, _⟩ := sorted_node hs
    obtain ⟨q1, q2, hl, hr⟩ := hh
    rw [AT.put]
    split
    · exact ⟨q1, q2, hl, hr⟩
    · rename_i hne
      split
      · rename_i hab
        obtain ⟨i1, i2, i3, i4⟩ := split_heap (key := k) (t := .node b k' v' l r) ⟨q1, q2, hl, hr⟩
        have hall : ∀ p ∈ (AT.node b k' v' l r).toList, Above seed k p.1 := fun p hp => by
          simp only [AT.toList, List.mem_append, List.mem_cons] at hp
          rcases hp with hp | rfl | hp
          · exact above_trans hab (q1 p hp)
          · exact hab
          · exact above_trans hab (q2 p hp)
        exact ⟨fun p hp => hall p (i3 p hp), fun p hp => hall p (i4 p hp), i1, i2⟩
      · rename_i hab
        have hba : Above seed k' k := (above_total (fun e => hne e.symm)).resolve_right hab
        split
        · refine ⟨fun p hp => ?_, q2, ihl h1 hl, hr⟩
          rw [put_list h1 hl] at hp
          rcases mem_putL hp with rfl | hp
          · exact hba
          · exact q1 p hp
        · refine ⟨q1, fun p hp => ?_, hl, ihr h2 hr⟩
          rw [put_list h2 hr] at hp
          rcases mem_putL hp with rfl | hp
          · exact hba
          · exact q2 p hp
theorem put_wf {seed : Int} {nb : Nat} {k v : List UInt8} {t : AT} (h : WF seed t) : WF seed (t.put seed nb k v) := ⟨by rw [put_list h.sorted h.heap]; exact putL_sorted h.sorted, put_heap h.sorted h.heap⟩

theorem mem_dropL {l : PairL} {k : List UInt8} {p : List UInt8 × List UInt8} (h : p ∈ dropL l k) : p ∈ l := by
  unfold dropL at h
  split at h
  · rcases List.mem_append.1 h with h | h
    · exact List.mem_of_mem_take h
    · exact List.mem_of_mem_drop h
  · exact h
theorem find_has {key : List UInt8} {t : AT} (hs : Sorted t.toList) : (t.find key = .nil ∧ hasL key t.toList = false) ∨ (∃ b v l r, t.find key = .node b key v l r ∧ hasL key t.toList = true ∧ getL t.toList key = some v) := by
  induction t with
  | nil => exact .inl ⟨rfl, rfl⟩
  | node b k v l r ihl ihr =>
    obtain ⟨h1, h2, h3, h4, _⟩ := sorted_node hs
    rw [AT.find]
    split
    · rename_i e
      subst e
      obtain ⟨e1, e2⟩ := hasL_node_eq hs
      refine .inr ⟨b, v, l, r, rfl, e1, ?_⟩
      rw [getL, if_pos e1, e2]
      simp [AT.toList]
    · rename_i hne
      split
      · rename_i hlt
        rw [getL, hasL_node_gt hlt, rank_node_ge (lt_asymm hlt)]
        rcases ihl h1 with ⟨i1, i2⟩ | ⟨b', v', l', r', i1, i2, i3⟩
        · exact .inl ⟨i1, i2⟩
        · refine .inr ⟨b', v', l', r', i1, i2, ?_⟩
          rw [getL, if_pos i2] at i3
          rw [if_pos i2, ← i3, AT.toList, List.getElem?_append_left (hasL_rank i2)]
      · rename_i hnl
        have hlt : Lt k key := lt_of_not hnl (fun e => hne e.symm)
        rw [getL, hasL_node_lt hs hlt, rank_node_lt hs hlt]
        rcases ihr h2 with ⟨i1, i2⟩ | ⟨b', v', l', r', i1, i2, i3⟩
        · exact .inl ⟨i1, i2⟩
        · refine .inr ⟨b', v', l', r', i1, i2, ?_⟩
          rw [getL, if_pos i2] at i3
          rw [if_pos i2, ← i3, AT.toList, show l.toList.length + 1 + rank key r.toList = l.toList.length + (rank key r.toList + 1) by omega, List.getElem?_append_right (by omega), Nat.add_sub_cancel_left, List.getElem?_cons_succ]
theorem drop_list {seed : Int} {key : List UInt8} {t : AT} (hs : Sorted t.toList) : (t.drop seed key).toList = dropL t.toList key := by
  induction t with
  | nil => rfl
  | node b k v l r ihl ihr =>
    obtain ⟨h1, h2, h3, h4, _⟩ := sorted_node hs
    rw [AT.drop]
    split
    · rename_i e
      subst e
      obtain ⟨e1, e2⟩ := hasL_node_eq hs
      rw [dropL, if_pos e1, e2, merge_toList, AT.toList, List.take_left, List.drop_length_add_append]
      rfl
    · rename_i hne
      split
      · rename_i hlt
        rw [dropL, hasL_node_gt hlt, rank_node_ge (lt_asymm hlt)]
        simp only [AT.toList]
        rw [ihl h1, dropL]
        split
        · rename_i hh
          have := hasL_rank hh
          rw [List.take_append_of_le_length (Nat.le_of_lt this), List.drop_append_of_le_length (by omega), List.append_assoc]
        · rfl
      · rename_i hnl
        have hlt : Lt k key := lt_of_not hnl (fun e => hne e.symm)
        rw [dropL, hasL_node_lt hs hlt, rank_node_lt hs hlt]
        simp only [AT.toList]
        rw [ihr h2, dropL]
        split
        · rw [show l.toList.length + 1 + rank key r.toList = l.toList.length + (rank key r.toList + 1) by omega, List.take_length_add_append, List.take_succ_cons,
            show l.toList.length + (rank key r.toList + 1) + 1 = l.toList.length + (rank key r.toList + 1 + 1) by omega, List.drop_length_add_append, List.drop_succ_cons]
          simp
        · rfl
theorem drop_heap {seed : Int} {key : List UInt8} {t : AT} (hs : Sorted t.toList) (hh : Heap seed t) : Heap seed (t.drop seed key) := by
  induction t with
  | nil => exact hh
  | node b k v l r ihl ihr =>
    obtain ⟨h1, h2, h3, h4, h5⟩ := sorted_node hs
    obtain ⟨q1, q2, hl, hr⟩ := hh
    rw [AT.drop]
    split
    · exact merge_heap h5 hl hr
    · split
      · exact ⟨fun p hp => q1 p (mem_dropL (by rw [drop_list h1] at hp; exact hp)), q2, ihl h1 hl, hr⟩
      · exact ⟨q1, fun p hp => q2 p (mem_dropL (by rw [drop_list h2] at hp; exact hp)), hl, ihr h2 hr⟩
theorem drop_wf {seed : Int} {key : List UInt8} {t : AT} (h : WF seed t) : WF seed (t.drop seed key) := ⟨by rw [drop_list h.sorted]; exact dropL_sorted h.sorted, drop_heap h.sorted h.heap⟩
theorem split_wf {seed : Int} {key : List UInt8} {t : AT} (h : WF seed t) : WF seed (t.split key).1 ∧ WF seed (t.split key).2 := by
  obtain ⟨e1, e2⟩ := split_list (seed := seed) (key := key) h.sorted
  obtain ⟨i1, i2, _, _⟩ := split_heap (key := key) h.heap
  exact ⟨⟨by rw [e1]; exact sorted_take h.sorted _, i1⟩, ⟨by rw [e2]; exact sorted_drop h.sorted _, i2⟩⟩

end Go.Proofs.Ytdmckjojeddaaaa

namespace Go.Proofs.Ytdmckjojeddaaaa
open Go.Proofs.YtdmckjojeddaaaaPlain

inductive PT where
  | nil
  | node (k v : List UInt8) (l r : PT)
def AT.shape : AT → PT
  | .nil => .nil
  | .node _ k v l r => .node k v l.shape r.shape
def PT.sum (seed : Int) : PT → Int
  | .nil => 0
  | .node k v l r => mark seed (l.sum seed) k v (r.sum seed)
def PT.size : PT → Nat
  | .nil => 0
  | .node _ _ l r => 1 + l.size + r.size
theorem shape_sum (seed : Int) (t : AT) : t.shape.sum seed = t.sum seed := by
  induction t with
  | nil => rfl
  | node b k v l r ihl ihr => simp only [AT.shape, PT.sum, AT.sum, ihl, ihr]
theorem shape_size (t : AT) : t.shape.size = t.size := by
  induction t with
  | nil => rfl
  | node b k v l r ihl ihr => simp only [AT.shape, PT.size, AT.size, ihl, ihr]

def topGo (seed : Int) : PairL → Nat → Nat → Int → Nat
  | [], _, b, _ => b
  | p :: l, i, b, h => if h < height seed p.1 then topGo seed l (i + 1) i (height seed p.1) else topGo seed l (i + 1) b h
/-- The place of the pair at the root; 0 of none. -/
def top (seed : Int) : PairL → Nat
  | [] => 0
  | p :: l => topGo seed l 1 0 (height seed p.1)

def IsTop (seed : Int) (l : PairL) (b : Nat) : Prop := ∃ p, l[b]? = some p ∧ ∀ j q, l[j]? = some q → (j < b → height seed q.1 < height seed p.1) ∧ (b < j → height seed q.1 ≤ height seed p.1)
theorem topGo_is {seed : Int} {pre l : PairL} {b : Nat} {h : Int} (hb : IsTop seed pre b) (hh : ∀ p, pre[b]? = some p → h = height seed p.1) : IsTop seed (pre ++ l) (topGo seed l pre.length b h) := by
  induction l generalizing pre b h with
  | nil => simpa [topGo] using hb
  | cons q l ih =>
    obtain ⟨p, hp, hq⟩ := hb
    have hbl : b < pre.length := (List.getElem?_eq_some_iff.1 hp).1
    have e : pre ++ q :: l = (pre ++ [q]) ++ l := by simp
    rw [topGo]
    split
    · rename_i hlt
      have h0 := hh p hp
      have := ih (pre := pre ++ [q]) (b := pre.length) (h := height seed q.1) ⟨q, by simp, fun j r hj => ⟨fun hj2 => ?_, fun hj2 => ?_⟩⟩ (fun p hp => by simp at hp; rw [hp])
      · rw [List.length_append, List.length_singleton] at this
        rw [e]; exact this
      · rw [List.getElem?_append_left hj2] at hj
        have := hq j r hj
        rcases Nat.lt_trichotomy j b with h1 | h1 | h1
        · have := this.1 h1; omega
        · subst h1; rw [hp] at hj; injection hj with hj; subst hj; omega
        · have := this.2 h1; omega
      · have := (List.getElem?_eq_some_iff.1 hj).1
        rw [List.length_append, List.length_singleton] at this
        omega
    · rename_i hlt
      have h0 := hh p hp
      have := ih (pre := pre ++ [q]) (b := b) (h := h) ⟨p, by rw [List.getElem?_append_left hbl]; exact hp, fun j r hj => ?_⟩ (fun p' hp' => by rw [List.getElem?_append_left hbl, hp] at hp'; exact h0.trans (congrArg (fun x : List UInt8 × List UInt8 => height seed x.1) (Option.some.inj hp')))
      · rw [List.length_append, List.length_singleton] at this
        rw [e]; exact this
      · rcases Nat.lt_or_ge j pre.length with h1 | h1
        · rw [List.getElem?_append_left h1] at hj
          exact hq j r hj
        · have h2 := (List.getElem?_eq_some_iff.1 hj).1
          rw [List.length_append, List.length_singleton] at h2
          have hjl : j = pre.length := by omega
          subst hjl
          simp at hj
          subst hj
          exact ⟨fun h3 => by omega, fun _ => by omega⟩
theorem top_is {seed : Int} {l : PairL} (h : l ≠ []) : IsTop seed l (top seed l) := by
  cases l with
  | nil => exact absurd rfl h
  | cons p l =>
    have := topGo_is (seed := seed) (pre := [p]) (l := l) (b := 0) (h := height seed p.1) ⟨p, rfl, fun j q hj => by
      have := (List.getElem?_eq_some_iff.1 hj).1
      simp at this
      subst this
      exact ⟨fun h => absurd h (Nat.lt_irrefl _), fun h => absurd h (Nat.lt_irrefl _)⟩⟩ (fun p' hp' => congrArg (fun x : List UInt8 × List UInt8 => height seed x.1) (Option.some.inj hp'))
    exact this
theorem top_lt {seed : Int} {l : PairL} (h : l ≠ []) : top seed l < l.length := by
  obtain ⟨p, hp, _⟩ := top_is (seed := seed) h
  exact (List.getElem?_eq_some_iff.1 hp).1
/-- In a list in order one place alone stands above all others. -/
theorem top_unique {seed : Int} {a b : PairL} {p : List UInt8 × List UInt8} (hs : Sorted (a ++ p :: b)) (ha : ∀ q ∈ a, Above seed p.1 q.1) (hb : ∀ q ∈ b, Above seed p.1 q.1) : top seed (a ++ p :: b) = a.length := by
  have hne : a ++ p :: b ≠ [] := by simp
  obtain ⟨r, hr, hq⟩ := top_is (seed := seed) hne
  have hp : (a ++ p :: b)[a.length]? = some p := by simp
  have hall := hq a.length p hp
  rw [sorted_append, sorted_cons] at hs
  obtain ⟨_, ⟨hs2, _⟩, hs3⟩ := hs
  rcases Nat.lt_trichotomy (top seed (a ++ p :: b)) a.length with h | h | h
  · exfalso
    have h2 := hall.2 h
    rw [List.getElem?_append_left h] at hr
    have hm := List.mem_of_getElem? hr
    have h3 := above_iff.1 (ha r hm)
    have h4 := hs3 r hm p List.mem_cons_self
    rcases h3 with h3 | ⟨_, h3⟩
    · omega
    · exact lt_asymm h4 h3
  · exact h
  · exfalso
    have h2 := hall.1 h
    rw [List.getElem?_append_right (by omega)] at hr
    have hm : r ∈ b := by
      obtain ⟨n, hn⟩ : ∃ n, top seed (a ++ p :: b) - a.length = n + 1 := ⟨top seed (a ++ p :: b) - a.length - 1, by omega⟩
      rw [hn, List.getElem?_cons_succ] at hr
      exact List.mem_of_getElem? hr
    have h3 := above_iff.1 (hb r hm)
    rcases h3 with h3 | ⟨h3, _⟩ <;> omega

def buildN (seed : Int) : Nat → PairL → PT
  | 0, _ => .nil
  | n + 1, l => match l[top seed l]? with
    | none => .nil
    | some p => .node p.1 p.2 (buildN seed n (l.take (top seed l))) (buildN seed n (l.drop (top seed l + 1)))
/-- The tree of a map of pairs. -/
def build (seed : Int) (l : PairL) : PT := buildN seed l.length l
theorem buildN_more {seed : Int} : ∀ {n m : Nat} {l : PairL}, l.length ≤ n → l.length ≤ m → buildN seed n l = buildN seed m l := by
  intro n
  induction n with
  | zero =>
    intro m l h1 h2
    have : l = [] := List.eq_nil_of_length_eq_zero (by omega)
    subst this
    cases m <;> simp [buildN]
  | succ n ih =>
    intro m l h1 h2
    cases m with
    | zero =>
      have : l = [] := List.eq_nil_of_length_eq_zero (by omega)
      subst this
      simp [buildN]
    | succ m =>
      simp only [buildN]
      cases hp : l[top seed l]? with
      | none => rfl
      | some p =>
        have hlt := (List.getElem?_eq_some_iff.1 hp).1
        simp only
        rw [ih (m := m) (by rw [List.length_take]; omega) (by rw [List.length_take]; omega), ih (m := m) (by rw [List.length_drop]; omega) (by rw [List.length_drop]; omega)]
theorem build_nil (seed : Int) : build seed [] = .nil := rfl
theorem build_cons {seed : Int} {l : PairL} {p : List UInt8 × List UInt8} (h : l[top seed l]? = some p) : build seed l = .node p.1 p.2 (build seed (l.take (top seed l))) (build seed (l.drop (top seed l + 1))) := by
  have hlt := (List.getElem?_eq_some_iff.1 h).1
  obtain ⟨n, hn⟩ : ∃ n, l.length = n + 1 := ⟨l.length - 1, by omega⟩
  unfold build
  rw [hn, buildN, h]
  simp only
  rw [buildN_more (n := n) (m := (l.take (top seed l)).length) (by rw [List.length_take]; omega) (Nat.le_refl _), buildN_more (n := n) (m := (l.drop (top seed l + 1)).length) (by rw [List.length_drop]; omega) (Nat.le_refl _)]
theorem shape_build {seed : Int} {t : AT} (h : WF seed t) : t.shape = build seed t.toList := by
  induction t with
  | nil => rfl
  | node b k v l r ihl ihr =>
    obtain ⟨h1, h2, _, _, _⟩ := sorted_node h.sorted
    obtain ⟨q1, q2, q3, q4⟩ := h.heap
    have ht : top seed (AT.node b k v l r).toList = l.toList.length := top_unique h.sorted q1 q2
    have hp : (AT.node b k v l r).toList[top seed (AT.node b k v l r).toList]? = some (k, v) := by rw [ht]; simp [AT.toList]
    rw [build_cons hp, ht]
    simp only [AT.shape, AT.toList]
    rw [ihl ⟨h1, q3⟩, ihr ⟨h2, q4⟩, List.take_left, List.drop_length_add_append]
    rfl
def digest (seed : Int) (l : PairL) : Int := (build seed l).sum seed
theorem digest_eq {seed : Int} {t : AT} (h : WF seed t) : t.sum seed = digest seed t.toList := by rw [digest, ← shape_build h, shape_sum]
theorem shape_toList_size (seed : Int) {t : AT} : t.size = t.toList.length := by
  have _s := seed
  exact (toList_length t).symm

end Go.Proofs.Ytdmckjojeddaaaa

namespace Go.Proofs.Ytdmckjojeddaaaa
open Go.Proofs.YtdmckjojeddaaaaPlain

structure NodeV where
  key : List UInt8
  value : List UInt8
  digest : Int
  size : Nat
  left : Int
  right : Int
def PT.at_ : PT → Nat → Int
  | .nil, _ => -1
  | .node _ _ _ _, i => (i : Int)
def PT.nodes (seed : Int) : Nat → PT → List NodeV
  | _, .nil => []
  | i, .node k v l r => ⟨k, v, mark seed (l.sum seed) k v (r.sum seed), 1 + l.size + r.size, l.at_ (i + 1), r.at_ (i + 1 + l.size)⟩ :: (PT.nodes seed (i + 1) l ++ PT.nodes seed (i + 1 + l.size) r)
theorem nodes_length (seed : Int) (i : Nat) (t : PT) : (t.nodes seed i).length = t.size := by
  induction t generalizing i with
  | nil => rfl
  | node k v l r ihl ihr => simp only [PT.nodes, PT.size, List.length_cons, List.length_append, ihl, ihr]; omega
theorem build_size (seed : Int) (l : PairL) : (build seed l).size = l.length := by
  generalize hn : l.length = n
  induction n using Nat.strongRecOn generalizing l with
  | ind n ih =>
    cases hp : l[top seed l]? with
    | none =>
      have : l = [] := by
        cases l with
        | nil => rfl
        | cons p l => exact absurd (top_lt (seed := seed) (l := p :: l) (by simp)) (by rw [List.getElem?_eq_none_iff] at hp; omega)
      subst this
      subst hn
      rfl
    | some p =>
      have hlt := (List.getElem?_eq_some_iff.1 hp).1
      rw [build_cons hp, PT.size, ih _ (by rw [List.length_take]; omega) _ rfl, ih _ (by rw [List.length_drop]; omega) _ rfl, List.length_take, List.length_drop]
      omega
theorem top_some {seed : Int} {l : PairL} (h : l ≠ []) : ∃ p, l[top seed l]? = some p := ⟨_, List.getElem?_eq_getElem (top_lt h)⟩
theorem build_nil_iff {seed : Int} {l : PairL} : build seed l = .nil ↔ l = [] := by
  constructor
  · intro h
    have := build_size seed l
    rw [h] at this
    exact List.eq_nil_of_length_eq_zero this.symm
  · rintro rfl; rfl
/-- The nodes of the map of some pairs. -/
def nodesL (seed : Int) (l : PairL) : List NodeV := (build seed l).nodes seed 0
theorem nodesL_length (seed : Int) (l : PairL) : (nodesL seed l).length = l.length := by rw [nodesL, nodes_length, build_size]
theorem digest_head {seed : Int} {l : PairL} : digest seed l = match nodesL seed l with | [] => 0 | x :: _ => x.digest := by
  unfold digest nodesL
  cases build seed l <;> rfl
theorem size_head {seed : Int} {l : PairL} {x : NodeV} (h : (nodesL seed l)[0]? = some x) : x.size = l.length ∧ digest seed l = x.digest := by
  have := build_size seed l
  unfold digest
  unfold nodesL at h
  cases hb : build seed l with
  | nil => rw [hb] at h; cases h
  | node k v a b =>
    rw [hb] at h this
    simp [PT.nodes] at h
    subst h
    exact ⟨this, rfl⟩
end Go.Proofs.Ytdmckjojeddaaaa
